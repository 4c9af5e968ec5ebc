/- follow.Check. -/
import Derived.Test.YteglomhhiacioaaGreatFName
import Derived.Laws.Strings
namespace Go.Den.VvF
open Go.Proofs
set_option maxRecDepth 100000

/-- is the place at i one that may stand there? -/
def okAt (l : List PL) (i : Nat) : Bool :=
  match l[i]? with
  | none => true
  | some p => nameB p.name && (decide (1 ≤ p.next) && (decide (p.next ≤ 1000000001) && (match i with | 0 => true | j + 1 => match l[j]? with | some q => Op.bytesLess q.name p.name | none => true)))
def chkB (l : List PL) : Bool := decide (l.length ≤ 50) && (List.range l.length).all (okAt l)
def chkV (l : List PL) : Value := i64 (bif chkB l then 0 else 180)

theorem chk_false {l : List PL} {i : Nat} (hi : i < l.length) (h : okAt l i = false) : chkB l = false := by
  have : (List.range l.length).all (okAt l) = false := by
    rw [List.all_eq_false]; exact ⟨i, List.mem_range.2 hi, by simp [h]⟩
  unfold chkB; rw [this, Bool.and_false]
theorem chk_true {l : List PL} (h50 : l.length ≤ 50) (h : ∀ i, i < l.length → okAt l i = true) : chkB l = true := by
  unfold chkB
  have : (List.range l.length).all (okAt l) = true := by
    rw [List.all_eq_true]; intro i hi; exact h i (List.mem_range.1 hi)
  rw [this]; simpa using h50
theorem chkV_false {l : List PL} (h : chkB l = false) : i64 180 = chkV l := by unfold chkV; rw [h]; rfl
theorem chkV_true {l : List PL} (h : chkB l = true) : i64 0 = chkV l := by unfold chkV; rw [h]; rfl

theorem nameV_eq (s : List UInt8) : eqI (bif nameB s then 0 else 180) 0 = nameB s := by cases nameB s <;> rfl
theorem str_geq (a b : List UInt8) : (!Op.bytesLess (ByteArray.toList ⟨⟨a⟩⟩) (ByteArray.toList ⟨⟨b⟩⟩)) = !Op.bytesLess a b := by
  rw [ByteArray.toList_eq, ByteArray.toList_eq]

def psH (l : List PL) (fz : Nat) (mk : Bool) : AHeap := hp 1 [(0, .cells (plC l) T_p fz mk)]

section
variable (l : List PL) (c fz : Nat) (mk : Bool)
noncomputable def fcI : St := entS E0 F_fCheck [slv 0 0 l.length c] (psH l fz mk)
noncomputable def fcS (i : Nat) : St := reS [(0, slv 0 0 l.length c), (8, slv 0 0 l.length c), (9, nat l.length), (10, nat i)] [] (psH l fz mk) (toS E0 1 (.loop F_fCheck) (slS 7 (.bool false) (toS E0 1 (.cond F_fCheck 7) (fcI l c fz mk))))

theorem fCheck_does (hn : l.length < 9223372036854775807) : Does E0 F_fCheck 1 [slv 0 0 l.length c] (psH l fz mk) (chkV l) (psH l fz mk) := by
  have hfl : FlatO (.cells (plC l) T_p fz mk) := .of (plC_scalar l)
  refine Does.of (by kernel_rfl) ?_
  show Ends E0 F_fCheck 1 _ (fcI l c fz mk)
  refine Ends.goto E0_good 1 (.cond F_fCheck 7) (by kernel_rfl) ?_
  by_cases h50 : 50 < l.length
  · refine Ends.sl 7 (boolV (!leI (.ofNat l.length) 50)) (.bool true) (by kernel_rfl) (bv (by rw [leI_false (by simp; omega)]; rfl)) ?_
    refine Ends.done E0_good 100 (v := i64 180) (H := psH l fz mk) (by kernel_rfl) ⟨?_, rfl⟩
    exact chkV_false (by unfold chkB; simp; omega)
  refine Ends.sl 7 (boolV (!leI (.ofNat l.length) 50)) (.bool false) (by kernel_rfl) (bv (by rw [leI_true (by simp; omega)]; rfl)) ?_
  have loop : ∀ d i, d + i = l.length → (∀ j, j < i → okAt l j = true) → Ends E0 F_fCheck 1 (fun v' H' => v' = chkV l ∧ H' = psH l fz mk) (fcS l c fz mk i) := by
    intro d
    induction d with
    | zero =>
      intro i hi hall
      refine Ends.goto E0_good 1 (.cond F_fCheck 11) (by kernel_rfl) ?_
      refine Ends.sl 11 (boolV (!leI (.ofNat l.length) (.ofNat i))) (.bool false) (by kernel_rfl) (lt_false (by omega)) ?_
      refine Ends.done E0_good 100 (v := i64 0) (H := psH l fz mk) (by kernel_rfl) ⟨?_, rfl⟩
      exact chkV_true (chk_true (by omega) fun j hj => hall j (by omega))
    | succ d ih =>
      intro i hi hall
      have hlt : i < l.length := by omega
      obtain ⟨p, hp⟩ : ∃ p, l[i]? = some p := ⟨_, List.getElem?_eq_getElem hlt⟩
      refine Ends.goto E0_good 1 (.cond F_fCheck 11) (by kernel_rfl) ?_
      refine Ends.sl 11 (boolV (!leI (.ofNat l.length) (.ofNat i))) (.bool true) (by kernel_rfl) (lt_true (by omega)) ?_
      refine Ends.goto E0_good 1 (.op F_fCheck 13) (by kernel_rfl) ?_
      refine Ends.idx E0_good T_ps T_p 2 0 0 l.length c i (by kernel_rfl) (by kernel_rfl) (by kernel_rfl) hlt (by kernel_rfl) ?_
      refine Ends.ld2 E0_good T_p 0 (0 + i * 2) T_p fz mk (plC l) (str p.name) (i64 p.next) (by kernel_rfl) (by kernel_rfl) (by kernel_rfl) (by kernel_rfl)
        (by rw [Nat.zero_add]; exact plC_name hp) (by rw [Nat.zero_add]; exact plC_next hp) (by kernel_rfl) ?_
      refine Ends.goto E0_good 0 (.op F_fCheck 17) (by kernel_rfl) ?_
      refine Ends.call0 E0_good F_nCheck [str p.name] _ (nCheck_does _) rfl rfl (by kernel_rfl) (by kernel_rfl) (by kernel_rfl) ?_
      have fail : okAt l i = false → i64 180 = chkV l := fun h => chkV_false (chk_false hlt h)
      refine Ends.goto E0_good 0 (.op F_fCheck 20) (by kernel_rfl) ?_
      cases h1 : nameB p.name with
      | false =>
        refine Ends.sl 19 (boolV (!eqI (bif nameB p.name then 0 else 180) 0)) (.bool true) (by kernel_rfl) (bv (by rw [nameV_eq, h1]; rfl)) ?_
        refine Ends.goto E0_good 0 (.ret F_fCheck) (by kernel_rfl) ?_
        refine Ends.norm [(0, 0)] [(0, .cells (plC l) T_p fz mk)] 1 [2] [] (by kernel_rfl) (by kernel_rfl) ⟨by kernel_rfl, hfl, trivial⟩ ?_
        refine Ends.done E0_good 100 (v := i64 180) (H := psH l fz mk) (by kernel_rfl) ⟨fail ?_, rfl⟩
        unfold okAt; simp only [hp, h1, Bool.false_and]
      | true =>
      refine Ends.sl 19 (boolV (!eqI (bif nameB p.name then 0 else 180) 0)) (.bool false) (by kernel_rfl) (bv (by rw [nameV_eq, h1]; rfl)) ?_
      refine Ends.goto E0_good 0 (.op F_fCheck 25) (by kernel_rfl) ?_
      by_cases h2 : p.next < 1
      · refine Ends.sl 24 (boolV (!leI 1 p.next)) (.bool true) (by kernel_rfl) (bv (by rw [leI_false h2]; rfl)) ?_
        refine Ends.goto E0_good 0 (.ret F_fCheck) (by kernel_rfl) ?_
        refine Ends.norm [(0, 0)] [(0, .cells (plC l) T_p fz mk)] 1 [2] [] (by kernel_rfl) (by kernel_rfl) ⟨by kernel_rfl, hfl, trivial⟩ ?_
        refine Ends.done E0_good 100 (v := i64 180) (H := psH l fz mk) (by kernel_rfl) ⟨fail ?_, rfl⟩
        unfold okAt; simp only [hp, h1, Bool.true_and]
        rw [show decide (1 ≤ p.next) = false by simpa using h2]; rfl
      refine Ends.sl 24 (boolV (!leI 1 p.next)) (.bool false) (by kernel_rfl) (bv (by rw [leI_true (by omega)]; rfl)) ?_
      refine Ends.goto E0_good 0 (.op F_fCheck 30) (by kernel_rfl) ?_
      by_cases h3 : 1000000001 < p.next
      · refine Ends.sl 29 (boolV (!leI p.next 1000000001)) (.bool true) (by kernel_rfl) (bv (by rw [leI_false h3]; rfl)) ?_
        refine Ends.goto E0_good 0 (.ret F_fCheck) (by kernel_rfl) ?_
        refine Ends.norm [(0, 0)] [(0, .cells (plC l) T_p fz mk)] 1 [2] [] (by kernel_rfl) (by kernel_rfl) ⟨by kernel_rfl, hfl, trivial⟩ ?_
        refine Ends.done E0_good 100 (v := i64 180) (H := psH l fz mk) (by kernel_rfl) ⟨fail ?_, rfl⟩
        unfold okAt; simp only [hp, h1, Bool.true_and]
        rw [show decide (p.next ≤ 1000000001) = false by simpa using h3]; simp
      refine Ends.sl 29 (boolV (!leI p.next 1000000001)) (.bool false) (by kernel_rfl) (bv (by rw [leI_true (by omega)]; rfl)) ?_
      have d2 : decide (1 ≤ p.next) = true := by simpa using Int.not_lt.1 h2
      have d3 : decide (p.next ≤ 1000000001) = true := by simpa using Int.not_lt.1 h3
      refine Ends.goto E0_good 0 (.op F_fCheck 33) (by kernel_rfl) ?_
      cases i with
      | zero =>
        refine Ends.sl 32 (boolV (!leI (.ofNat 0) 0)) (.bool false) (by kernel_rfl) rfl ?_
        refine Ends.goto E0_good 0 (.loop F_fCheck) (by kernel_rfl) ?_
        refine Ends.norm [(0, 0)] [(0, .cells (plC l) T_p fz mk)] 1 [0, 8, 9, 10] [] (by kernel_rfl) (by kernel_rfl) ⟨by kernel_rfl, hfl, trivial⟩ ?_
        refine Ends.to (fcS l c fz mk 1) (by kernel_rfl) ?_
        refine ih 1 (by omega) fun j hj => ?_
        obtain rfl : j = 0 := by omega
        unfold okAt; simp only [hp, h1, d2, d3, Bool.true_and]
      | succ j =>
      obtain ⟨q, hq⟩ : ∃ q, l[j]? = some q := ⟨_, List.getElem?_eq_getElem (show j < l.length by omega)⟩
      refine Ends.sl 32 (boolV (!leI (.ofNat (j + 1)) 0)) (.bool true) (by kernel_rfl) (bv (by rw [leI_false (by simp <;> omega)]; rfl)) ?_
      refine Ends.goto E0_good 0 (.op F_fCheck 36) (by kernel_rfl) ?_
      refine Ends.sl 35 (i64 (wrapF .i64 (.ofNat (j + 1) - 1))) (nat j) (by kernel_rfl) (by rw [wrapF_i64 (by constructor <;> simp <;> omega)]; show i64 _ = i64 _; congr 1; simp) ?_
      refine Ends.fidx E0_good T_ps T_p 2 0 0 l.length c j (by kernel_rfl) (by kernel_rfl) (by kernel_rfl) (by omega) ?_
      refine Ends.goto E0_good 0 (.op F_fCheck 38) (by kernel_rfl) ?_
      refine Ends.fld E0_good T_str 0 (0 + j * 2) T_p fz mk (plC l) (str q.name) (by kernel_rfl) (by kernel_rfl) (by kernel_rfl) (by rw [Nat.zero_add]; exact plC_name hq) ?_
      refine Ends.goto E0_good 0 (.cond F_fCheck 43) (by kernel_rfl) ?_
      cases h4 : Op.bytesLess q.name p.name with
      | false =>
        refine Ends.sl 43 (.bool (!Op.bytesLess (ByteArray.toList ⟨⟨q.name⟩⟩) (ByteArray.toList ⟨⟨p.name⟩⟩))) (.bool true) (by kernel_rfl) (by rw [str_geq, h4]; rfl) ?_
        refine Ends.goto E0_good 0 (.ret F_fCheck) (by kernel_rfl) ?_
        refine Ends.norm [(0, 0)] [(0, .cells (plC l) T_p fz mk)] 1 [2] [] (by kernel_rfl) (by kernel_rfl) ⟨by kernel_rfl, hfl, trivial⟩ ?_
        refine Ends.done E0_good 100 (v := i64 180) (H := psH l fz mk) (by kernel_rfl) ⟨fail ?_, rfl⟩
        unfold okAt; simp only [hp, h1, d2, d3, hq, h4, Bool.true_and]
      | true =>
        refine Ends.sl 43 (.bool (!Op.bytesLess (ByteArray.toList ⟨⟨q.name⟩⟩) (ByteArray.toList ⟨⟨p.name⟩⟩))) (.bool false) (by kernel_rfl) (by rw [str_geq, h4]; rfl) ?_
        refine Ends.goto E0_good 0 (.loop F_fCheck) (by kernel_rfl) ?_
        refine Ends.sl 10 (i64 (wrapF .i64 (.ofNat (j + 1) + 1))) (nat (j + 2)) (by kernel_rfl) (succ_i64 (by omega)) ?_
        refine Ends.norm [(0, 0)] [(0, .cells (plC l) T_p fz mk)] 1 [0, 8, 9, 10] [] (by kernel_rfl) (by kernel_rfl) ⟨by kernel_rfl, hfl, trivial⟩ ?_
        refine Ends.to (fcS l c fz mk (j + 2)) (by kernel_rfl) ?_
        refine ih (j + 2) (by omega) fun j' hj => ?_
        by_cases e : j' < j + 1
        · exact hall j' e
        · obtain rfl : j' = j + 1 := by omega
          unfold okAt; simp only [hp, h1, d2, d3, hq, h4, Bool.true_and]
  refine Ends.goto E0_good 1 (.loop F_fCheck) (by kernel_rfl) ?_
  refine Ends.norm [(0, 0)] [(0, .cells (plC l) T_p fz mk)] 1 [0, 8, 9, 10] [] (by kernel_rfl) (by kernel_rfl) ⟨by kernel_rfl, hfl, trivial⟩ ?_
  refine Ends.to (fcS l c fz mk 0) (by kernel_rfl) ?_
  exact loop l.length 0 (by omega) (by omega)
end

theorem fCheck_nil : Does E0 F_fCheck 0 [.slice none 0 0] (hp 0 []) (i64 0) (hp 0 []) :=
  Does.of (by kernel_rfl) (Ends.done E0_good 100 (by kernel_rfl) ⟨rfl, rfl⟩)
end Go.Den.VvF
