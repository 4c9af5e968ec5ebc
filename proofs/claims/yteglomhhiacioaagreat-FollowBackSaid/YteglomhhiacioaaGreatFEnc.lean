/- follow.Encode. -/
import Derived.Test.YteglomhhiacioaaGreatFBld
import Derived.Test.YteglomhhiacioaaGreatFCheck
namespace Go.Den.VvF
open Go.Proofs
set_option maxRecDepth 100000

/-- a place's bytes -/
def recB (p : PL) : List UInt8 := putB p.name.length ++ p.name ++ putB p.next.toNat
/-- places' bytes -/
def encB (l : List PL) : List UInt8 := putB l.length ++ (l.map recB).flatten
def encV (l : List PL) : Value := bif chkB l then .tuple ⟨[str (encB l), i64 0]⟩ else .tuple ⟨[str [], i64 180]⟩
def accB (l : List PL) (i : Nat) : List UInt8 := putB l.length ++ ((l.take i).map recB).flatten

theorem accB_succ {l : List PL} {i : Nat} {p : PL} (h : l[i]? = some p) : accB l (i + 1) = accB l i ++ putB p.name.length ++ p.name ++ putB p.next.toNat := by
  unfold accB
  rw [List.take_add_one, h]
  simp [recB]
theorem accB_all {l : List PL} {i : Nat} (h : l.length ≤ i) : accB l i = encB l := by
  unfold accB encB
  rw [List.take_of_length_le h]

/-- what Check tells of a place -/
theorem chkB_at {l : List PL} (h : chkB l = true) {i : Nat} {p : PL} (hp : l[i]? = some p) : nameB p.name = true ∧ 1 ≤ p.next ∧ p.next ≤ 1000000001 ∧ ∀ j, i = j + 1 → ∀ q, l[j]? = some q → Op.bytesLess q.name p.name = true := by
  unfold chkB at h
  simp only [Bool.and_eq_true, List.all_eq_true] at h
  have hi : i < l.length := by
    rcases Nat.lt_or_ge i l.length with h1 | h1
    · exact h1
    · rw [List.getElem?_eq_none h1] at hp; cases hp
  have h1 := h.2 i (List.mem_range.2 hi)
  unfold okAt at h1
  rw [hp] at h1
  simp only [Bool.and_eq_true, decide_eq_true_eq] at h1
  refine ⟨h1.1, h1.2.1, h1.2.2.1, fun j hj q hq => ?_⟩
  subst hj
  have h2 := h1.2.2.2
  simp only [hq] at h2
  exact h2
theorem chkB_length {l : List PL} (h : chkB l = true) : l.length ≤ 50 := by
  unfold chkB at h
  simp only [Bool.and_eq_true, decide_eq_true_eq] at h
  exact h.1
theorem nameB_length {s : List UInt8} (h : nameB s = true) : 1 ≤ s.length ∧ s.length ≤ 64 := by
  unfold nameB at h
  simp only [Bool.and_eq_true, decide_eq_true_eq] at h
  exact h.1
theorem accB_length {l : List PL} (h : chkB l = true) : ∀ i, i ≤ l.length → (accB l i).length ≤ 9 + 100 * i
  | 0, _ => by
    have := putB_length 8 l.length (by have := chkB_length h; omega)
    simp [accB]; omega
  | i + 1, hi => by
    obtain ⟨p, hp⟩ : ∃ p, l[i]? = some p := ⟨_, List.getElem?_eq_getElem (show i < l.length by omega)⟩
    have ih := accB_length h i (by omega)
    obtain ⟨h1, h2, h3, _⟩ := chkB_at h hp
    have h4 := nameB_length h1
    have h5 := putB_length 8 p.name.length (by omega)
    have h6 := putB_length 8 p.next.toNat (by omega)
    rw [accB_succ hp]
    simp only [List.length_append]
    omega

section
variable (l : List PL) (c fz : Nat) (mk : Bool)
noncomputable def feI : St := entS E0 F_fEncode [slv 0 0 l.length c] (psH l fz mk)
def feH (acc : List UInt8) : AHeap := hp 3 [(0, .cells (plC l) T_p fz mk), (1, bldO 1 2 acc.length), (2, byO acc)]
noncomputable def feC : St := slS 11 (.bool false) (toS E0 0 (.cond F_fEncode 11) (opS E0 (chkV l) (mergeH [(0, 0)] 1 [0] (toS E0 1 (.op F_fEncode 9) (feI l c fz mk)).heap (psH l fz mk)) (toS E0 1 (.op F_fEncode 9) (feI l c fz mk))))
noncomputable def feP : St := toS E0 0 (.op F_fEncode 15) (feC l c fz mk)
noncomputable def feL : St := toS E0 0 (.loop F_fEncode) (opS E0 (.tuple ⟨[]⟩) (mergeH [(1, 0)] 1 [1] (feP l c fz mk).heap (bldH (putB l.length))) (feP l c fz mk))
noncomputable def feS (acc : List UInt8) (i : Nat) : St := reS [(5, ptr 1 0), (16, slv 0 0 l.length c), (17, nat l.length), (18, nat i)] [] (feH l fz mk acc) (feL l c fz mk)

theorem fEncode_does (hn : l.length < 9223372036854775807) : Does E0 F_fEncode 1 [slv 0 0 l.length c] (psH l fz mk) (encV l) (psH l fz mk) := by
  have hfl : FlatO (.cells (plC l) T_p fz mk) := .of (plC_scalar l)
  refine Does.of (by kernel_rfl) ?_
  show Ends E0 F_fEncode 1 _ (feI l c fz mk)
  refine Ends.goto E0_good 1 (.op F_fEncode 9) (by kernel_rfl) ?_
  refine Ends.callD E0_good F_fCheck [(0, 0)] 1 [(0, .cells (plC l) T_p fz mk)] [(0, .cells (plC l) T_p fz mk)] [slv 0 0 l.length c] [slv 0 0 l.length c] (psH l fz mk) (chkV l) (chkV l) (psH l fz mk) (fCheck_does l c fz mk hn)
    (by kernel_rfl) (by kernel_rfl) (by kernel_rfl) (by kernel_rfl) (by kernel_rfl) ⟨by kernel_rfl, hfl, trivial⟩ ⟨by kernel_rfl, hfl, trivial⟩ (by kernel_rfl) (by kernel_rfl) ?_
  refine Ends.goto E0_good 0 (.cond F_fEncode 11) (by kernel_rfl) ?_
  cases hc : chkB l with
  | false =>
    refine Ends.sl 11 (boolV (!eqI (bif chkB l then 0 else 180) 0)) (.bool true) (by kernel_rfl) (bv (by rw [hc]; rfl)) ?_
    refine Ends.goto E0_good 0 (.ret F_fEncode) (by kernel_rfl) ?_
    refine Ends.norm [(0, 0)] [(0, .cells (plC l) T_p fz mk)] 1 [2, 3] [] (by kernel_rfl) (by kernel_rfl) ⟨by kernel_rfl, hfl, trivial⟩ ?_
    refine Ends.done E0_good 100 (v := .tuple ⟨[str [], chkV l]⟩) (H := psH l fz mk) (by kernel_rfl) ⟨?_, rfl⟩
    unfold encV chkV; rw [hc]; rfl
  | true =>
  have h50 := chkB_length hc
  refine Ends.sl 11 (boolV (!eqI (bif chkB l then 0 else 180) 0)) (.bool false) (by kernel_rfl) (bv (by rw [hc]; rfl)) ?_
  show Ends E0 F_fEncode 1 _ (feC l c fz mk)
  refine Ends.goto E0_good 0 (.op F_fEncode 15) (by kernel_rfl) ?_
  show Ends E0 F_fEncode 1 _ (feP l c fz mk)
  refine Ends.callD E0_good F_put [(1, 0)] 1 [] [(1, byO (putB l.length))] [ptr 1 0, nat l.length] [ptr 0 0, nat l.length] (hp 1 [(0, bld0)]) (.tuple ⟨[]⟩) (.tuple ⟨[]⟩) (bldH (putB l.length)) (put0_does l.length (by omega))
    (by kernel_rfl) (by kernel_rfl) (by kernel_rfl) (by kernel_rfl) (by kernel_rfl) trivial ⟨by kernel_rfl, byO_flat _, trivial⟩ (by kernel_rfl) (by kernel_rfl) ?_
  have loop : ∀ d i, d + i = l.length → Ends E0 F_fEncode 1 (fun v' H' => v' = encV l ∧ H' = psH l fz mk) (feS l c fz mk (accB l i) i) := by
    intro d
    induction d with
    | zero =>
      intro i hi
      have hal := accB_length hc i (by omega)
      have hne : accB l i ≠ [] := by
        unfold accB
        intro h
        have := congrArg List.length h
        have h1 := putB_pos l.length
        simp at this
        rw [this.1] at h1; simp at h1
      refine Ends.goto E0_good 1 (.cond F_fEncode 19) (by kernel_rfl) ?_
      refine Ends.sl 19 (boolV (!leI (.ofNat l.length) (.ofNat i))) (.bool false) (by kernel_rfl) (lt_false (by omega)) ?_
      refine Ends.goto E0_good 0 (.op F_fEncode 33) (by kernel_rfl) ?_
      refine Ends.callD E0_good F_bString [(1, 0), (2, 1)] 2 [(2, byO (accB l i))] [(1, byF (accB l i) (max 0 (accB l i).length))] [ptr 1 0] [ptr 0 0] (bldH (accB l i)) (str (accB l i)) (str (accB l i)) (hp 2 [(0, bldO 0 1 (accB l i).length), (1, byF (accB l i) (max 0 (accB l i).length))])
        (bString_does _ hne (by omega)) (by kernel_rfl) (by kernel_rfl) (by kernel_rfl) (by kernel_rfl) (by kernel_rfl) ⟨by kernel_rfl, byO_flat _, trivial⟩ ⟨by kernel_rfl, .of (bytesV_scalar _), trivial⟩ (by kernel_rfl) (by kernel_rfl) ?_
      refine Ends.goto E0_good 0 (.ret F_fEncode) (by kernel_rfl) ?_
      refine Ends.norm [(0, 0)] [(0, .cells (plC l) T_p fz mk)] 1 [2, 3] [] (by kernel_rfl) (by kernel_rfl) ⟨by kernel_rfl, hfl, trivial⟩ ?_
      refine Ends.done E0_good 100 (v := .tuple ⟨[str (accB l i), i64 0]⟩) (H := psH l fz mk) (by kernel_rfl) ⟨?_, rfl⟩
      unfold encV; rw [hc, accB_all (by omega)]; rfl
    | succ d ih =>
      intro i hi
      have hlt : i < l.length := by omega
      obtain ⟨p, hp⟩ : ∃ p, l[i]? = some p := ⟨_, List.getElem?_eq_getElem hlt⟩
      have hal := accB_length hc i (by omega)
      obtain ⟨h1, h2, h3, _⟩ := chkB_at hc hp
      have h4 := nameB_length h1
      have hp5 := putB_length 8 p.name.length (by omega)
      refine Ends.goto E0_good 1 (.cond F_fEncode 19) (by kernel_rfl) ?_
      refine Ends.sl 19 (boolV (!leI (.ofNat l.length) (.ofNat i))) (.bool true) (by kernel_rfl) (lt_true (by omega)) ?_
      refine Ends.goto E0_good 0 (.op F_fEncode 20) (by kernel_rfl) ?_
      refine Ends.idx E0_good T_ps T_p 2 0 0 l.length c i (by kernel_rfl) (by kernel_rfl) (by kernel_rfl) hlt (by kernel_rfl) ?_
      refine Ends.ld2 E0_good T_p 0 (0 + i * 2) T_p fz mk (plC l) (str p.name) (i64 p.next) (by kernel_rfl) (by kernel_rfl) (by kernel_rfl) (by kernel_rfl)
        (by rw [Nat.zero_add]; exact plC_name hp) (by rw [Nat.zero_add]; exact plC_next hp) (by kernel_rfl) ?_
      refine Ends.goto E0_good 0 (.op F_fEncode 25) (by kernel_rfl) ?_
      refine Ends.callD E0_good F_put [(1, 0), (2, 1)] 2 [(2, byO (accB l i))] [(2, byO (accB l i ++ putB p.name.length))] [ptr 1 0, nat p.name.length] [ptr 0 0, nat p.name.length] (bldH (accB l i)) (.tuple ⟨[]⟩) (.tuple ⟨[]⟩) _ (putN_does (accB l i) p.name.length (by omega) (by omega))
        (by kernel_rfl) (by kernel_rfl) (by kernel_rfl) (by kernel_rfl) (by kernel_rfl) ⟨by kernel_rfl, byO_flat _, trivial⟩ ⟨by kernel_rfl, byO_flat _, trivial⟩ (by kernel_rfl) (by kernel_rfl) ?_
      refine Ends.goto E0_good 0 (.op F_fEncode 28) (by kernel_rfl) ?_
      have hp6 := putB_length 8 p.next.toNat (by omega)
      refine Ends.callD E0_good F_bWriteString [(1, 0), (4, 1)] 2 [(4, byO (accB l i ++ putB p.name.length))] [(2, byO (accB l i ++ putB p.name.length ++ p.name))] [ptr 1 0, str p.name] [ptr 0 0, str p.name] (bldH (accB l i ++ putB p.name.length)) (.tuple ⟨[nat p.name.length, .nilIface]⟩) (.tuple ⟨[nat p.name.length, .nilIface]⟩) _
        (writeN_does (accB l i ++ putB p.name.length) p.name (by rw [List.length_append]; omega) (fun h => by rw [h] at h4; simp at h4))
        (by kernel_rfl) (by kernel_rfl) (by kernel_rfl) (by kernel_rfl) (by kernel_rfl) ⟨by kernel_rfl, byO_flat _, trivial⟩ ⟨by kernel_rfl, byO_flat _, trivial⟩ (by kernel_rfl) (by kernel_rfl) ?_
      refine Ends.goto E0_good 0 (.op F_fEncode 31) (by kernel_rfl) ?_
      refine Ends.sl 30 (i64 p.next) (nat p.next.toNat) (by kernel_rfl) (by show i64 p.next = i64 (p.next.toNat : Int); rw [Int.toNat_of_nonneg (by omega)]) ?_
      refine Ends.callD E0_good F_put [(1, 0), (5, 1)] 2 [(5, byO (accB l i ++ putB p.name.length ++ p.name))] [(2, byO (accB l i ++ putB p.name.length ++ p.name ++ putB p.next.toNat))] [ptr 1 0, nat p.next.toNat] [ptr 0 0, nat p.next.toNat] (bldH (accB l i ++ putB p.name.length ++ p.name)) (.tuple ⟨[]⟩) (.tuple ⟨[]⟩) _
        (putN_does (accB l i ++ putB p.name.length ++ p.name) p.next.toNat (by omega) (by simp only [List.length_append]; omega))
        (by kernel_rfl) (by kernel_rfl) (by kernel_rfl) (by kernel_rfl) (by kernel_rfl) ⟨by kernel_rfl, byO_flat _, trivial⟩ ⟨by kernel_rfl, byO_flat _, trivial⟩ (by kernel_rfl) (by kernel_rfl) ?_
      refine Ends.goto E0_good 0 (.loop F_fEncode) (by kernel_rfl) ?_
      refine Ends.sl 18 (i64 (wrapF .i64 (.ofNat i + 1))) (nat (i + 1)) (by kernel_rfl) (succ_i64 (by omega)) ?_
      refine Ends.norm [(0, 0), (1, 1), (6, 2)] [(0, .cells (plC l) T_p fz mk), (6, byO (accB l i ++ putB p.name.length ++ p.name ++ putB p.next.toNat))] 3 [5, 16, 17, 18] [] (by kernel_rfl) (by kernel_rfl) ⟨by kernel_rfl, hfl, by kernel_rfl, byO_flat _, trivial⟩ ?_
      refine Ends.to (feS l c fz mk (accB l i ++ putB p.name.length ++ p.name ++ putB p.next.toNat) (i + 1)) (by kernel_rfl) ?_
      have := ih (i + 1) (by omega)
      rw [accB_succ hp] at this
      exact this
  refine Ends.goto E0_good 0 (.loop F_fEncode) (by kernel_rfl) ?_
  show Ends E0 F_fEncode 1 _ (feL l c fz mk)
  refine Ends.norm [(0, 0), (1, 1), (2, 2)] [(0, .cells (plC l) T_p fz mk), (2, byO (putB l.length))] 3 [5, 16, 17, 18] [] (by kernel_rfl) (by kernel_rfl) ⟨by kernel_rfl, hfl, by kernel_rfl, byO_flat _, trivial⟩ ?_
  refine Ends.to (feS l c fz mk (putB l.length) 0) (by kernel_rfl) ?_
  have h0 : accB l 0 = putB l.length := by unfold accB; simp
  have := loop l.length 0 (by omega)
  rw [h0] at this
  exact this
end

theorem fEncode_nil : Does E0 F_fEncode 0 [.slice none 0 0] (hp 0 []) (encV []) (hp 0 []) := by
  have h : encV [] = .tuple ⟨[str [0], i64 0]⟩ := by
    show (.tuple ⟨[str (encB []), i64 0]⟩ : Value) = _
    have : encB [] = [0] := by simp [encB, putB_small]
    rw [this]
  rw [h]
  refine Does.of (by kernel_rfl) ?_
  refine Ends.goto E0_good 1 (.ret F_fEncode) (by kernel_rfl) ?_
  refine Ends.norm [] [] 0 [2, 3] [] (by kernel_rfl) (by kernel_rfl) trivial ?_
  exact Ends.done E0_good 100 (by kernel_rfl) ⟨rfl, rfl⟩
end Go.Den.VvF
