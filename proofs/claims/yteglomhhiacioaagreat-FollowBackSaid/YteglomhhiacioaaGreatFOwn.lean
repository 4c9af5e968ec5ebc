/- varvelaw42.own, same, few. -/
import Derived.Test.YteglomhhiacioaaGreatFDec
namespace Go.Den.VvF
open Go.Proofs
set_option maxRecDepth 100000

def rowH (pre : List Value) (l : List PL) (T fz : Nat) (mk : Bool) : AHeap := hp 1 [(0, .cells (pre ++ plC l) T fz mk)]
def fewB (l : List PL) : Bool := decide (l.length ≤ 60) && l.all fun p => decide (p.name.length ≤ 100)

section
variable (pre : List Value) (l : List PL) (T o c fz : Nat) (mk : Bool)
noncomputable def fewI : St := entS E0 F_few [slv 0 o l.length c] (rowH pre l T fz mk)
noncomputable def fewS (i : Nat) : St := reS [(0, slv 0 o l.length c), (3, nat i)] [] (rowH pre l T fz mk) (toS E0 1 (.loop F_few) (slS 6 (.bool false) (toS E0 1 (.cond F_few 6) (fewI pre l T o c fz mk))))
theorem few_does (hpre : l ≠ [] → pre.length = o) (hfl : FlatO (.cells (pre ++ plC l) T fz mk)) : Does E0 F_few 1 [slv 0 o l.length c] (rowH pre l T fz mk) (.bool (fewB l)) (rowH pre l T fz mk) := by
  refine Does.of (by kernel_rfl) ?_
  show Ends E0 F_few 1 _ (fewI pre l T o c fz mk)
  refine Ends.goto E0_good 1 (.cond F_few 6) (by kernel_rfl) ?_
  by_cases hlen : 60 < l.length
  · refine Ends.sl 6 (boolV (!leI (.ofNat l.length) 60)) (.bool true) (by kernel_rfl) (by rw [leI_false (by simp; omega)]; rfl) ?_
    refine Ends.done E0_good 100 (v := .bool false) (H := rowH pre l T fz mk) (by kernel_rfl) ⟨?_, rfl⟩
    simp [fewB]; omega
  · refine Ends.sl 6 (boolV (!leI (.ofNat l.length) 60)) (.bool false) (by kernel_rfl) (by rw [leI_true (by simp; omega)]; rfl) ?_
    have loop : ∀ d i, d + i = l.length → (∀ p ∈ l.take i, p.name.length ≤ 100) → Ends E0 F_few 1 (fun v' H' => v' = .bool (fewB l) ∧ H' = rowH pre l T fz mk) (fewS pre l T o c fz mk i) := by
      intro d
      induction d with
      | zero =>
        intro i hi hall
        refine Ends.goto E0_good 1 (.cond F_few 10) (by kernel_rfl) ?_
        refine Ends.sl 10 (boolV (!leI (.ofNat l.length) (.ofNat i))) (.bool false) (by kernel_rfl) (lt_false (by omega)) ?_
        refine Ends.done E0_good 100 (v := .bool true) (H := rowH pre l T fz mk) (by kernel_rfl) ⟨?_, rfl⟩
        have : l.take i = l := List.take_of_length_le (by omega)
        rw [this] at hall
        have h2 : (l.all fun p => decide (p.name.length ≤ 100)) = true := by simpa using hall
        simp only [fewB, h2, Bool.and_true]
        simpa using hlen
      | succ d ih =>
        intro i hi hall
        have hlt : i < l.length := by omega
        obtain ⟨p, hp⟩ : ∃ p, l[i]? = some p := ⟨_, List.getElem?_eq_getElem hlt⟩
        have hpre := hpre (by rintro rfl; simp at hlt)
        refine Ends.goto E0_good 1 (.cond F_few 10) (by kernel_rfl) ?_
        refine Ends.sl 10 (boolV (!leI (.ofNat l.length) (.ofNat i))) (.bool true) (by kernel_rfl) (lt_true (by omega)) ?_
        refine Ends.goto E0_good 1 (.op F_few 15) (by kernel_rfl) ?_
        refine Ends.idx E0_good T_rps T_rp 2 0 o l.length c i (by kernel_rfl) (by kernel_rfl) (by kernel_rfl) hlt (by kernel_rfl) ?_
        refine Ends.goto E0_good 0 (.op F_few 17) (by kernel_rfl) ?_
        refine Ends.ld E0_good T_str 0 (o + i * 2) T fz mk (pre ++ plC l) (str p.name) (by kernel_rfl) (by kernel_rfl) (by kernel_rfl) (pre_get hpre (plC_name hp)) (by kernel_rfl) ?_
        refine Ends.goto E0_good 0 (.cond F_few 19) (by kernel_rfl) ?_
        by_cases hlong : 100 < p.name.length
        · refine Ends.sl 19 (boolV (!leI (.ofNat p.name.length) 100)) (.bool true) (by kernel_rfl) (by rw [leI_false (by simp; omega)]; rfl) ?_
          refine Ends.done E0_good 100 (v := .bool false) (H := rowH pre l T fz mk) (by kernel_rfl) ⟨?_, rfl⟩
          have hm : p ∈ l := List.mem_of_getElem? hp
          have : (l.all fun p => decide (p.name.length ≤ 100)) = false := by
            rw [List.all_eq_false]; exact ⟨p, hm, by simpa using hlong⟩
          simp only [fewB, this, Bool.and_false]
        · refine Ends.sl 19 (boolV (!leI (.ofNat p.name.length) 100)) (.bool false) (by kernel_rfl) (by rw [leI_true (by simp; omega)]; rfl) ?_
          refine Ends.goto E0_good 0 (.loop F_few) (by kernel_rfl) ?_
          refine Ends.sl 3 (i64 (wrapF .i64 (.ofNat i + 1))) (nat (i + 1)) (by kernel_rfl) (succ_i64 (by omega)) ?_
          refine Ends.norm [(0, 0)] [(0, .cells (pre ++ plC l) T fz mk)] 1 [0, 3] [] (by kernel_rfl) (by kernel_rfl) ⟨by kernel_rfl, hfl, trivial⟩ ?_
          refine Ends.to (fewS pre l T o c fz mk (i + 1)) (by kernel_rfl) ?_
          refine ih (i + 1) (by omega) ?_
          intro q hq
          rw [List.take_add_one, hp] at hq
          simp only [Option.toList, List.mem_append, List.mem_singleton] at hq
          rcases hq with hq | rfl
          · exact hall q hq
          · omega
    refine Ends.goto E0_good 1 (.loop F_few) (by kernel_rfl) ?_
    refine Ends.norm [(0, 0)] [(0, .cells (pre ++ plC l) T fz mk)] 1 [0, 3] [] (by kernel_rfl) (by kernel_rfl) ⟨by kernel_rfl, hfl, trivial⟩ ?_
    refine Ends.to (fewS pre l T o c fz mk 0) (by kernel_rfl) ?_
    exact loop l.length 0 (by omega) (by simp)

/-! ### own -/
def ownV : List PL → Value
  | [] => .slice none 0 0
  | p :: l => slv 1 0 (p :: l).length capU
def ownO : List PL → Option AObj
  | [] => none
  | p :: l => some (.cells (plC (p :: l)) T_p 0 false)
def ownH (m : List PL) : AHeap := hpo 2 [(0, some (.cells (pre ++ plC l) T fz mk)), (1, ownO m)]
noncomputable def ownI : St := entS E0 F_own [slv 0 o l.length c] (rowH pre l T fz mk)
noncomputable def ownS (m : List PL) (i : Nat) : St := reS [(0, slv 0 o l.length c), (3, ownV m), (4, nat i)] [] (ownH pre l T fz mk m) (toS E0 1 (.loop F_own) (ownI pre l T o c fz mk))

theorem own_does (hpre : l ≠ [] → pre.length = o) (hn : l.length < 1000000000) (hfl : FlatO (.cells (pre ++ plC l) T fz mk)) : Does E0 F_own 1 [slv 0 o l.length c] (rowH pre l T fz mk) (ownV l) (ownH pre l T fz mk l) := by
  have hflat : ∀ l' : List PL, FlatO (.cells (plC l') T_p 0 false) := fun l' => .of (plC_scalar l')
  refine Does.of (by kernel_rfl) ?_
  show Ends E0 F_own 1 _ (ownI pre l T o c fz mk)
  have loop : ∀ d i, d + i = l.length → Ends E0 F_own 1 (fun v' H' => v' = ownV l ∧ H' = ownH pre l T fz mk l) (ownS pre l T o c fz mk (l.take i) i) := by
    intro d
    induction d with
    | zero =>
      intro i hi
      refine Ends.goto E0_good 1 (.cond F_own 8) (by kernel_rfl) ?_
      refine Ends.sl 8 (boolV (!leI (.ofNat l.length) (.ofNat i))) (.bool false) (by kernel_rfl) (lt_false (by omega)) ?_
      rw [List.take_of_length_le (show l.length ≤ i by omega)]
      refine Ends.done E0_good 100 (by kernel_rfl) ⟨rfl, rfl⟩
    | succ d ih =>
      intro i hi
      have hlt : i < l.length := by omega
      obtain ⟨p, hp⟩ : ∃ p, l[i]? = some p := ⟨_, List.getElem?_eq_getElem hlt⟩
      have hpre := hpre (by rintro rfl; simp at hlt)
      have hnext := ih (i + 1) (by omega)
      rw [List.take_add_one, hp] at hnext
      have hml : (l.take i).length = i := by rw [List.length_take]; omega
      generalize l.take i = m at hml hnext
      have hnext : Ends E0 F_own 1 (fun v' H' => v' = ownV l ∧ H' = ownH pre l T fz mk l) (ownS pre l T o c fz mk (m ++ [p]) (i + 1)) := hnext
      refine Ends.goto E0_good 1 (.cond F_own 8) (by kernel_rfl) ?_
      refine Ends.sl 8 (boolV (!leI (.ofNat l.length) (.ofNat i))) (.bool true) (by kernel_rfl) (lt_true (by omega)) ?_
      refine Ends.goto E0_good 1 (.op F_own 14) (by kernel_rfl) ?_
      refine Ends.fidx E0_good T_rps T_rp 2 0 o l.length c i (by kernel_rfl) (by kernel_rfl) (by kernel_rfl) hlt ?_
      refine Ends.goto E0_good 0 (.op F_own 16) (by kernel_rfl) ?_
      refine Ends.fld E0_good T_str 0 (o + i * 2) T fz mk (pre ++ plC l) (str p.name) (by kernel_rfl) (by kernel_rfl) (by kernel_rfl) (pre_get hpre (plC_name hp)) ?_
      refine Ends.goto E0_good 0 (.op F_own 19) (by kernel_rfl) ?_
      refine Ends.fidx E0_good T_rps T_rp 2 0 o l.length c i (by kernel_rfl) (by kernel_rfl) (by kernel_rfl) hlt ?_
      refine Ends.goto E0_good 0 (.op F_own 21) (by kernel_rfl) ?_
      refine Ends.fld E0_good T_int 0 (o + i * 2 + 1) T fz mk (pre ++ plC l) (i64 p.next) (by kernel_rfl) (by kernel_rfl) (by kernel_rfl) (by rw [Nat.add_assoc]; exact pre_get hpre (plC_next hp)) ?_
      refine Ends.goto E0_good 0 (.op F_own 24) (by kernel_rfl) ?_
      cases m with
      | nil =>
        refine Ends.appW E0_good T_ps T_ps (.slice none 0 0) (slv 2 0 1 1) _ (slv 3 0 1 capU) _ [] (by kernel_rfl)
          (append_nil (appP _ 2 (str p.name) (i64 p.next) (by kernel_rfl)) (by decide) (by decide)) (by kernel_rfl) (by kernel_rfl) rfl (by kernel_rfl) ?_
        refine Ends.goto E0_good 0 (.loop F_own) (by kernel_rfl) ?_
        refine Ends.sl 4 (i64 (wrapF .i64 (.ofNat i + 1))) (nat (i + 1)) (by kernel_rfl) (succ_i64 (by omega)) ?_
        refine Ends.norm [(0, 0), (3, 1)] [(0, .cells (pre ++ plC l) T fz mk), (3, .cells (plC [p]) T_p 0 false)] 2 [0, 3, 4] [] (by kernel_rfl) (by kernel_rfl) ⟨by kernel_rfl, hfl, by kernel_rfl, hflat _, trivial⟩ ?_
        exact Ends.to _ (by kernel_rfl) hnext
      | cons q m =>
        refine Ends.appW E0_good T_ps T_ps (slv 1 0 (q :: m).length capU) (slv 2 0 1 1) _ (slv 3 0 ((q :: m).length + 1) capU) _ [] (by kernel_rfl)
          (append_new (b := 1) (fz := 0) (mk := false) (c := plC (q :: m)) (appP _ 2 (str p.name) (i64 p.next) (by kernel_rfl)) (by omega) (by decide) (by kernel_rfl) (Nat.zero_le _) (by rw [plC_length]; omega) rfl rfl) (by kernel_rfl) (by kernel_rfl) rfl (by kernel_rfl) ?_
        refine Ends.goto E0_good 0 (.loop F_own) (by kernel_rfl) ?_
        refine Ends.sl 4 (i64 (wrapF .i64 (.ofNat i + 1))) (nat (i + 1)) (by kernel_rfl) (succ_i64 (by omega)) ?_
        refine Ends.sl 3 (slv 3 0 ((q :: m).length + 1) capU) (slv 3 0 ((q :: m) ++ [p]).length capU) (by kernel_rfl) (by rw [List.length_append]; rfl) ?_
        refine Ends.ob 3 (.cells ((plC (q :: m)).take ((q :: m).length * 2) ++ [str p.name, i64 p.next]) T_p 0 false) (.cells (plC ((q :: m) ++ [p])) T_p 0 false) (by kernel_rfl)
          (by rw [List.take_of_length_le (by rw [plC_length]; omega), plC_append]; rfl) ?_
        refine Ends.norm [(0, 0), (3, 1)] [(0, .cells (pre ++ plC l) T fz mk), (3, .cells (plC ((q :: m) ++ [p])) T_p 0 false)] 2 [0, 3, 4] [] (by kernel_rfl) (by kernel_rfl) ⟨by kernel_rfl, hfl, by kernel_rfl, hflat _, trivial⟩ ?_
        exact Ends.to _ (by kernel_rfl) hnext
  refine Ends.goto E0_good 1 (.loop F_own) (by kernel_rfl) ?_
  refine Ends.norm [(0, 0), (1, 1)] [(0, .cells (pre ++ plC l) T fz mk)] 2 [0, 3, 4] [] (by kernel_rfl) (by kernel_rfl) ⟨by kernel_rfl, hfl, trivial⟩ ?_
  refine Ends.to (ownS pre l T o c fz mk [] 0) (by kernel_rfl) ?_
  have := loop l.length 0 (by omega)
  rw [List.take_zero] at this
  exact this
end

theorem few_nil : Does E0 F_few 0 [.slice none 0 0] (hp 0 []) (.bool true) (hp 0 []) :=
  Does.of (by kernel_rfl) (Ends.done E0_good 100 (by kernel_rfl) ⟨rfl, rfl⟩)
theorem own_nil : Does E0 F_own 0 [.slice none 0 0] (hp 0 []) (.slice none 0 0) (hp 0 []) :=
  Does.of (by kernel_rfl) (Ends.done E0_good 100 (by kernel_rfl) ⟨rfl, rfl⟩)
end Go.Den.VvF
