/- varvelaw42.same. -/
import Derived.Test.YteglomhhiacioaaGreatFOwn
namespace Go.Den.VvF
open Go.Proofs
set_option maxRecDepth 100000

def eqP (p q : PL) : Bool := decide (p.name = q.name) && decide (p.next = q.next)
def sameB : List PL → List PL → Bool
  | [], [] => true
  | p :: l, q :: m => eqP p q && sameB l m
  | _, _ => false
theorem sameB_length : ∀ {l m : List PL}, sameB l m = true → l.length = m.length
  | [], [], _ => rfl
  | p :: l, q :: m, h => by
    simp only [sameB, Bool.and_eq_true] at h
    simp [sameB_length h.2]
  | [], _ :: _, h => by cases h
  | _ :: _, [], h => by cases h
theorem sameB_of : ∀ {l m : List PL}, l.length = m.length → (∀ (i : Nat) (p q : PL), l[i]? = some p → m[i]? = some q → eqP p q = true) → sameB l m = true
  | [], [], _, _ => rfl
  | p :: l, q :: m, h, ha => by
    simp only [sameB, Bool.and_eq_true]
    exact ⟨ha 0 p q rfl rfl, sameB_of (by simpa using h) fun i x y hx hy => ha (i + 1) x y (by simpa using hx) (by simpa using hy)⟩
  | [], _ :: _, h, _ => by simp at h
  | _ :: _, [], h, _ => by simp at h
theorem sameB_at : ∀ {l m : List PL} {i : Nat} {p q : PL}, sameB l m = true → l[i]? = some p → m[i]? = some q → eqP p q = true
  | [], [], i, p, q, _, h, _ => by simp at h
  | x :: l, y :: m, 0, p, q, h, hx, hy => by
    simp only [sameB, Bool.and_eq_true] at h
    simp at hx hy; subst hx; subst hy; exact h.1
  | x :: l, y :: m, i + 1, p, q, h, hx, hy => by
    simp only [sameB, Bool.and_eq_true] at h
    exact sameB_at h.2 (by simpa using hx) (by simpa using hy)
  | [], _ :: _, _, _, _, h, _, _ => by cases h
  | _ :: _, [], _, _, _, h, _, _ => by cases h
theorem sameB_iff {l m : List PL} : sameB l m = true ↔ l = m := by
  constructor
  · intro h
    have hl := sameB_length h
    refine List.ext_getElem? fun i => ?_
    rcases Nat.lt_or_ge i l.length with hi | hi
    · have h1 := List.getElem?_eq_getElem hi
      have h2 := List.getElem?_eq_getElem (show i < m.length by omega)
      have := sameB_at h h1 h2
      rw [h1, h2]
      generalize l[i] = x at this
      generalize m[i] = y at this
      obtain ⟨a, b⟩ := x
      obtain ⟨c, d⟩ := y
      simp only [eqP, Bool.and_eq_true, decide_eq_true_eq] at this
      rw [this.1, this.2]
    · rw [List.getElem?_eq_none hi, List.getElem?_eq_none (by omega)]
  · rintro rfl
    exact sameB_of rfl fun i p q hp hq => by rw [hp] at hq; cases hq; simp [eqP]

theorem str_neq (a b : List UInt8) : (!(ByteArray.toList ⟨⟨a⟩⟩ == ByteArray.toList ⟨⟨b⟩⟩)) = !decide (a = b) := by
  rw [ByteArray.toList_eq, ByteArray.toList_eq]
  congr 1
  show (a == b) = decide (a = b)
  rw [Bool.eq_iff_iff]; simp

section
variable (pre : List Value) (l m : List PL) (T o c c2 fz fz2 : Nat) (mk mk2 : Bool)
/-- the program's places, the reference's -/
def smH : AHeap := hp 2 [(0, .cells (plC l) T_p fz mk), (1, .cells (pre ++ plC m) T fz2 mk2)]
noncomputable def smI : St := entS E0 F_same [slv 0 0 l.length c, slv 1 o m.length c2] (smH pre l m T fz fz2 mk mk2)
noncomputable def smS (i : Nat) : St := reS [(0, slv 0 0 l.length c), (1, slv 1 o m.length c2), (5, nat i)] [] (smH pre l m T fz fz2 mk mk2) (toS E0 1 (.loop F_same) (slS 10 (.bool false) (toS E0 1 (.cond F_same 10) (smI pre l m T o c c2 fz fz2 mk mk2))))
theorem same_does (hpre : m ≠ [] → pre.length = o) (hn : l.length < 1000000000) (hfl2 : FlatO (.cells (pre ++ plC m) T fz2 mk2)) : Does E0 F_same 2 [slv 0 0 l.length c, slv 1 o m.length c2] (smH pre l m T fz fz2 mk mk2) (.bool (sameB l m)) (smH pre l m T fz fz2 mk mk2) := by
  have hfl : FlatO (.cells (plC l) T_p fz mk) := .of (plC_scalar l)
  refine Does.of (by kernel_rfl) ?_
  show Ends E0 F_same 2 _ (smI pre l m T o c c2 fz fz2 mk mk2)
  refine Ends.goto E0_good 1 (.cond F_same 10) (by kernel_rfl) ?_
  by_cases hlen : l.length = m.length
  · refine Ends.sl 10 (boolV (!eqI (.ofNat l.length) (.ofNat m.length))) (.bool false) (by kernel_rfl) (bv (by rw [eqI_true (by simp [hlen])]; rfl)) ?_
    have loop : ∀ d i, d + i = l.length → (∀ j, j < i → ∀ (p q : PL), l[j]? = some p → m[j]? = some q → eqP p q = true) → Ends E0 F_same 2 (fun v' H' => v' = .bool (sameB l m) ∧ H' = smH pre l m T fz fz2 mk mk2) (smS pre l m T o c c2 fz fz2 mk mk2 i) := by
      intro d
      induction d with
      | zero =>
        intro i hi hall
        refine Ends.goto E0_good 1 (.cond F_same 14) (by kernel_rfl) ?_
        refine Ends.sl 14 (boolV (!leI (.ofNat l.length) (.ofNat i))) (.bool false) (by kernel_rfl) (lt_false (by omega)) ?_
        refine Ends.done E0_good 100 (v := .bool true) (H := smH pre l m T fz fz2 mk mk2) (by kernel_rfl) ⟨?_, rfl⟩
        rw [sameB_of hlen fun j p q hp hq => hall j (by
          rcases Nat.lt_or_ge j l.length with h | h
          · omega
          · rw [List.getElem?_eq_none h] at hp; cases hp) p q hp hq]
      | succ d ih =>
        intro i hi hall
        have hlt : i < l.length := by omega
        obtain ⟨p, hp⟩ : ∃ p, l[i]? = some p := ⟨_, List.getElem?_eq_getElem hlt⟩
        obtain ⟨q, hq⟩ : ∃ q, m[i]? = some q := ⟨_, List.getElem?_eq_getElem (show i < m.length by omega)⟩
        have hpre := hpre (by rintro rfl; simp at hq)
        refine Ends.goto E0_good 1 (.cond F_same 14) (by kernel_rfl) ?_
        refine Ends.sl 14 (boolV (!leI (.ofNat l.length) (.ofNat i))) (.bool true) (by kernel_rfl) (lt_true (by omega)) ?_
        refine Ends.goto E0_good 1 (.op F_same 19) (by kernel_rfl) ?_
        refine Ends.fidx E0_good T_ps T_p 2 0 0 l.length c i (by kernel_rfl) (by kernel_rfl) (by kernel_rfl) hlt ?_
        refine Ends.goto E0_good 0 (.op F_same 21) (by kernel_rfl) ?_
        refine Ends.fld E0_good T_str 0 (0 + i * 2) T_p fz mk (plC l) (str p.name) (by kernel_rfl) (by kernel_rfl) (by kernel_rfl) (by rw [Nat.zero_add]; exact plC_name hp) ?_
        refine Ends.goto E0_good 0 (.op F_same 24) (by kernel_rfl) ?_
        refine Ends.fidx E0_good T_rps T_rp 2 1 o m.length c2 i (by kernel_rfl) (by kernel_rfl) (by kernel_rfl) (by omega) ?_
        refine Ends.goto E0_good 0 (.op F_same 26) (by kernel_rfl) ?_
        refine Ends.fld E0_good T_str 1 (o + i * 2) T fz2 mk2 (pre ++ plC m) (str q.name) (by kernel_rfl) (by kernel_rfl) (by kernel_rfl) (pre_get hpre (plC_name hq)) ?_
        refine Ends.goto E0_good 0 (.op F_same 29) (by kernel_rfl) ?_
        by_cases h1 : p.name = q.name
        · refine Ends.sl 28 (.bool (!(ByteArray.toList ⟨⟨p.name⟩⟩ == ByteArray.toList ⟨⟨q.name⟩⟩))) (.bool false) (by kernel_rfl) (by rw [str_neq, h1]; simp) ?_
          refine Ends.goto E0_good 0 (.op F_same 31) (by kernel_rfl) ?_
          refine Ends.fidx E0_good T_ps T_p 2 0 0 l.length c i (by kernel_rfl) (by kernel_rfl) (by kernel_rfl) hlt ?_
          refine Ends.goto E0_good 0 (.op F_same 33) (by kernel_rfl) ?_
          refine Ends.fld E0_good T_int 0 (0 + i * 2 + 1) T_p fz mk (plC l) (i64 p.next) (by kernel_rfl) (by kernel_rfl) (by kernel_rfl) (by rw [Nat.zero_add]; exact plC_next hp) ?_
          refine Ends.goto E0_good 0 (.op F_same 36) (by kernel_rfl) ?_
          refine Ends.fidx E0_good T_rps T_rp 2 1 o m.length c2 i (by kernel_rfl) (by kernel_rfl) (by kernel_rfl) (by omega) ?_
          refine Ends.goto E0_good 0 (.op F_same 38) (by kernel_rfl) ?_
          refine Ends.fld E0_good T_int 1 (o + i * 2 + 1) T fz2 mk2 (pre ++ plC m) (i64 q.next) (by kernel_rfl) (by kernel_rfl) (by kernel_rfl) (by rw [Nat.add_assoc]; exact pre_get hpre (plC_next hq)) ?_
          refine Ends.goto E0_good 0 (.cond F_same 40) (by kernel_rfl) ?_
          by_cases h2 : p.next = q.next
          · refine Ends.sl 40 (boolV (!eqI p.next q.next)) (.bool false) (by kernel_rfl) (bv (by rw [eqI_true h2]; rfl)) ?_
            refine Ends.goto E0_good 0 (.loop F_same) (by kernel_rfl) ?_
            refine Ends.sl 5 (i64 (wrapF .i64 (.ofNat i + 1))) (nat (i + 1)) (by kernel_rfl) (succ_i64 (by omega)) ?_
            refine Ends.norm [(0, 0), (1, 1)] [(0, .cells (plC l) T_p fz mk), (1, .cells (pre ++ plC m) T fz2 mk2)] 2 [0, 1, 5] [] (by kernel_rfl) (by kernel_rfl) ⟨by kernel_rfl, hfl, by kernel_rfl, hfl2, trivial⟩ ?_
            refine Ends.to (smS pre l m T o c c2 fz fz2 mk mk2 (i + 1)) (by kernel_rfl) ?_
            refine ih (i + 1) (by omega) fun j hj x y hx hy => ?_
            by_cases e : j < i
            · exact hall j e x y hx hy
            · obtain rfl : j = i := by omega
              rw [hp] at hx; rw [hq] at hy; cases hx; cases hy
              simp [eqP, h1, h2]
          · refine Ends.sl 40 (boolV (!eqI p.next q.next)) (.bool true) (by kernel_rfl) (bv (by rw [eqI_false h2]; rfl)) ?_
            refine Ends.done E0_good 100 (v := .bool false) (H := smH pre l m T fz fz2 mk mk2) (by kernel_rfl) ⟨?_, rfl⟩
            cases hs : sameB l m with
            | false => rfl
            | true => have := sameB_at hs hp hq; simp [eqP, h2] at this
        · refine Ends.sl 28 (.bool (!(ByteArray.toList ⟨⟨p.name⟩⟩ == ByteArray.toList ⟨⟨q.name⟩⟩))) (.bool true) (by kernel_rfl) (by rw [str_neq]; simp [h1]) ?_
          refine Ends.done E0_good 100 (v := .bool false) (H := smH pre l m T fz fz2 mk mk2) (by kernel_rfl) ⟨?_, rfl⟩
          cases hs : sameB l m with
          | false => rfl
          | true => have := sameB_at hs hp hq; simp [eqP, h1] at this
    refine Ends.goto E0_good 1 (.loop F_same) (by kernel_rfl) ?_
    refine Ends.norm [(0, 0), (1, 1)] [(0, .cells (plC l) T_p fz mk), (1, .cells (pre ++ plC m) T fz2 mk2)] 2 [0, 1, 5] [] (by kernel_rfl) (by kernel_rfl) ⟨by kernel_rfl, hfl, by kernel_rfl, hfl2, trivial⟩ ?_
    refine Ends.to (smS pre l m T o c c2 fz fz2 mk mk2 0) (by kernel_rfl) ?_
    exact loop l.length 0 (by omega) (by omega)
  · refine Ends.sl 10 (boolV (!eqI (.ofNat l.length) (.ofNat m.length))) (.bool true) (by kernel_rfl) (bv (by rw [eqI_false (fun h => hlen (Int.ofNat.inj h))]; rfl)) ?_
    refine Ends.done E0_good 100 (v := .bool false) (H := smH pre l m T fz fz2 mk mk2) (by kernel_rfl) ⟨?_, rfl⟩
    cases hs : sameB l m with
    | false => rfl
    | true => exact absurd (sameB_length hs) hlen

/-- the program's are none -/
theorem same_nilA : Does E0 F_same 1 [.slice none 0 0, slv 0 o m.length c2] (rowH pre m T fz2 mk2) (.bool (sameB [] m)) (rowH pre m T fz2 mk2) := by
  refine Does.of (by kernel_rfl) ?_
  refine Ends.goto E0_good 1 (.cond F_same 10) (by kernel_rfl) ?_
  cases m with
  | nil => exact Ends.done E0_good 100 (by kernel_rfl) ⟨rfl, rfl⟩
  | cons q m =>
    refine Ends.sl 10 (boolV (!eqI 0 (.ofNat (q :: m).length))) (.bool true) (by kernel_rfl) (bv (by rw [eqI_false (by simp <;> omega)]; rfl)) ?_
    exact Ends.done E0_good 100 (by kernel_rfl) ⟨rfl, rfl⟩
/-- the reference's are none -/
theorem same_nilB : Does E0 F_same 1 [slv 0 0 l.length c, .slice none 0 0] (psH l fz mk) (.bool (sameB l [])) (psH l fz mk) := by
  refine Does.of (by kernel_rfl) ?_
  refine Ends.goto E0_good 1 (.cond F_same 10) (by kernel_rfl) ?_
  cases l with
  | nil => exact Ends.done E0_good 100 (by kernel_rfl) ⟨rfl, rfl⟩
  | cons q m =>
    refine Ends.sl 10 (boolV (!eqI (.ofNat (q :: m).length) 0)) (.bool true) (by kernel_rfl) (bv (by rw [eqI_false (by simp <;> omega)]; rfl)) ?_
    exact Ends.done E0_good 100 (by kernel_rfl) ⟨rfl, rfl⟩
end
theorem same_nil : Does E0 F_same 0 [.slice none 0 0, .slice none 0 0] (hp 0 []) (.bool true) (hp 0 []) :=
  Does.of (by kernel_rfl) (Ends.done E0_good 100 (by kernel_rfl) ⟨rfl, rfl⟩)
end Go.Den.VvF
