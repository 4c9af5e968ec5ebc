/- follow.place. -/
import Derived.Test.YteglomhhiacioaaGreatFGet
import Derived.Test.YteglomhhiacioaaGreatFCheck
namespace Go.Den.VvF
open Go.Proofs
set_option maxRecDepth 100000

def tkO (s : List UInt8) (a : Nat) : AObj := .cells [str s, nat a] T_tkr 0 false

theorem getD_used : ∀ (k : Nat) (f : Bool) (l : List UInt8) (n u : Nat), getD k f l = .ok n u → 1 ≤ u ∧ u ≤ l.length
  | 0, _, _, _, _, h => by simp [getD] at h
  | k + 1, f, [], n, u, h => by simp [getD] at h
  | k + 1, f, b :: r, n, u, h => by
    rw [getD] at h
    split at h
    · cases hr : getD k false r with
      | ok n' u' =>
        rw [hr] at h
        simp only [GR.ok.injEq] at h
        have := getD_used k false r n' u' hr
        simp; omega
      | short => rw [hr] at h; cases h
      | form => rw [hr] at h; cases h
    · split at h
      · cases h
      · simp only [GR.ok.injEq] at h
        simp; omega
theorem getV_ok {s : List UInt8} {a n u : Nat} (h : getD 9 true (s.drop a) = .ok n u) : getV s a = .tuple ⟨[nat n, nat (a + u), i64 0]⟩ := by unfold getV; rw [h]
theorem getV_short {s : List UInt8} {a : Nat} (h : getD 9 true (s.drop a) = .short) : getV s a = .tuple ⟨[i64 0, i64 0, i64 4]⟩ := by unfold getV; rw [h]
theorem getV_form {s : List UInt8} {a : Nat} (h : getD 9 true (s.drop a) = .form) : getV s a = .tuple ⟨[i64 0, i64 0, i64 5]⟩ := by unfold getV; rw [h]
theorem vGet_ok {s : List UInt8} {a n u : Nat} (hs : s.length < 1000000000000) (ha : a ≤ s.length) (h : getD 9 true (s.drop a) = .ok n u) : Does E0 F_vGet 0 [str s, nat a] (hp 0 []) (.tuple ⟨[nat n, nat (a + u), i64 0]⟩) (hp 0 []) := by
  rw [← getV_ok h]; exact vGet_does s a hs ha
theorem vGet_short {s : List UInt8} {a : Nat} (hs : s.length < 1000000000000) (ha : a ≤ s.length) (h : getD 9 true (s.drop a) = .short) : Does E0 F_vGet 0 [str s, nat a] (hp 0 []) (.tuple ⟨[i64 0, i64 0, i64 4]⟩) (hp 0 []) := by
  rw [← getV_short h]; exact vGet_does s a hs ha
theorem vGet_form {s : List UInt8} {a : Nat} (hs : s.length < 1000000000000) (ha : a ≤ s.length) (h : getD 9 true (s.drop a) = .form) : Does E0 F_vGet 0 [str s, nat a] (hp 0 []) (.tuple ⟨[i64 0, i64 0, i64 5]⟩) (hp 0 []) := by
  rw [← getV_form h]; exact vGet_does s a hs ha

theorem left_i64 {n a : Nat} (ha : a ≤ n) (hn : n < 1000000000000) : wrapF .i64 (.ofNat n - .ofNat a) = .ofNat (n - a) := by
  rw [wrapF_i64 (by constructor <;> simp <;> omega)]
  show (n : Int) - (a : Int) = ((n - a : Nat) : Int)
  omega
theorem add_i64 {n a : Nat} (h : n + a < 1000000000000) : wrapF .i64 (.ofNat n + .ofNat a) = .ofNat (n + a) := by
  rw [wrapF_i64 (by constructor <;> simp <;> omega)]; rfl

section
variable (s : List UInt8) (a n u m w : Nat)
theorem place_does (hs : s.length < 1000000000000) (ha : a ≤ s.length) (h1 : getD 9 true (s.drop a) = .ok n u) (hn : n ≤ 64) (hle : a + u + n ≤ s.length) (h2 : getD 9 true (s.drop (a + u + n)) = .ok m w) :
    Does E0 F_place 1 [ptr 0 0] (hp 1 [(0, tkO s a)]) (.agg ⟨[str ((s.take (a + u + n)).drop (a + u)), nat m]⟩) (hp 2 [(0, tkO s (a + u + n + w)), (1, .cells [str ((s.take (a + u + n)).drop (a + u)), nat m] T_p 0 false)]) := by
  refine Does.of (by kernel_rfl) ?_
  refine Ends.goto E0_good 0 (.op F_tNum 11) (by kernel_rfl) ?_
  refine Ends.call0 E0_good F_vGet [str s, nat a] _ (vGet_ok hs ha h1) (by kernel_rfl) (by kernel_rfl) (by kernel_rfl) (by kernel_rfl) (by kernel_rfl) ?_
  refine Ends.goto E0_good 0 (.cond F_place 11) (by kernel_rfl) ?_
  refine Ends.sl 11 (boolV (!leI (.ofNat n) 64)) (.bool false) (by kernel_rfl) (bv (by rw [leI_true (by simp; omega)]; rfl)) ?_
  refine Ends.goto E0_good 0 (.cond F_tTake 6) (by kernel_rfl) ?_
  refine Ends.sl 6 (boolV (!leI 0 (.ofNat n))) (.bool false) (by kernel_rfl) (bv (by rw [leI_true (by simp)]; rfl)) ?_
  refine Ends.goto E0_good 0 (.cond F_tTake 12) (by kernel_rfl) ?_
  refine Ends.sl 12 (boolV (!leI (.ofNat n) (wrapF .i64 (.ofNat s.length - .ofNat (a + u))))) (.bool false) (by kernel_rfl) (bv (by rw [left_i64 (by omega) hs, leI_true (by simp; omega)]; rfl)) ?_
  refine Ends.goto E0_good 0 (.cond F_tTake 16) (by kernel_rfl) ?_
  by_cases h0 : n = 0
  · refine Ends.sl 16 (boolV (eqI (.ofNat n) 0)) (.bool true) (by kernel_rfl) (bv (eqI_true (by rw [h0]; rfl))) ?_
    have e : (s.take (a + u + n)).drop (a + u) = [] := by
      subst h0
      rw [Nat.add_zero]; exact List.drop_of_length_le (by rw [List.length_take]; omega)
    rw [e]
    subst h0
    refine Ends.goto E0_good 0 (.op F_tNum 11) (by kernel_rfl) ?_
    refine Ends.call0 E0_good F_vGet [str s, nat (a + u + 0)] _ (vGet_ok hs hle h2) (by kernel_rfl) (by kernel_rfl) (by kernel_rfl) (by kernel_rfl) (by kernel_rfl) ?_
    exact Ends.done E0_good 200 (by kernel_rfl) ⟨rfl, rfl⟩
  · refine Ends.sl 16 (boolV (eqI (.ofNat n) 0)) (.bool false) (by kernel_rfl) (bv (eqI_false (by simpa using h0))) ?_
    refine Ends.goto E0_good 0 (.op F_tTake 25) (by kernel_rfl) ?_
    refine Ends.ob 0 (.cells [str s, i64 (wrapF .i64 (.ofNat (a + u) + .ofNat n))] T_tkr 0 false) (tkO s (a + u + n)) (by kernel_rfl) (by rw [add_i64 (by omega)]; rfl) ?_
    refine Ends.goto E0_good 0 (.op F_tTake 39) (by kernel_rfl) ?_
    refine Ends.sl 34 (i64 (wrapF .i64 (.ofNat (a + u + n) - .ofNat n))) (nat (a + u)) (by kernel_rfl) (by rw [left_i64 (by omega) (by omega), Nat.add_sub_cancel]) ?_
    refine Ends.fp E0_good (pSlice E0 T_str (str s) (some (nat (a + u))) (some (nat (a + u + n))) none) (str ((s.take (a + u + n)).drop (a + u))) (by kernel_rfl) (slice_str (by kernel_rfl) (by omega) hle) ?_
    refine Ends.goto E0_good 0 (.op F_tNum 11) (by kernel_rfl) ?_
    refine Ends.call0 E0_good F_vGet [str s, nat (a + u + n)] _ (vGet_ok hs hle h2) (by kernel_rfl) (by kernel_rfl) (by kernel_rfl) (by kernel_rfl) (by kernel_rfl) ?_
    exact Ends.done E0_good 200 (by kernel_rfl) ⟨rfl, rfl⟩
end
end Go.Den.VvF
