/- varint.Get. -/
import Derived.Test.YteglomhhiacioaaGreatD4
import Derived.Test.YteglomhhiacioaaGreatFPut
namespace Go.Den.VvF
open Go.Proofs
set_option maxRecDepth 100000

/-- what bytes tell: a number and how many bytes it has; too few; none -/
inductive GR where
  | ok (n u : Nat)
  | short
  | form

def getD : Nat → Bool → List UInt8 → GR
  | 0, _, _ => .form
  | _ + 1, _, [] => .short
  | k + 1, first, b :: r =>
    if 128 ≤ b.toNat then
      match getD k false r with
      | .ok n u => .ok (b.toNat % 128 + 128 * n) (u + 1)
      | e => e
    else if b.toNat = 0 ∧ first = false then .form else .ok b.toNat 1

def getV (s : List UInt8) (at_ : Nat) : Value :=
  match getD 9 true (s.drop at_) with
  | .ok n u => .tuple ⟨[nat n, nat (at_ + u), i64 0]⟩
  | .short => .tuple ⟨[i64 0, i64 0, i64 4]⟩
  | .form => .tuple ⟨[i64 0, i64 0, i64 5]⟩

/-- the same behind j digits -/
def getW (s : List UInt8) (at_ j acc : Nat) : Value :=
  match getD (9 - j) (decide (j = 0)) (s.drop (at_ + j)) with
  | .ok n u => .tuple ⟨[nat (acc + 2 ^ (7 * j) * n), nat (at_ + j + u), i64 0]⟩
  | .short => .tuple ⟨[i64 0, i64 0, i64 4]⟩
  | .form => .tuple ⟨[i64 0, i64 0, i64 5]⟩

theorem and127 : ∀ x : BitVec 8, (x &&& 127#8).toNat = x.toNat % 128 := by decide
theorem u8_and (b : UInt8) : IntKind.wrap .u8 ((BitVec.ofInt 8 (.ofNat b.toNat) &&& BitVec.ofInt 8 127).toNat : Int) = .ofNat (b.toNat % 128) := by
  have h0 := b.toNat_lt
  have h1 : BitVec.ofInt 8 127 = 127#8 := rfl
  rw [IntKind.wrap_u8, h1, and127]
  have h2 : (BitVec.ofInt 8 (.ofNat b.toNat)).toNat = b.toNat := by
    rw [BitVec.toNat_ofInt]; show ((b.toNat : Int) % (2 ^ 8 : Nat)).toNat = b.toNat; omega
  rw [h2]
  show ((b.toNat % 128 : Nat) : Int) % 256 = ((b.toNat % 128 : Nat) : Int)
  omega
theorem i64_or {a d j : Nat} (ha : a < 2 ^ (7 * j)) (hd : d < 128) (hj : j ≤ 8) : IntKind.wrap .i64 ((BitVec.ofInt 64 (.ofNat a) ||| BitVec.ofInt 64 (.ofNat (d * 2 ^ (7 * j)))).toNat : Int) = .ofNat (a + d * 2 ^ (7 * j)) := by
  have hp : 2 ^ (7 * j) ≤ 2 ^ 56 := Nat.pow_le_pow_right (by decide) (by omega)
  have hx : d * 2 ^ (7 * j) ≤ 127 * 2 ^ (7 * j) := Nat.mul_le_mul_right _ (by omega)
  have e : ∀ n : Nat, n < 2 ^ 64 → (BitVec.ofInt 64 (.ofNat n)).toNat = n := by
    intro n hn
    rw [BitVec.toNat_ofInt]; show ((n : Int) % (2 ^ 64 : Nat)).toNat = n; omega
  rw [BitVec.toNat_or, e a (by omega), e _ (by omega), Nat.or_comm]
  have h := Nat.shiftLeft_add_eq_or_of_lt ha d
  rw [Nat.shiftLeft_eq] at h
  rw [← h, IntWalk.i64_in _ (by omega)]
  show ((d * 2 ^ (7 * j) + a : Nat) : Int) = ((a + d * 2 ^ (7 * j) : Nat) : Int)
  omega

section
variable (s : List UInt8) (a : Nat)
noncomputable def vgI : St := entS E0 F_vGet [str s, nat a] (hp 0 [])
noncomputable def vgL : St := toS E0 0 (.loop F_vGet) (slS 16 (.bool false) (toS E0 0 (.cond F_vGet 16) (slS 11 (.bool false) (toS E0 0 (.op F_vGet 12) (vgI s a)))))
noncomputable def vgS (j acc : Nat) : St := reS [(0, str s), (1, nat a), (4, nat acc), (7, nat (7 * j)), (8, nat (a + j))] [] (hp 0 []) (vgL s a)

theorem drop_at {s : List UInt8} {i : Nat} {b : UInt8} (h : s[i]? = some b) : s.drop i = b :: s.drop (i + 1) := by
  have hlt : i < s.length := by
    rcases Nat.lt_or_ge i s.length with h1 | h1
    · exact h1
    · rw [List.getElem?_eq_none h1] at h; cases h
  rw [List.drop_eq_getElem_cons hlt]
  rw [List.getElem?_eq_getElem hlt] at h
  cases h; rfl

theorem getW_start (s : List UInt8) (a : Nat) : getW s a 0 0 = getV s a := by
  unfold getW getV
  rw [Nat.add_zero, show decide ((0 : Nat) = 0) = true from rfl, Nat.sub_zero]
  cases getD 9 true (s.drop a) with
  | ok n u => simp only [Nat.zero_add, Nat.mul_zero, Nat.pow_zero, Nat.one_mul]
  | short => rfl
  | form => rfl
theorem getW_end {s : List UInt8} {a j acc : Nat} (hj : j < 9) (h : s.length ≤ a + j) : getW s a j acc = .tuple ⟨[i64 0, i64 0, i64 4]⟩ := by
  obtain ⟨k, hk⟩ : ∃ k, 9 - j = k + 1 := ⟨8 - j, by omega⟩
  unfold getW
  rw [List.drop_of_length_le h, hk]
  rfl
theorem getW_more {s : List UInt8} {a j acc : Nat} {b : UInt8} (hb : s[a + j]? = some b) (hj : j < 9) (h : 128 ≤ b.toNat) : getW s a j acc = getW s a (j + 1) (acc + b.toNat % 128 * 2 ^ (7 * j)) := by
  obtain ⟨k, hk⟩ : ∃ k, 9 - j = k + 1 := ⟨8 - j, by omega⟩
  unfold getW
  rw [drop_at hb, hk, show 9 - (j + 1) = k by omega, show decide (j + 1 = 0) = false by simp]
  have e : getD (k + 1) (decide (j = 0)) (b :: s.drop (a + j + 1)) = match getD k false (s.drop (a + j + 1)) with | .ok n u => .ok (b.toNat % 128 + 128 * n) (u + 1) | e => e := by
    rw [getD, if_pos h]
  rw [e, show a + (j + 1) = a + j + 1 by omega]
  cases getD k false (s.drop (a + j + 1)) with
  | ok n u =>
    simp only
    rw [show 7 * (j + 1) = 7 * j + 7 by omega, Nat.pow_add, Nat.mul_add, show a + j + (u + 1) = a + j + 1 + u by omega]
    have h1 : 2 ^ (7 * j) * (128 * n) = 2 ^ (7 * j) * 2 ^ 7 * n := by rw [Nat.mul_assoc]
    rw [h1, Nat.mul_comm (2 ^ (7 * j)) (b.toNat % 128), ← Nat.add_assoc]
  | short => rfl
  | form => rfl
theorem getW_last {s : List UInt8} {a j acc : Nat} {b : UInt8} (hb : s[a + j]? = some b) (hj : j < 9) (h : b.toNat < 128) (h0 : b.toNat = 0 → j ≠ 0 → False) :
    getW s a j acc = .tuple ⟨[nat (acc + 2 ^ (7 * j) * b.toNat), nat (a + j + 1), i64 0]⟩ := by
  obtain ⟨k, hk⟩ : ∃ k, 9 - j = k + 1 := ⟨8 - j, by omega⟩
  unfold getW
  rw [drop_at hb, hk, getD, if_neg (by omega), if_neg (by rintro ⟨h1, h2⟩; exact h0 h1 (by simpa using h2))]
theorem getW_zero {s : List UInt8} {a j acc : Nat} {b : UInt8} (hb : s[a + j]? = some b) (hj : j < 9) (h : b.toNat = 0) (h0 : j ≠ 0) : getW s a j acc = .tuple ⟨[i64 0, i64 0, i64 5]⟩ := by
  obtain ⟨k, hk⟩ : ∃ k, 9 - j = k + 1 := ⟨8 - j, by omega⟩
  unfold getW
  rw [drop_at hb, hk, getD, if_neg (by omega), if_pos ⟨h, by simpa using h0⟩]

theorem vGet_loop (hs : s.length < 1000000000000) : ∀ (k j acc : Nat), j + k = 9 → acc < 2 ^ (7 * j) → a + j ≤ s.length → Ends E0 F_vGet 0 (fun v' H' => v' = getW s a j acc ∧ H' = hp 0 []) (vgS s a j acc) := by
  intro k
  induction k with
  | zero =>
    intro j acc hj hacc hle
    obtain rfl : j = 9 := by omega
    have hv : getW s a 9 acc = .tuple ⟨[i64 0, i64 0, i64 5]⟩ := rfl
    rw [hv]
    refine Ends.goto E0_good 0 (.op F_vGet 23) (by kernel_rfl) ?_
    by_cases hlt : a + 9 < s.length
    · refine Ends.sl 22 (boolV (!leI (.ofNat s.length) (.ofNat (a + 9)))) (.bool true) (by kernel_rfl) (lt_true hlt) ?_
      refine Ends.done E0_good 200 (by kernel_rfl) ⟨rfl, rfl⟩
    · refine Ends.sl 22 (boolV (!leI (.ofNat s.length) (.ofNat (a + 9)))) (.bool false) (by kernel_rfl) (lt_false (by omega)) ?_
      refine Ends.done E0_good 200 (by kernel_rfl) ⟨rfl, rfl⟩
  | succ k ih =>
    intro j acc hj hacc hle
    refine Ends.goto E0_good 0 (.op F_vGet 23) (by kernel_rfl) ?_
    by_cases hlt : a + j < s.length
    · obtain ⟨b, hb⟩ : ∃ b, s[a + j]? = some b := ⟨_, List.getElem?_eq_getElem hlt⟩
      refine Ends.sl 22 (boolV (!leI (.ofNat s.length) (.ofNat (a + j)))) (.bool true) (by kernel_rfl) (lt_true hlt) ?_
      refine Ends.goto E0_good 0 (.cond F_vGet 25) (by kernel_rfl) ?_
      refine Ends.sl 25 (boolV (!leI 63 (.ofNat (7 * j)))) (.bool true) (by kernel_rfl) (lt_true (b := 63) (by omega)) ?_
      refine Ends.goto E0_good 0 (.op F_vGet 31) (by kernel_rfl) ?_
      refine Ends.sidx E0_good T_str (a + j) s b (by kernel_rfl) (by kernel_rfl) hb (by kernel_rfl) ?_
      refine Ends.goto E0_good 0 (.op F_vGet 35) (by kernel_rfl) ?_
      have hb0 := b.toNat_lt
      refine Ends.sl 33 (i64 (wrapF .i64 (IntKind.wrap .u8 ((BitVec.ofInt 8 (.ofNat b.toNat) &&& BitVec.ofInt 8 127).toNat : Int)))) (nat (b.toNat % 128)) (by kernel_rfl) (by rw [u8_and, wrapF_i64 (by constructor <;> simp <;> omega)]) ?_
      refine Ends.sem E0_good (Op.shift .shl .i64 (.ofNat (b.toNat % 128)) .i64 (.ofNat (7 * j))) (nat (b.toNat % 128 * 2 ^ (7 * j))) (by kernel_rfl) ?_ rfl (by kernel_rfl) ?_
      · rw [shift_left, show min (7 * j) 64 = 7 * j by omega]
        have hpw : 2 ^ (7 * j) ≤ 2 ^ 56 := Nat.pow_le_pow_right (by decide) (by omega)
        have hx : b.toNat % 128 * 2 ^ (7 * j) ≤ 127 * 2 ^ (7 * j) := Nat.mul_le_mul_right _ (by omega)
        have hc : (Int.ofNat (b.toNat % 128) * 2 ^ (7 * j) : Int) = ((b.toNat % 128 * 2 ^ (7 * j) : Nat) : Int) := by
          show ((b.toNat % 128 : Nat) : Int) * 2 ^ (7 * j) = _
          push_cast; rfl
        rw [hc, IntWalk.i64_in _ (by omega)]; rfl
      refine Ends.goto E0_good 0 (.op F_vGet 39) (by kernel_rfl) ?_
      refine Ends.sl 4 (i64 (IntKind.wrap .i64 ((BitVec.ofInt 64 (.ofNat acc) ||| BitVec.ofInt 64 (.ofNat (b.toNat % 128 * 2 ^ (7 * j)))).toNat : Int))) (nat (acc + b.toNat % 128 * 2 ^ (7 * j))) (by kernel_rfl) (by rw [i64_or hacc (by omega) (by omega)]) ?_
      refine Ends.sidx E0_good T_str (a + j) s b (by kernel_rfl) (by kernel_rfl) hb (by kernel_rfl) ?_
      refine Ends.goto E0_good 0 (.cond F_vGet 40) (by kernel_rfl) ?_
      by_cases h128 : 128 ≤ b.toNat
      · refine Ends.sl 40 (boolV (leI 128 (.ofNat b.toNat))) (.bool true) (by kernel_rfl) (bv (leI_true (by simp; omega))) ?_
        refine Ends.goto E0_good 0 (.loop F_vGet) (by kernel_rfl) ?_
        refine Ends.sl 7 (i64 (wrapF .i64 (.ofNat (7 * j) + 7))) (nat (7 * (j + 1))) (by kernel_rfl) (by rw [wrapF_i64 (by constructor <;> simp <;> omega)]; rfl) ?_
        refine Ends.sl 8 (i64 (wrapF .i64 (.ofNat (a + j) + 1))) (nat (a + (j + 1))) (by kernel_rfl) (succ_i64 (by omega)) ?_
        refine Ends.norm [] [] 0 [0, 1, 4, 7, 8] [] (by kernel_rfl) (by kernel_rfl) trivial ?_
        refine Ends.to (vgS s a (j + 1) (acc + b.toNat % 128 * 2 ^ (7 * j))) (by kernel_rfl) ?_
        rw [getW_more hb (by omega) h128]
        refine ih (j + 1) _ (by omega) ?_ (by omega)
        have hx : b.toNat % 128 * 2 ^ (7 * j) ≤ 127 * 2 ^ (7 * j) := Nat.mul_le_mul_right _ (by omega)
        rw [show 7 * (j + 1) = 7 * j + 7 by omega, Nat.pow_add]
        omega
      · refine Ends.sl 40 (boolV (leI 128 (.ofNat b.toNat))) (.bool false) (by kernel_rfl) (bv (leI_false (by simp; omega))) ?_
        refine Ends.goto E0_good 0 (.op F_vGet 45) (by kernel_rfl) ?_
        refine Ends.sidx E0_good T_str (a + j) s b (by kernel_rfl) (by kernel_rfl) hb (by kernel_rfl) ?_
        refine Ends.goto E0_good 0 (.op F_vGet 48) (by kernel_rfl) ?_
        have hsucc : i64 (wrapF .i64 (.ofNat (a + j) + 1)) = nat (a + j + 1) := succ_i64 (by omega)
        have fin : (b.toNat = 0 ∧ j ≠ 0 → False) → Value.tuple ⟨[nat (acc + b.toNat % 128 * 2 ^ (7 * j)), i64 (wrapF .i64 (.ofNat (a + j) + 1)), i64 0]⟩ = getW s a j acc := by
          intro hno
          rw [hsucc, getW_last hb (by omega) (by omega) (fun h1 h2 => hno ⟨h1, h2⟩), Nat.mod_eq_of_lt (by omega), Nat.mul_comm]
        by_cases h0 : b.toNat = 0
        · refine Ends.sl 47 (boolV (eqI (.ofNat b.toNat) 0)) (.bool true) (by kernel_rfl) (bv (eqI_true (by rw [h0]; rfl))) ?_
          refine Ends.goto E0_good 0 (.cond F_vGet 51) (by kernel_rfl) ?_
          by_cases hj0 : j = 0
          · refine Ends.sl 51 (boolV (!leI (.ofNat (a + j)) (.ofNat a))) (.bool false) (by kernel_rfl) (lt_false (by omega)) ?_
            exact Ends.done E0_good 200 (by kernel_rfl) ⟨fin (fun h => h.2 hj0), rfl⟩
          · refine Ends.sl 51 (boolV (!leI (.ofNat (a + j)) (.ofNat a))) (.bool true) (by kernel_rfl) (lt_true (by omega)) ?_
            refine Ends.done E0_good 200 (v := .tuple ⟨[i64 0, i64 0, i64 5]⟩) (H := hp 0 []) (by kernel_rfl) ⟨?_, rfl⟩
            rw [getW_zero hb (by omega) h0 hj0]
        · refine Ends.sl 47 (boolV (eqI (.ofNat b.toNat) 0)) (.bool false) (by kernel_rfl) (bv (eqI_false (by simpa using h0))) ?_
          exact Ends.done E0_good 200 (by kernel_rfl) ⟨fin (fun h => h0 h.1), rfl⟩
    · refine Ends.sl 22 (boolV (!leI (.ofNat s.length) (.ofNat (a + j)))) (.bool false) (by kernel_rfl) (lt_false (by omega)) ?_
      refine Ends.goto E0_good 0 (.cond F_vGet 56) (by kernel_rfl) ?_
      refine Ends.sl 56 (boolV (!leI 63 (.ofNat (7 * j)))) (.bool true) (by kernel_rfl) (lt_true (b := 63) (by omega)) ?_
      refine Ends.done E0_good 200 (v := .tuple ⟨[i64 0, i64 0, i64 4]⟩) (H := hp 0 []) (by kernel_rfl) ⟨?_, rfl⟩
      rw [getW_end (by omega) (by omega)]

theorem vGet_does (hs : s.length < 1000000000000) (ha : a ≤ s.length) : Does E0 F_vGet 0 [str s, nat a] (hp 0 []) (getV s a) (hp 0 []) := by
  refine Does.of (by kernel_rfl) ?_
  refine Ends.goto E0_good 0 (.op F_vGet 12) (by kernel_rfl) ?_
  refine Ends.sl 11 (boolV (!leI 0 (.ofNat a))) (.bool false) (by kernel_rfl) (bv (by rw [leI_true (by simp)]; rfl)) ?_
  refine Ends.goto E0_good 0 (.cond F_vGet 16) (by kernel_rfl) ?_
  refine Ends.sl 16 (boolV (!leI (.ofNat a) (.ofNat s.length))) (.bool false) (by kernel_rfl) (lt_false ha) ?_
  refine Ends.goto E0_good 0 (.loop F_vGet) (by kernel_rfl) ?_
  show Ends E0 F_vGet 0 _ (vgL s a)
  refine Ends.norm [] [] 0 [0, 1, 4, 7, 8] [] (by kernel_rfl) (by kernel_rfl) trivial ?_
  refine Ends.to (vgS s a 0 0) (by kernel_rfl) ?_
  have := vGet_loop s a hs 9 0 0 (by omega) (by decide) (by omega)
  rw [getW_start] at this
  exact this
end
end Go.Den.VvF
