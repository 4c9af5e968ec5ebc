/- varint.Put. -/
import Derived.Test.YteglomhhiacioaaGreatD4
import Derived.Test.YteglomhhiacioaaGreatFName
namespace Go.Den.VvF
open Go.Proofs
set_option maxRecDepth 100000

/-- a number's bytes -/
def putB (n : Nat) : List UInt8 := if n < 128 then [UInt8.ofNat n] else UInt8.ofNat (n % 128 + 128) :: putB (n / 128)
termination_by n

theorem putB_small {n : Nat} (h : n < 128) : putB n = [UInt8.ofNat n] := by rw [putB, if_pos h]
theorem putB_great {n : Nat} (h : 128 ≤ n) : putB n = UInt8.ofNat (n % 128 + 128) :: putB (n / 128) := by rw [putB, if_neg (by omega)]

theorem putB_length : ∀ (k n : Nat), n < 128 ^ (k + 1) → (putB n).length ≤ k + 1
  | 0, n, h => by rw [putB_small (by simpa using h)]; simp
  | k + 1, n, h => by
    by_cases h1 : n < 128
    · rw [putB_small h1]; simp
    · rw [putB_great (by omega)]
      have := putB_length k (n / 128) (by rw [Nat.div_lt_iff_lt_mul (by omega)]; rw [Nat.pow_succ] at h; omega)
      simp; omega
theorem putB_pos (n : Nat) : 1 ≤ (putB n).length := by
  by_cases h1 : n < 128
  · rw [putB_small h1]; simp
  · rw [putB_great (by omega)]; simp

def zer (n : Nat) : List Value := repeatL [.int .u8 0] n
theorem zer_length : ∀ n, (zer n).length = n
  | 0 => rfl
  | n + 1 => by
    show ([Value.int .u8 0] ++ zer n).length = n + 1
    rw [List.length_append, zer_length n]; simp; omega
theorem zer_succ (n : Nat) : zer (n + 1) = .int .u8 0 :: zer n := rfl
theorem zer_scalar : ∀ n, allL scalar (zer n) = true
  | 0 => rfl
  | n + 1 => by rw [zer_succ]; simp only [allL]; rw [zer_scalar n]; rfl
theorem allL_app {α : Type} {p : α → Bool} {a b : List α} (ha : allL p a = true) (hb : allL p b = true) : allL p (a ++ b) = true := by
  rw [allL_iff] at *
  intro x hx
  rcases List.mem_append.1 hx with h | h
  · exact ha x h
  · exact hb x h

def addC (acc : List UInt8) : List Value := bytesV acc ++ zer (9 - acc.length)
def addH (acc : List UInt8) : AHeap := hp 1 [(0, .cells (addC acc) T_u8 0 false)]
theorem addC_flat (acc : List UInt8) : FlatO (.cells (addC acc) T_u8 0 false) := .of (allL_app (bytesV_scalar acc) (zer_scalar _))
theorem addC_length {acc : List UInt8} (h : acc.length ≤ 9) : (addC acc).length = 9 := by
  unfold addC; rw [List.length_append, bytesV_length, zer_length]; omega
theorem addC_step {acc : List UInt8} (b : UInt8) (h : acc.length < 9) : (addC acc).take (acc.length * 1) ++ ([.int .u8 (.ofNat b.toNat)] ++ (addC acc).drop (acc.length * 1 + 1)) = addC (acc ++ [b]) := by
  unfold addC
  rw [Nat.mul_one]
  obtain ⟨k, hk⟩ : ∃ k, 9 - acc.length = k + 1 := ⟨9 - acc.length - 1, by omega⟩
  rw [hk, List.take_left' (bytesV_length acc), zer_succ, List.drop_append, bytesV_length, List.drop_of_length_le (by rw [bytesV_length]; omega), bytesV_append, List.length_append]
  rw [show acc.length + 1 - acc.length = 1 by omega, show 9 - (acc.length + [b].length) = k by simp; omega]
  simp [bytesV]

theorem u8_wrap (m : Nat) : wrapF .u8 (.ofNat m) = .ofNat (m % 256) := by
  rw [wrapF_eq, IntKind.wrap_u8]; show (m : Int) % 256 = ((m % 256 : Nat) : Int); omega
theorem or128 : ∀ x : BitVec 8, (x ||| 128#8).toNat = x.toNat % 128 + 128 := by decide
theorem u8_or (m : Nat) : IntKind.wrap .u8 ((BitVec.ofInt 8 (wrapF .u8 (.ofNat m)) ||| BitVec.ofInt 8 128).toNat : Int) = .ofNat (UInt8.ofNat (m % 128 + 128)).toNat := by
  rw [u8_wrap, IntKind.wrap_u8]
  have h1 : BitVec.ofInt 8 128 = 128#8 := rfl
  rw [h1, or128]
  have h2 : (BitVec.ofInt 8 (.ofNat (m % 256))).toNat = m % 256 := by
    rw [BitVec.toNat_ofInt]; show (((m % 256 : Nat) : Int) % (2 ^ 8 : Nat)).toNat = m % 256; omega
  rw [h2]
  have h3 : (UInt8.ofNat (m % 128 + 128)).toNat = m % 128 + 128 := by
    rw [UInt8.toNat_ofNat']
    exact Nat.mod_eq_of_lt (by omega)
  rw [h3]
  show ((m % 256 % 128 + 128 : Nat) : Int) % 256 = ((m % 128 + 128 : Nat) : Int)
  omega
theorem shr7 (m : Nat) : (Int.ofNat m).fdiv (2 ^ 7) = .ofNat (m / 128) := by
  rw [Int.fdiv_eq_ediv_of_nonneg _ (by decide)]; rfl
theorem u8_low {m : Nat} : wrapF .u8 (.ofNat m) = .ofNat (UInt8.ofNat m).toNat := by
  rw [u8_wrap, UInt8.toNat_ofNat']

noncomputable def addS (acc : List UInt8) (m : Nat) : St := reS [(0, slv 0 0 acc.length 9), (1, nat m)] [] (addH acc) (toS E0 1 (.loop F_vAdd) (entS E0 F_vAdd [slv 0 0 0 9, nat 0] (addH [])))

theorem app1 {H : AHeap} {b : Nat} {v : Value} (ho : H.obj b = some (.cells [v] T_u8 0 false)) : AppX E0 H T_bytes T_bytes T_u8 1 1 (slv b 0 1 1) 1 [v] :=
  ⟨by kernel_rfl, by kernel_rfl, by kernel_rfl, ⟨.int .u8 0, by kernel_rfl, by kernel_rfl⟩, ⟨.slice T_u8, by kernel_rfl, by kernel_rfl⟩, rfl, first_row ho (by simp), rfl⟩

theorem add_loop : ∀ (k : Nat) (acc : List UInt8) (m : Nat), acc.length + (k + 1) ≤ 9 → m < 128 ^ (k + 1) →
    Ends E0 F_vAdd 1 (fun v' H' => v' = slv 0 0 (acc ++ putB m).length 9 ∧ H' = addH (acc ++ putB m)) (addS acc m) := by
  have last : ∀ (acc : List UInt8) (m : Nat), acc.length + 1 ≤ 9 → m < 128 → Ends E0 F_vAdd 1 (fun v' H' => v' = slv 0 0 (acc ++ putB m).length 9 ∧ H' = addH (acc ++ putB m)) (addS acc m) := by
    intro acc m ha hm
    refine Ends.goto E0_good 1 (.cond F_vAdd 6) (by kernel_rfl) ?_
    refine Ends.sl 6 (boolV (leI 128 (.ofNat m))) (.bool false) (by kernel_rfl) (bv (leI_false (by simp; omega))) ?_
    refine Ends.goto E0_good 1 (.op F_vAdd 18) (by kernel_rfl) ?_
    refine Ends.sl 17 (.int .u8 (wrapF .u8 (.ofNat m))) (.int .u8 (.ofNat (UInt8.ofNat m).toNat)) (by kernel_rfl) (by rw [u8_low]) ?_
    refine Ends.goto E0_good 1 (.op F_vAdd 19) (by kernel_rfl) ?_
    refine Ends.app E0_good T_bytes T_bytes (slv 0 0 acc.length 9) (slv 1 0 1 1) (slv 0 0 (acc.length + 1) 9) _ (by kernel_rfl)
      (append_room (b := 0) (fz := 0) (mk := false) (c := addC acc) (app1 (v := .int .u8 (.ofNat (UInt8.ofNat m).toNat)) (by kernel_rfl)) (by omega) (by omega) ha (by decide) (by kernel_rfl) (Nat.zero_le _) (by rw [addC_length (by omega)]; omega) rfl) (by kernel_rfl) ?_
    refine Ends.ob 0 (.cells ((addC acc).take (acc.length * 1) ++ ([.int .u8 (.ofNat (UInt8.ofNat m).toNat)] ++ (addC acc).drop (acc.length * 1 + 1))) T_u8 0 false) (.cells (addC (acc ++ putB m)) T_u8 0 false) (by kernel_rfl) (by rw [addC_step _ (by omega), putB_small hm]) ?_
    refine Ends.goto E0_good 1 (.ret F_vAdd) (by kernel_rfl) ?_
    refine Ends.norm [(0, 0)] [(0, .cells (addC (acc ++ putB m)) T_u8 0 false)] 1 [4] [] (by kernel_rfl) (by kernel_rfl) ⟨by kernel_rfl, addC_flat _, trivial⟩ ?_
    refine Ends.done E0_good 100 (v := slv 0 0 (acc.length + 1) 9) (H := addH (acc ++ putB m)) (by kernel_rfl) ⟨?_, rfl⟩
    rw [putB_small hm]; simp
  intro k
  induction k with
  | zero => intro acc m ha hm; exact last acc m ha (by simpa using hm)
  | succ k ih =>
    intro acc m ha hm
    rcases Nat.lt_or_ge m 128 with h | h
    · exact last acc m (by omega) h
    refine Ends.goto E0_good 1 (.cond F_vAdd 6) (by kernel_rfl) ?_
    refine Ends.sl 6 (boolV (leI 128 (.ofNat m))) (.bool true) (by kernel_rfl) (bv (leI_true (by simp; omega))) ?_
    refine Ends.goto E0_good 1 (.op F_vAdd 13) (by kernel_rfl) ?_
    refine Ends.sl 12 (.int .u8 (IntKind.wrap .u8 ((BitVec.ofInt 8 (wrapF .u8 (.ofNat m)) ||| BitVec.ofInt 8 128).toNat : Int))) (.int .u8 (.ofNat (UInt8.ofNat (m % 128 + 128)).toNat)) (by kernel_rfl) (by rw [u8_or]) ?_
    refine Ends.goto E0_good 1 (.op F_vAdd 14) (by kernel_rfl) ?_
    refine Ends.app E0_good T_bytes T_bytes (slv 0 0 acc.length 9) (slv 1 0 1 1) (slv 0 0 (acc.length + 1) 9) _ (by kernel_rfl)
      (append_room (b := 0) (fz := 0) (mk := false) (c := addC acc) (app1 (v := .int .u8 (.ofNat (UInt8.ofNat (m % 128 + 128)).toNat)) (by kernel_rfl)) (by omega) (by omega) (by omega) (by decide) (by kernel_rfl) (Nat.zero_le _) (by rw [addC_length (by omega)]; omega) rfl) (by kernel_rfl) ?_
    refine Ends.ob 0 (.cells ((addC acc).take (acc.length * 1) ++ ([.int .u8 (.ofNat (UInt8.ofNat (m % 128 + 128)).toNat)] ++ (addC acc).drop (acc.length * 1 + 1))) T_u8 0 false) (.cells (addC (acc ++ [UInt8.ofNat (m % 128 + 128)])) T_u8 0 false) (by kernel_rfl) (by rw [addC_step _ (by omega)]) ?_
    refine Ends.goto E0_good 1 (.loop F_vAdd) (by kernel_rfl) ?_
    refine Ends.sl 1 (i64 ((Int.ofNat m).fdiv (2 ^ 7))) (nat (m / 128)) (by kernel_rfl) (by rw [shr7]) ?_
    refine Ends.sl 0 (slv 0 0 (acc.length + 1) 9) (slv 0 0 (acc ++ [UInt8.ofNat (m % 128 + 128)]).length 9) (by kernel_rfl) (by simp) ?_
    refine Ends.norm [(0, 0)] [(0, .cells (addC (acc ++ [UInt8.ofNat (m % 128 + 128)])) T_u8 0 false)] 1 [0, 1] [] (by kernel_rfl) (by kernel_rfl) ⟨by kernel_rfl, addC_flat _, trivial⟩ ?_
    refine Ends.to (addS (acc ++ [UInt8.ofNat (m % 128 + 128)]) (m / 128)) (by kernel_rfl) ?_
    have hstep := ih (acc ++ [UInt8.ofNat (m % 128 + 128)]) (m / 128) (by simp; omega) (by rw [Nat.div_lt_iff_lt_mul (by omega)]; rw [Nat.pow_succ] at hm; omega)
    rw [putB_great h]
    rw [List.append_assoc, List.singleton_append] at hstep
    exact hstep

theorem vAdd_does (n : Nat) (h : n < 9223372036854775808) : Does E0 F_vAdd 1 [slv 0 0 0 9, nat n] (addH []) (slv 0 0 (putB n).length 9) (addH (putB n)) := by
  refine Does.of (by kernel_rfl) ?_
  refine Ends.goto E0_good 1 (.loop F_vAdd) (by kernel_rfl) ?_
  refine Ends.norm [(0, 0)] [(0, .cells (addC []) T_u8 0 false)] 1 [0, 1] [] (by kernel_rfl) (by kernel_rfl) ⟨by kernel_rfl, addC_flat _, trivial⟩ ?_
  refine Ends.to (addS [] n) (by kernel_rfl) ?_
  exact add_loop 8 [] n (by decide) h

/-- bytes of a number, and no error -/
theorem vPut_does (n : Nat) (h : n < 9223372036854775808) : Does E0 F_vPut 0 [nat n] (hp 0 []) (.tuple ⟨[str (putB n), i64 0]⟩) (hp 0 []) := by
  refine Does.of (by kernel_rfl) ?_
  refine Ends.goto E0_good 1 (.cond F_vPut 5) (by kernel_rfl) ?_
  refine Ends.sl 5 (boolV (!leI 0 (.ofNat n))) (.bool false) (by kernel_rfl) (bv (by rw [leI_true (by simp)]; rfl)) ?_
  refine Ends.goto E0_good 1 (.op F_vPut 8) (by kernel_rfl) ?_
  have hlen : (putB n).length ≤ 9 := putB_length 8 n h
  refine Ends.callD E0_good F_vAdd [(0, 0)] 1 [(0, .cells (addC []) T_u8 0 false)] [(0, .cells (addC (putB n)) T_u8 0 false)] [slv 0 0 0 9, nat n] [slv 0 0 0 9, nat n] (addH []) (slv 0 0 (putB n).length 9) (slv 0 0 (putB n).length 9) (addH (putB n)) (vAdd_does n h)
    (by kernel_rfl) (by kernel_rfl) (by kernel_rfl) (by kernel_rfl) (by kernel_rfl) ⟨by kernel_rfl, addC_flat _, trivial⟩ ⟨by kernel_rfl, addC_flat _, trivial⟩ (by kernel_rfl) (by kernel_rfl) ?_
  refine Ends.bst E0_good T_u8 0 (putB n).length T_u8 0 false (addC (putB n)) (putB n) (by kernel_rfl) (by kernel_rfl) (by kernel_rfl) (by rw [addC_length hlen]; exact hlen) (by unfold addC; exact List.take_left' (bytesV_length _)) (by kernel_rfl) ?_
  refine Ends.goto E0_good 1 (.ret F_vPut) (by kernel_rfl) ?_
  refine Ends.norm [] [] 0 [2, 3] [] (by kernel_rfl) (by kernel_rfl) trivial ?_
  exact Ends.done E0_good 100 (by kernel_rfl) ⟨rfl, rfl⟩
end Go.Den.VvF
