/- name.letter, name.Check. -/
import Derived.Test.YteglomhhiacioaaGreatD4
import Derived.Test.YteglomhhiacioaaGreatFNames
namespace Go.Den.VvF
open Go.Proofs
set_option maxRecDepth 100000

theorem bv {x b : Bool} (h : x = b) : boolV x = .bool b := by subst h; exact boolV_eq x

def letterB (x : Int) : Bool := (leI 97 x && leI x 122) || ((leI 48 x && leI x 57) || (eqI x 46 || eqI x 45))

theorem letter_does (x : Int) : Does E0 F_letter 0 [.int .i32 x] (hp 0 []) (.bool (letterB x)) (hp 0 []) := by
  unfold letterB
  refine Does.of (by kernel_rfl) ?_
  refine Ends.goto E0_good 1 (.op F_letter 6) (by kernel_rfl) ?_
  have tail : ∀ s : St, s = s → True := fun _ _ => trivial
  clear tail
  cases h1 : leI 97 x with
  | true =>
    refine Ends.sl 5 (boolV (leI 97 x)) (.bool true) (by kernel_rfl) (bv h1) ?_
    refine Ends.goto E0_good 1 (.op F_letter 10) (by kernel_rfl) ?_
    cases h2 : leI x 122 with
    | true =>
      refine Ends.sl 9 (boolV (leI x 122)) (.bool true) (by kernel_rfl) (bv h2) ?_
      exact Ends.done E0_good 100 (by kernel_rfl) ⟨rfl, rfl⟩
    | false =>
      refine Ends.sl 9 (boolV (leI x 122)) (.bool false) (by kernel_rfl) (bv h2) ?_
      refine Ends.goto E0_good 1 (.op F_letter 13) (by kernel_rfl) ?_
      cases h3 : leI 48 x with
      | true =>
        refine Ends.sl 12 (boolV (leI 48 x)) (.bool true) (by kernel_rfl) (bv h3) ?_
        refine Ends.goto E0_good 1 (.op F_letter 18) (by kernel_rfl) ?_
        cases h4 : leI x 57 with
        | true =>
          refine Ends.sl 17 (boolV (leI x 57)) (.bool true) (by kernel_rfl) (bv h4) ?_
          exact Ends.done E0_good 100 (by kernel_rfl) ⟨rfl, rfl⟩
        | false =>
          refine Ends.sl 17 (boolV (leI x 57)) (.bool false) (by kernel_rfl) (bv h4) ?_
          refine Ends.goto E0_good 1 (.op F_letter 22) (by kernel_rfl) ?_
          cases h5 : eqI x 46 with
          | true =>
            refine Ends.sl 21 (boolV (eqI x 46)) (.bool true) (by kernel_rfl) (bv h5) ?_
            exact Ends.done E0_good 100 (by kernel_rfl) ⟨rfl, rfl⟩
          | false =>
            refine Ends.sl 21 (boolV (eqI x 46)) (.bool false) (by kernel_rfl) (bv h5) ?_
            exact Ends.done E0_good 100 (v := boolV (eqI x 45)) (by kernel_rfl) ⟨boolV_eq _, rfl⟩
      | false =>
        refine Ends.sl 12 (boolV (leI 48 x)) (.bool false) (by kernel_rfl) (bv h3) ?_
        refine Ends.goto E0_good 1 (.op F_letter 22) (by kernel_rfl) ?_
        cases h5 : eqI x 46 with
        | true =>
          refine Ends.sl 21 (boolV (eqI x 46)) (.bool true) (by kernel_rfl) (bv h5) ?_
          exact Ends.done E0_good 100 (by kernel_rfl) ⟨rfl, rfl⟩
        | false =>
          refine Ends.sl 21 (boolV (eqI x 46)) (.bool false) (by kernel_rfl) (bv h5) ?_
          exact Ends.done E0_good 100 (v := boolV (eqI x 45)) (by kernel_rfl) ⟨boolV_eq _, rfl⟩
  | false =>
    refine Ends.sl 5 (boolV (leI 97 x)) (.bool false) (by kernel_rfl) (bv h1) ?_
    refine Ends.goto E0_good 1 (.op F_letter 13) (by kernel_rfl) ?_
    cases h3 : leI 48 x with
    | true =>
      refine Ends.sl 12 (boolV (leI 48 x)) (.bool true) (by kernel_rfl) (bv h3) ?_
      refine Ends.goto E0_good 1 (.op F_letter 18) (by kernel_rfl) ?_
      cases h4 : leI x 57 with
      | true =>
        refine Ends.sl 17 (boolV (leI x 57)) (.bool true) (by kernel_rfl) (bv h4) ?_
        exact Ends.done E0_good 100 (by kernel_rfl) ⟨rfl, rfl⟩
      | false =>
        refine Ends.sl 17 (boolV (leI x 57)) (.bool false) (by kernel_rfl) (bv h4) ?_
        refine Ends.goto E0_good 1 (.op F_letter 22) (by kernel_rfl) ?_
        cases h5 : eqI x 46 with
        | true =>
          refine Ends.sl 21 (boolV (eqI x 46)) (.bool true) (by kernel_rfl) (bv h5) ?_
          exact Ends.done E0_good 100 (by kernel_rfl) ⟨rfl, rfl⟩
        | false =>
          refine Ends.sl 21 (boolV (eqI x 46)) (.bool false) (by kernel_rfl) (bv h5) ?_
          exact Ends.done E0_good 100 (v := boolV (eqI x 45)) (by kernel_rfl) ⟨boolV_eq _, rfl⟩
    | false =>
      refine Ends.sl 12 (boolV (leI 48 x)) (.bool false) (by kernel_rfl) (bv h3) ?_
      refine Ends.goto E0_good 1 (.op F_letter 22) (by kernel_rfl) ?_
      cases h5 : eqI x 46 with
      | true =>
        refine Ends.sl 21 (boolV (eqI x 46)) (.bool true) (by kernel_rfl) (bv h5) ?_
        exact Ends.done E0_good 100 (by kernel_rfl) ⟨rfl, rfl⟩
      | false =>
        refine Ends.sl 21 (boolV (eqI x 46)) (.bool false) (by kernel_rfl) (bv h5) ?_
        exact Ends.done E0_good 100 (v := boolV (eqI x 45)) (by kernel_rfl) ⟨boolV_eq _, rfl⟩

/-! ### name.Check -/
theorem get_bang {s : List UInt8} {i : Nat} {b : UInt8} (h : s[i]? = some b) : (⟨⟨s⟩⟩ : ByteArray).get! (i + 0) = b := by
  show (⟨s⟩ : Array UInt8)[i + 0]! = b
  rw [Nat.add_zero]
  simp only [getElem!_def, List.getElem?_toArray, h]

theorem decode_small {s : List UInt8} {i : Nat} {b : UInt8} (h : s[i]? = some b) (hb : b.toNat < 128) : Utf8.decode ⟨⟨s⟩⟩ i = (b.toNat, 1) := by
  unfold Utf8.decode
  simp only [get_bang h]
  rw [if_pos hb]

theorem decode_great {s : List UInt8} {i : Nat} {b : UInt8} (h : s[i]? = some b) (hb : 128 ≤ b.toNat) : 128 ≤ (Utf8.decode ⟨⟨s⟩⟩ i).1 := by
  unfold Utf8.decode
  simp only [get_bang h]
  rw [if_neg (by omega)]
  split
  · split
    · simp only; omega
    · simp [Utf8.runeError]
  · split
    · split
      · rename_i hc
        simp only [Bool.and_eq_true, decide_eq_true_eq] at hc
        simp only; omega
      · simp [Utf8.runeError]
    · split
      · split
        · rename_i hc
          simp only [Bool.and_eq_true, decide_eq_true_eq] at hc
          simp only; omega
        · simp [Utf8.runeError]
      · simp [Utf8.runeError]

def letB (b : UInt8) : Bool := letterB b.toNat
def nameB (s : List UInt8) : Bool := decide (1 ≤ s.length ∧ s.length ≤ 64) && s.all letB
def nameV (s : List UInt8) : Value := i64 (bif nameB s then 0 else 180)

theorem letterB_great {x : Int} (h : 128 ≤ x) : letterB x = false := by
  unfold letterB
  rw [leI_false (show (122 : Int) < x by omega), leI_false (show (57 : Int) < x by omega), eqI_false (show x ≠ 46 by omega), eqI_false (show x ≠ 45 by omega)]
  simp

section
variable (s : List UInt8)
noncomputable def ncI : St := entS E0 F_nCheck [str s] (hp 0 [])
noncomputable def ncS (i : Nat) : St := reS [(14, ptr 0 0)] [] (hp 1 [(0, .strIter ⟨⟨s⟩⟩ i)]) (toS E0 1 (.loop F_nCheck) (slS 12 (.bool false) (toS E0 1 (.cond F_nCheck 12) (slS 8 (.bool false) (toS E0 1 (.op F_nCheck 9) (ncI s))))))

theorem nCheck_does : Does E0 F_nCheck 0 [str s] (hp 0 []) (nameV s) (hp 0 []) := by
  refine Does.of (by kernel_rfl) ?_
  show Ends E0 F_nCheck 0 _ (ncI s)
  refine Ends.goto E0_good 1 (.op F_nCheck 9) (by kernel_rfl) ?_
  by_cases h0 : s.length < 1
  · refine Ends.sl 8 (boolV (!leI 1 (.ofNat s.length))) (.bool true) (by kernel_rfl) (bv (by rw [leI_false (by simp; omega)]; rfl)) ?_
    refine Ends.done E0_good 100 (v := i64 180) (H := hp 0 []) (by kernel_rfl) ⟨?_, rfl⟩
    have : nameB s = false := by simp [nameB]; omega
    unfold nameV; rw [this]; rfl
  refine Ends.sl 8 (boolV (!leI 1 (.ofNat s.length))) (.bool false) (by kernel_rfl) (bv (by rw [leI_true (by simp; omega)]; rfl)) ?_
  refine Ends.goto E0_good 1 (.cond F_nCheck 12) (by kernel_rfl) ?_
  by_cases h1 : 64 < s.length
  · refine Ends.sl 12 (boolV (!leI (.ofNat s.length) 64)) (.bool true) (by kernel_rfl) (bv (by rw [leI_false (by simp; omega)]; rfl)) ?_
    refine Ends.done E0_good 100 (v := i64 180) (H := hp 0 []) (by kernel_rfl) ⟨?_, rfl⟩
    have : nameB s = false := by simp [nameB]; omega
    unfold nameV; rw [this]; rfl
  refine Ends.sl 12 (boolV (!leI (.ofNat s.length) 64)) (.bool false) (by kernel_rfl) (bv (by rw [leI_true (by simp; omega)]; rfl)) ?_
  have loop : ∀ d i, d + i = s.length → (∀ b ∈ s.take i, letB b = true) → Ends E0 F_nCheck 0 (fun v' H' => v' = nameV s ∧ H' = hp 0 []) (ncS s i) := by
    intro d
    induction d with
    | zero =>
      intro i hi hall
      refine Ends.goto E0_good 0 (.op F_nCheck 15) (by kernel_rfl) ?_
      refine Ends.nxtF E0_good 0 i s (by kernel_rfl) (by kernel_rfl) (by omega) (by kernel_rfl) ?_
      refine Ends.goto E0_good 0 (.ret F_nCheck) (by kernel_rfl) ?_
      refine Ends.norm [] [] 0 [2] [] (by kernel_rfl) (by kernel_rfl) trivial ?_
      refine Ends.done E0_good 100 (v := i64 0) (H := hp 0 []) (by kernel_rfl) ⟨?_, rfl⟩
      have : s.take i = s := List.take_of_length_le (by omega)
      rw [this] at hall
      have h2 : s.all letB = true := by simpa using hall
      have : nameB s = true := by simp only [nameB, h2, Bool.and_true]; simp; omega
      unfold nameV; rw [this]; rfl
    | succ d ih =>
      intro i hi hall
      have hlt : i < s.length := by omega
      obtain ⟨b, hb⟩ : ∃ b, s[i]? = some b := ⟨_, List.getElem?_eq_getElem hlt⟩
      refine Ends.goto E0_good 0 (.op F_nCheck 15) (by kernel_rfl) ?_
      refine Ends.nxtT E0_good 0 i s (by kernel_rfl) (by kernel_rfl) hlt (by kernel_rfl) ?_
      refine Ends.goto E0_good 0 (.op F_nCheck 19) (by kernel_rfl) ?_
      refine Ends.call0 E0_good F_letter [.int .i32 (Utf8.decode ⟨⟨s⟩⟩ i).1] _ (letter_does _) rfl rfl (by kernel_rfl) (by kernel_rfl) (by kernel_rfl) ?_
      cases hl : letB b with
      | true =>
        have hsm : b.toNat < 128 := by
          rcases Nat.lt_or_ge b.toNat 128 with h | h
          · exact h
          · unfold letB at hl; rw [letterB_great (by omega)] at hl; cases hl
        have hd := decode_small hb hsm
        refine Ends.sl 19 (.bool (letterB (Utf8.decode ⟨⟨s⟩⟩ i).1)) (.bool true) (by kernel_rfl) (by rw [hd]; exact congrArg Value.bool hl) ?_
        refine Ends.goto E0_good 0 (.loop F_nCheck) (by kernel_rfl) ?_
        refine Ends.ob 0 (.strIter ⟨⟨s⟩⟩ (i + (Utf8.decode ⟨⟨s⟩⟩ i).2)) (.strIter ⟨⟨s⟩⟩ (i + 1)) (by kernel_rfl) (by rw [hd]) ?_
        refine Ends.norm [(0, 0)] [] 1 [14] [] (by kernel_rfl) (by kernel_rfl) trivial ?_
        refine Ends.to (ncS s (i + 1)) (by kernel_rfl) ?_
        refine ih (i + 1) (by omega) ?_
        intro q hq
        rw [List.take_add_one, hb] at hq
        simp only [Option.toList, List.mem_append, List.mem_singleton] at hq
        rcases hq with hq | rfl
        · exact hall q hq
        · exact hl
      | false =>
        have hf : letterB (Utf8.decode ⟨⟨s⟩⟩ i).1 = false := by
          rcases Nat.lt_or_ge b.toNat 128 with h | h
          · rw [decode_small hb h]; exact hl
          · exact letterB_great (by have := decode_great hb h; omega)
        refine Ends.sl 19 (.bool (letterB (Utf8.decode ⟨⟨s⟩⟩ i).1)) (.bool false) (by kernel_rfl) (congrArg Value.bool hf) ?_
        refine Ends.goto E0_good 0 (.ret F_nCheck) (by kernel_rfl) ?_
        refine Ends.norm [] [] 0 [2] [] (by kernel_rfl) (by kernel_rfl) trivial ?_
        refine Ends.done E0_good 100 (v := i64 180) (H := hp 0 []) (by kernel_rfl) ⟨?_, rfl⟩
        have hm : b ∈ s := List.mem_of_getElem? hb
        have : s.all letB = false := by rw [List.all_eq_false]; exact ⟨b, hm, by simp [hl]⟩
        have : nameB s = false := by simp only [nameB, this, Bool.and_false]
        unfold nameV; rw [this]; rfl
  refine Ends.goto E0_good 1 (.loop F_nCheck) (by kernel_rfl) ?_
  refine Ends.norm [(0, 0)] [] 1 [14] [] (by kernel_rfl) (by kernel_rfl) trivial ?_
  refine Ends.to (ncS s 0) (by kernel_rfl) ?_
  exact loop s.length 0 (by omega) (by simp)
end
end Go.Den.VvF
