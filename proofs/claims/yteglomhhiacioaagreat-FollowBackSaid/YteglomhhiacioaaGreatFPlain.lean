/- Places come back of their bytes; what is taken as such is just that: the plain law. -/
import Derived.Test.YteglomhhiacioaaGreatFDec
import Derived.Test.YteglomhhiacioaaGreatFEnc
namespace Go.Den.VvF

theorem getD_put : ∀ (k n : Nat) (f : Bool) (rest : List UInt8), n < 128 ^ (k + 1) → (f = true ∨ n ≠ 0) → getD (k + 1) f (putB n ++ rest) = .ok n (putB n).length
  | k, n, f, rest, h, hf => by
    by_cases h1 : n < 128
    · have h2 : (UInt8.ofNat n).toNat = n := by rw [UInt8.toNat_ofNat']; exact Nat.mod_eq_of_lt (by omega)
      rw [putB_small h1, List.singleton_append, getD, h2, if_neg (by omega), if_neg]
      · rfl
      · rintro ⟨h3, h4⟩
        rcases hf with h5 | h5
        · rw [h5] at h4; cases h4
        · exact h5 h3
    · have h2 : (UInt8.ofNat (n % 128 + 128)).toNat = n % 128 + 128 := by rw [UInt8.toNat_ofNat']; exact Nat.mod_eq_of_lt (by omega)
      cases k with
      | zero => simp at h; omega
      | succ k =>
        rw [putB_great (by omega), List.cons_append, getD, h2, if_pos (by omega),
          getD_put k (n / 128) false rest (by rw [Nat.div_lt_iff_lt_mul (by omega)]; rw [Nat.pow_succ] at h; omega) (.inr (by omega))]
        simp only [List.length_cons]
        congr 1
        omega

theorem getD_inv : ∀ (k : Nat) (f : Bool) (l : List UInt8) (n u : Nat), getD k f l = .ok n u → putB n = l.take u ∧ (f = true ∨ n ≠ 0)
  | 0, _, _, _, _, h => by simp [getD] at h
  | k + 1, f, [], n, u, h => by simp [getD] at h
  | k + 1, f, b :: r, n, u, h => by
    have hb := b.toNat_lt
    rw [getD] at h
    split at h
    · rename_i h128
      cases hr : getD k false r with
      | ok n' u' =>
        rw [hr] at h
        simp only [GR.ok.injEq] at h
        obtain ⟨rfl, rfl⟩ := h
        obtain ⟨h1, h2⟩ := getD_inv k false r n' u' hr
        have h2 : n' ≠ 0 := by rcases h2 with h | h; cases h; exact h
        refine ⟨?_, .inr (by omega)⟩
        rw [putB_great (by omega), List.take_succ_cons, ← h1]
        have e1 : (b.toNat % 128 + 128 * n') / 128 = n' := by omega
        have e2 : UInt8.ofNat ((b.toNat % 128 + 128 * n') % 128 + 128) = b := by
          rw [show (b.toNat % 128 + 128 * n') % 128 + 128 = b.toNat by omega]
          exact UInt8.ofNat_toNat
        rw [e1, e2]
      | short => rw [hr] at h; cases h
      | form => rw [hr] at h; cases h
    · rename_i h128
      split at h
      · cases h
      · rename_i h0
        simp only [GR.ok.injEq] at h
        obtain ⟨rfl, rfl⟩ := h
        refine ⟨?_, ?_⟩
        · rw [putB_small (by omega)]
          simp
        · by_cases hf : f = true
          · exact .inl hf
          · exact .inr fun e => h0 ⟨e, by simpa using hf⟩

theorem drop_app {α : Type} {s x y : List α} {a : Nat} (h : s.drop a = x ++ y) : s.drop (a + x.length) = y := by
  rw [← List.drop_drop, h, List.drop_left]
theorem drop_len {α : Type} {s x y : List α} {a : Nat} (h : s.drop a = x ++ y) (ha : a ≤ s.length) : a + x.length ≤ s.length := by
  have := congrArg List.length h
  rw [List.length_drop, List.length_append] at this
  omega

theorem placeD_rec {s rest : List UInt8} {a : Nat} {p : PL} (ha : a ≤ s.length) (h : s.drop a = recB p ++ rest) (hn : nameB p.name = true) (h1 : 1 ≤ p.next) (h2 : p.next ≤ 1000000001) :
    placeD s a = .ok p (a + (recB p).length) := by
  have h64 := nameB_length hn
  unfold recB at h
  rw [List.append_assoc, List.append_assoc] at h
  have g1 : getD 9 true (s.drop a) = .ok p.name.length (putB p.name.length).length := by rw [h]; exact getD_put 8 _ true _ (by omega) (.inl rfl)
  have d1 := drop_app h
  have d2 := drop_app d1
  have l1 := drop_len h ha
  have l2 := drop_len d1 l1
  have g2 : getD 9 true (s.drop (a + (putB p.name.length).length + p.name.length)) = .ok p.next.toNat (putB p.next.toNat).length := by
    rw [d2]; exact getD_put 8 _ true _ (by omega) (.inl rfl)
  unfold placeD
  rw [g1]
  simp only
  rw [if_neg (by omega), if_neg (by omega), g2]
  simp only
  have e1 : (s.take (a + (putB p.name.length).length + p.name.length)).drop (a + (putB p.name.length).length) = p.name := by
    rw [List.drop_take, d1, Nat.add_sub_cancel_left, List.take_left]
  have e2 : (p.next.toNat : Int) = p.next := Int.toNat_of_nonneg (by omega)
  rw [e1, e2]
  congr 1
  unfold recB
  simp only [List.length_append]
  omega

theorem placesD_recs {s rest : List UInt8} : ∀ {l : List PL} {a : Nat}, a ≤ s.length → s.drop a = (l.map recB).flatten ++ rest → (∀ p ∈ l, nameB p.name = true ∧ 1 ≤ p.next ∧ p.next ≤ 1000000001) →
    placesD s l.length a = .ok l (a + (l.map recB).flatten.length)
  | [], a, _, _, _ => by simp [placesD]
  | p :: l, a, ha, h, hall => by
    simp only [List.map_cons, List.flatten_cons, List.append_assoc] at h
    obtain ⟨h1, h2, h3⟩ := hall p (by simp)
    have hp := placeD_rec ha h h1 h2 h3
    have ih := placesD_recs (l := l) (a := a + (recB p).length) (drop_len h ha) (drop_app h) fun q hq => hall q (by simp [hq])
    rw [List.length_cons, placesD, hp]
    simp only
    rw [ih]
    simp only [List.map_cons, List.flatten_cons, List.length_append]
    congr 1
    omega

theorem chkB_all {l : List PL} (h : chkB l = true) : ∀ p ∈ l, nameB p.name = true ∧ 1 ≤ p.next ∧ p.next ≤ 1000000001 := by
  intro p hp
  obtain ⟨i, hi⟩ := List.getElem?_of_mem hp
  obtain ⟨h1, h2, h3, _⟩ := chkB_at h hi
  exact ⟨h1, h2, h3⟩

/-- Places come back of their bytes. -/
theorem dec_enc {l : List PL} (h : chkB l = true) : decD (encB l) = .ok l := by
  have h50 := chkB_length h
  have hs : encB l = putB l.length ++ (l.map recB).flatten := rfl
  have g1 : getD 9 true (encB l) = .ok l.length (putB l.length).length := by rw [hs]; exact getD_put 8 _ true _ (by omega) (.inl rfl)
  have h0 : (encB l).drop 0 = putB l.length ++ (l.map recB).flatten := rfl
  have d1 : (encB l).drop (putB l.length).length = (l.map recB).flatten ++ [] := by
    have := drop_app h0
    rw [Nat.zero_add] at this
    rw [this, List.append_nil]
  have hlen : (encB l).length = (putB l.length).length + (l.map recB).flatten.length := by rw [hs, List.length_append]
  have g2 := placesD_recs (by rw [hlen]; omega) d1 (chkB_all h)
  unfold decD
  rw [g1]
  simp only
  rw [if_neg (by omega), g2]
  simp only
  rw [if_neg (by omega), h]
  rfl

theorem placeD_inv {s : List UInt8} {a to : Nat} {p : PL} (h : placeD s a = .ok p to) : s.drop a = recB p ++ s.drop to ∧ a ≤ to := by
  unfold placeD at h
  split at h
  · cases h
  · cases h
  · rename_i n u h1
    split at h
    · cases h
    · split at h
      · cases h
      · rename_i hle
        split at h
        · cases h
        · cases h
        · rename_i m w h2
          cases h
          obtain ⟨p1, _⟩ := getD_inv _ _ _ _ _ h1
          obtain ⟨p2, _⟩ := getD_inv _ _ _ _ _ h2
          have e1 : (s.take (a + u + n)).drop (a + u) = (s.drop (a + u)).take n := by rw [List.drop_take, Nat.add_sub_cancel_left]
          have e2 : ((s.drop (a + u)).take n).length = n := by rw [List.length_take, List.length_drop]; omega
          refine ⟨?_, by omega⟩
          unfold recB
          simp only [e1, e2, Int.toNat_natCast, p1, p2]
          rw [List.append_assoc, List.append_assoc, show a + u + n + w = (a + u + n) + w by omega, ← List.drop_drop (l := s) (i := w), List.take_append_drop, ← List.drop_drop (l := s) (i := n), List.take_append_drop, ← List.drop_drop (l := s) (i := u), List.take_append_drop]
theorem placesD_inv {s : List UInt8} : ∀ {k a b : Nat} {l : List PL}, placesD s k a = .ok l b → s.drop a = (l.map recB).flatten ++ s.drop b ∧ l.length = k
  | 0, a, b, l, h => by
    simp only [placesD, LR.ok.injEq] at h
    obtain ⟨rfl, rfl⟩ := h
    simp
  | k + 1, a, b, l, h => by
    rw [placesD] at h
    cases hp : placeD s a with
    | bad e => rw [hp] at h; cases h
    | ok p to =>
      rw [hp] at h
      simp only at h
      cases hr : placesD s k to with
      | bad e => rw [hr] at h; cases h
      | ok r b' =>
        rw [hr] at h
        simp only [LR.ok.injEq] at h
        obtain ⟨rfl, rfl⟩ := h
        obtain ⟨h1, h2⟩ := placesD_inv hr
        obtain ⟨h3, _⟩ := placeD_inv hp
        rw [h3, h1]
        simp [h2]

/-- What is taken as such is just that. -/
theorem enc_dec {s : List UInt8} {l : List PL} (h : decD s = .ok l) : encB l = s ∧ chkB l = true := by
  unfold decD at h
  split at h
  · cases h
  · cases h
  · rename_i n u h1
    split at h
    · cases h
    · cases hp : placesD s n u with
      | bad e => rw [hp] at h; cases h
      | ok r b =>
        rw [hp] at h
        simp only at h
        split at h
        · cases h
        · rename_i hb
          cases hc : chkB r with
          | false => rw [hc] at h; cases h
          | true =>
            rw [hc] at h
            simp only [cond_true, DR.ok.injEq] at h
            subst h
            obtain ⟨e1, e2⟩ := placesD_inv hp
            obtain ⟨p1, _⟩ := getD_inv _ _ _ _ _ h1
            rw [List.drop_of_length_le (show s.length ≤ b by omega), List.append_nil] at e1
            refine ⟨?_, hc⟩
            unfold encB
            rw [e2, p1, ← e1, List.take_append_drop]

theorem decD_bad {s : List UInt8} {e : Int} (h : decD s = .bad e) : e ≠ 0 := by
  have hplace : ∀ a e, placeD s a = .bad e → e ≠ 0 := by
    intro a e h
    unfold placeD at h
    repeat' split at h
    all_goals first | (cases h; decide) | cases h
  have hplaces : ∀ k a e, placesD s k a = .bad e → e ≠ 0 := by
    intro k
    induction k with
    | zero => intro a e h; simp [placesD] at h
    | succ k ih =>
      intro a e h
      rw [placesD] at h
      cases hp : placeD s a with
      | bad x => rw [hp] at h; cases h; exact hplace a _ hp
      | ok p to =>
        rw [hp] at h
        simp only at h
        cases hr : placesD s k to with
        | bad x => rw [hr] at h; cases h; exact ih _ _ hr
        | ok r b => rw [hr] at h; cases h
  unfold decD at h
  split at h
  · cases h; decide
  · cases h; decide
  · rename_i n u _
    split at h
    · cases h; decide
    · cases hp : placesD s n u with
      | bad x => rw [hp] at h; cases h; exact hplaces _ _ _ hp
      | ok r b =>
        rw [hp] at h
        simp only at h
        split at h
        · cases h; decide
        · cases hc : chkB r <;> rw [hc] at h <;> cases h
          decide
end Go.Den.VvF
