/- follow.Decode. -/
import Derived.Test.YteglomhhiacioaaGreatFTake
namespace Go.Den.VvF
open Go.Proofs
set_option maxRecDepth 100000

/-- a place that is taken: itself, where it ends; an error -/
inductive PR where
  | ok (p : PL) (to : Nat)
  | bad (e : Int)
def placeD (s : List UInt8) (a : Nat) : PR :=
  match getD 9 true (s.drop a) with
  | .short => .bad 4
  | .form => .bad 5
  | .ok n u =>
    if 64 < n then .bad 180 else if s.length < a + u + n then .bad 4 else
    match getD 9 true (s.drop (a + u + n)) with
    | .short => .bad 4
    | .form => .bad 5
    | .ok m w => .ok ⟨(s.take (a + u + n)).drop (a + u), m⟩ (a + u + n + w)
inductive LR where
  | ok (l : List PL) (to : Nat)
  | bad (e : Int)
def placesD (s : List UInt8) : Nat → Nat → LR
  | 0, a => .ok [] a
  | k + 1, a => match placeD s a with
    | .bad e => .bad e
    | .ok p to => match placesD s k to with
      | .bad e => .bad e
      | .ok l b => .ok (p :: l) b
inductive DR where
  | ok (l : List PL)
  | bad (e : Int)
def decD (s : List UInt8) : DR :=
  match getD 9 true s with
  | .short => .bad 4
  | .form => .bad 5
  | .ok n u => if 50 < n then .bad 3 else match placesD s n u with
    | .bad e => .bad e
    | .ok l a => if a < s.length then .bad 6 else bif chkB l then .ok l else .bad 180

def rowV : List PL → Value
  | [] => .slice none 0 0
  | p :: l => slv 0 0 (p :: l).length capU
def rowHp (T : Nat) : List PL → AHeap
  | [] => hp 0 []
  | p :: l => hp 1 [(0, .cells (plC (p :: l)) T 0 false)]
def decV (s : List UInt8) : Value := match decD s with | .ok l => .tuple ⟨[rowV l, i64 0]⟩ | .bad e => .tuple ⟨[.slice none 0 0, i64 e]⟩
def decH (s : List UInt8) : AHeap := match decD s with | .ok l => rowHp T_p l | .bad _ => hp 0 []

theorem placeD_le {s : List UInt8} {a to : Nat} {p : PL} (h : placeD s a = .ok p to) : to ≤ s.length := by
  unfold placeD at h
  split at h
  · cases h
  · cases h
  · rename_i n u h1
    split at h
    · cases h
    · split at h
      · cases h
      · split at h
        · cases h
        · cases h
        · rename_i m w h2
          cases h
          have := getD_used _ _ _ _ _ h2
          rw [List.length_drop] at this
          omega

section
variable (s : List UInt8)
noncomputable def dcI : St := entS E0 F_fDecode [str s] (hp 0 [])
noncomputable def dcN (n u : Nat) : St := slS 7 (.bool false) (toS E0 0 (.cond F_fDecode1 7) (opS E0 (.tuple ⟨[nat n, nat u, i64 0]⟩) (toS E0 0 (.op F_tNum 11) (dcI s)).heap (toS E0 0 (.op F_tNum 11) (dcI s))))
noncomputable def dcL (n u : Nat) : St := toS E0 0 (.loop F_fDecode1) (dcN s n u)
def dcH (ov : Value) (oo : Option AObj) (a : Nat) : AHeap := hpo 7 [(0, some (tkO s a)), (1, some (.cells [ptr 0 0] T_ptkr 0 false)), (2, some (.cells [.func (.func F_tNum) ⟨[ptr 0 0]⟩ ⟨[]⟩] T_fint 0 false)), (3, some (.cells [ov] T_ps 0 false)),
  (4, some (.cells [i64 0] T_errno 0 false)), (5, some (.cells [i64 0] T_int 0 false)), (6, oo)]
noncomputable def dcS (ov : Value) (oo : Option AObj) (a n i : Nat) : St := reS [(1, ptr 3 0), (2, ptr 1 0), (10, nat n), (11, nat i)] [[(2, ptr 4 0), (3, ptr 5 0)], [(6, ptr 3 0)]] (dcH s ov oo a) (dcL s 0 0)

def outV : List PL → Value
  | [] => .slice none 0 0
  | p :: l => slv 6 0 (p :: l).length capU
def outO : List PL → Option AObj
  | [] => none
  | p :: l => some (.cells (plC (p :: l)) T_p 0 false)
theorem outV_veq (l : List PL) : veq 10 (outV l) (outV l) = true := by
  cases l with
  | nil => rfl
  | cons p l => exact veq_slice _ _ _ _

/-- what comes of places taken and places to be taken -/
def finV (l : List PL) (k a : Nat) : Value :=
  match placesD s k a with
  | .bad e => .tuple ⟨[.slice none 0 0, i64 e]⟩
  | .ok r b => if b < s.length then .tuple ⟨[.slice none 0 0, i64 6]⟩ else bif chkB (l ++ r) then .tuple ⟨[rowV (l ++ r), i64 0]⟩ else .tuple ⟨[.slice none 0 0, i64 180]⟩
def finH (l : List PL) (k a : Nat) : AHeap :=
  match placesD s k a with
  | .bad _ => hp 0 []
  | .ok r b => if b < s.length then hp 0 [] else bif chkB (l ++ r) then rowHp T_p (l ++ r) else hp 0 []

theorem fin_bad {s : List UInt8} {l : List PL} {k a : Nat} {e : Int} (h : placeD s a = .bad e) : .tuple ⟨[.slice none 0 0, i64 e]⟩ = finV s l (k + 1) a ∧ hp 0 [] = finH s l (k + 1) a := by
  have : placesD s (k + 1) a = .bad e := by unfold placesD; rw [h]
  unfold finV finH
  rw [this]; exact ⟨rfl, rfl⟩
theorem fin_ok {s : List UInt8} {l : List PL} {k a to : Nat} {p : PL} (h : placeD s a = .ok p to) : finV s (l ++ [p]) k to = finV s l (k + 1) a ∧ finH s (l ++ [p]) k to = finH s l (k + 1) a := by
  unfold finV finH
  have e : placesD s (k + 1) a = match placesD s k to with | .bad e => .bad e | .ok l b => .ok (p :: l) b := by
    rw [placesD, h]
  rw [e]
  cases placesD s k to with
  | bad e => exact ⟨rfl, rfl⟩
  | ok r b => simp only [List.append_assoc, List.singleton_append]; exact ⟨trivial, trivial⟩

theorem appP (H : AHeap) (b : Nat) (x y : Value) (ho : H.obj b = some (.cells [x, y] T_p 0 false)) : AppX E0 H T_ps T_ps T_p 2 24 (slv b 0 1 1) 1 [x, y] :=
  ⟨by kernel_rfl, by kernel_rfl, by kernel_rfl, ⟨.agg ⟨[str [], i64 0]⟩, by kernel_rfl, by kernel_rfl⟩, ⟨.slice T_p, by kernel_rfl, by kernel_rfl⟩, rfl, first_row ho (by simp), rfl⟩

theorem dec_loop (hs : s.length < 1000000000000) (n : Nat) (hn : n ≤ 50) : ∀ (k i a : Nat) (l : List PL), i + k = n → l.length = i → a ≤ s.length → Ends E0 F_fDecode 0 (fun v' H' => v' = finV s l k a ∧ H' = finH s l k a) (dcS s (outV l) (outO l) a n i) := by
  intro k
  induction k with
  | zero =>
    intro i a l hi hl ha
    refine Ends.goto E0_good 0 (.cond F_fDecode1 12) (by kernel_rfl) ?_
    refine Ends.sl 12 (boolV (!leI (.ofNat n) (.ofNat i))) (.bool false) (by kernel_rfl) (lt_false (by omega)) ?_
    refine Ends.goto E0_good 0 (.cond F_tEnd 4) (by kernel_rfl) ?_
    by_cases hlt : a < s.length
    · refine Ends.sl 4 (boolV (!leI (wrapF .i64 (.ofNat s.length - .ofNat a)) 0)) (.bool true) (by kernel_rfl) (bv (by rw [left_i64 (by omega) hs, leI_false (by simp; omega)]; rfl)) ?_
      refine Ends.goto E0_good 0 (.sto F_tCaught1 0) (by kernel_rfl) ?_
      refine Ends.efW E0_good (fun H => eStore E0 T_errno (ptr 4 0) (i64 6) H) undef (fun H => H.put 4 (some (.cells [i64 6] T_errno 0 false))) [(3, T_int, ⟨7, 1, none⟩, nat a)] (by kernel_rfl) (by kernel_rfl) (by kernel_rfl) (one_stays (by kernel_rfl) (veq_int _)) (by kernel_rfl) ?_
      refine Ends.goto E0_good 0 (.ret F_fDecode) (by kernel_rfl) ?_
      refine Ends.norm [] [] 0 [2, 3] [] (by kernel_rfl) (by kernel_rfl) trivial ?_
      refine Ends.done E0_good 100 (v := .tuple ⟨[.slice none 0 0, i64 6]⟩) (H := hp 0 []) (by kernel_rfl) ?_
      unfold finV finH
      simp only [placesD, if_pos hlt]
      exact ⟨trivial, trivial⟩
    · refine Ends.sl 4 (boolV (!leI (wrapF .i64 (.ofNat s.length - .ofNat a)) 0)) (.bool false) (by kernel_rfl) (bv (by rw [left_i64 (by omega) hs, leI_true (by simp; omega)]; rfl)) ?_
      refine Ends.goto E0_good 0 (.op F_fDecode 23) (by kernel_rfl) ?_
      have hfin : finV s l 0 a = (bif chkB l then .tuple ⟨[rowV l, i64 0]⟩ else .tuple ⟨[.slice none 0 0, i64 180]⟩) ∧ finH s l 0 a = (bif chkB l then rowHp T_p l else hp 0 []) := by
        unfold finV finH
        simp only [placesD, if_neg hlt, List.append_nil]
        exact ⟨trivial, trivial⟩
      rw [hfin.1, hfin.2]
      cases l with
      | nil =>
        refine Ends.callD E0_good F_fCheck [] 0 [] [] [.slice none 0 0] [.slice none 0 0] (hp 0 []) (i64 0) (i64 0) (hp 0 []) fCheck_nil
          (by kernel_rfl) (by kernel_rfl) (by kernel_rfl) (by kernel_rfl) (by kernel_rfl) trivial trivial (by kernel_rfl) (by kernel_rfl) ?_
        refine Ends.goto E0_good 0 (.ret F_fDecode) (by kernel_rfl) ?_
        refine Ends.norm [] [] 0 [2, 3] [] (by kernel_rfl) (by kernel_rfl) trivial ?_
        exact Ends.done E0_good 100 (by kernel_rfl) ⟨rfl, rfl⟩
      | cons q l =>
        have hf : FlatO (.cells (plC (q :: l)) T_p 0 false) := .of (plC_scalar _)
        refine Ends.callD E0_good F_fCheck [(6, 0)] 1 [(6, .cells (plC (q :: l)) T_p 0 false)] [(0, .cells (plC (q :: l)) T_p 0 false)] [slv 6 0 (q :: l).length capU] [slv 0 0 (q :: l).length capU] (psH (q :: l) 0 false) (chkV (q :: l)) (chkV (q :: l)) (psH (q :: l) 0 false) (fCheck_does (q :: l) capU 0 false (by omega))
          (by kernel_rfl) (by kernel_rfl) (by kernel_rfl) (by kernel_rfl) (by kernel_rfl) ⟨by kernel_rfl, hf, trivial⟩ ⟨by kernel_rfl, hf, trivial⟩ (by kernel_rfl) (by kernel_rfl) ?_
        refine Ends.goto E0_good 0 (.cond F_fDecode 25) (by kernel_rfl) ?_
        cases hc : chkB (q :: l) with
        | false =>
          refine Ends.sl 25 (boolV (!eqI (bif chkB (q :: l) then 0 else 180) 0)) (.bool true) (by kernel_rfl) (bv (by rw [hc]; rfl)) ?_
          refine Ends.goto E0_good 0 (.ret F_fDecode) (by kernel_rfl) ?_
          refine Ends.norm [] [] 0 [2, 3] [] (by kernel_rfl) (by kernel_rfl) trivial ?_
          refine Ends.done E0_good 100 (v := .tuple ⟨[.slice none 0 0, chkV (q :: l)]⟩) (H := hp 0 []) (by kernel_rfl) ⟨?_, rfl⟩
          unfold chkV; rw [hc]; rfl
        | true =>
          refine Ends.sl 25 (boolV (!eqI (bif chkB (q :: l) then 0 else 180) 0)) (.bool false) (by kernel_rfl) (bv (by rw [hc]; rfl)) ?_
          refine Ends.goto E0_good 0 (.ret F_fDecode) (by kernel_rfl) ?_
          refine Ends.norm [(6, 0)] [(6, .cells (plC (q :: l)) T_p 0 false)] 1 [2, 3] [] (by kernel_rfl) (by kernel_rfl) ⟨by kernel_rfl, hf, trivial⟩ ?_
          exact Ends.done E0_good 100 (by kernel_rfl) ⟨rfl, rfl⟩
  | succ k ih =>
    intro i a l hi hl ha
    refine Ends.goto E0_good 0 (.cond F_fDecode1 12) (by kernel_rfl) ?_
    refine Ends.sl 12 (boolV (!leI (.ofNat n) (.ofNat i))) (.bool true) (by kernel_rfl) (lt_true (by omega)) ?_
    refine Ends.goto E0_good 0 (.op F_fDecode1 15) (by kernel_rfl) ?_
    cases h1 : getD 9 true (s.drop a) with
    | short =>
      have hb : placeD s a = .bad 4 := by unfold placeD; rw [h1]
      refine Ends.goto E0_good 0 (.op F_tNum 11) (by kernel_rfl) ?_
      refine Ends.call0 E0_good F_vGet [str s, nat a] _ (vGet_short hs ha h1) (by kernel_rfl) (by kernel_rfl) (by kernel_rfl) (by kernel_rfl) (by kernel_rfl) ?_
      refine Ends.goto E0_good 0 (.pan F_place) (by kernel_rfl) ?_
      refine Ends.unwind (by kernel_rfl) ?_
      refine Ends.goto E0_good 0 (.sto F_tCaught1 0) (by kernel_rfl) ?_
      refine Ends.efW E0_good (fun H => eStore E0 T_errno (ptr 4 0) (i64 4) H) undef (fun H => H.put 4 (some (.cells [i64 4] T_errno 0 false))) [(3, T_int, ⟨8, 1, none⟩, nat a)] (by kernel_rfl) (by kernel_rfl) (by kernel_rfl) (one_stays (by kernel_rfl) (veq_int _)) (by kernel_rfl) ?_
      refine Ends.goto E0_good 0 (.ret F_fDecode) (by kernel_rfl) ?_
      refine Ends.norm [] [] 0 [2, 3] [] (by kernel_rfl) (by kernel_rfl) trivial ?_
      exact Ends.done E0_good 100 (by kernel_rfl) (fin_bad hb)
    | form =>
      have hb : placeD s a = .bad 5 := by unfold placeD; rw [h1]
      refine Ends.goto E0_good 0 (.op F_tNum 11) (by kernel_rfl) ?_
      refine Ends.call0 E0_good F_vGet [str s, nat a] _ (vGet_form hs ha h1) (by kernel_rfl) (by kernel_rfl) (by kernel_rfl) (by kernel_rfl) (by kernel_rfl) ?_
      refine Ends.goto E0_good 0 (.pan F_place) (by kernel_rfl) ?_
      refine Ends.unwind (by kernel_rfl) ?_
      refine Ends.goto E0_good 0 (.sto F_tCaught1 0) (by kernel_rfl) ?_
      refine Ends.efW E0_good (fun H => eStore E0 T_errno (ptr 4 0) (i64 5) H) undef (fun H => H.put 4 (some (.cells [i64 5] T_errno 0 false))) [(3, T_int, ⟨8, 1, none⟩, nat a)] (by kernel_rfl) (by kernel_rfl) (by kernel_rfl) (one_stays (by kernel_rfl) (veq_int _)) (by kernel_rfl) ?_
      refine Ends.goto E0_good 0 (.ret F_fDecode) (by kernel_rfl) ?_
      refine Ends.norm [] [] 0 [2, 3] [] (by kernel_rfl) (by kernel_rfl) trivial ?_
      exact Ends.done E0_good 100 (by kernel_rfl) (fin_bad hb)
    | ok m u =>
    have hu := getD_used _ _ _ _ _ h1
    rw [List.length_drop] at hu
    by_cases hbig : 64 < m
    · have hb : placeD s a = .bad 180 := by unfold placeD; rw [h1]; simp only [if_pos hbig]
      refine Ends.goto E0_good 0 (.op F_tNum 11) (by kernel_rfl) ?_
      refine Ends.call0 E0_good F_vGet [str s, nat a] _ (vGet_ok hs ha h1) (by kernel_rfl) (by kernel_rfl) (by kernel_rfl) (by kernel_rfl) (by kernel_rfl) ?_
      refine Ends.goto E0_good 0 (.cond F_place 11) (by kernel_rfl) ?_
      refine Ends.sl 11 (boolV (!leI (.ofNat m) 64)) (.bool true) (by kernel_rfl) (bv (by rw [leI_false (by simp; omega)]; rfl)) ?_
      refine Ends.goto E0_good 0 (.pan F_place) (by kernel_rfl) ?_
      refine Ends.unwind (by kernel_rfl) ?_
      refine Ends.goto E0_good 0 (.sto F_tCaught1 0) (by kernel_rfl) ?_
      refine Ends.efW E0_good (fun H => eStore E0 T_errno (ptr 4 0) (i64 180) H) undef (fun H => H.put 4 (some (.cells [i64 180] T_errno 0 false))) [(3, T_int, ⟨8, 1, none⟩, nat a)] (by kernel_rfl) (by kernel_rfl) (by kernel_rfl) (one_stays (by kernel_rfl) (veq_int _)) (by kernel_rfl) ?_
      refine Ends.goto E0_good 0 (.ret F_fDecode) (by kernel_rfl) ?_
      refine Ends.norm [] [] 0 [2, 3] [] (by kernel_rfl) (by kernel_rfl) trivial ?_
      exact Ends.done E0_good 100 (by kernel_rfl) (fin_bad hb)
    by_cases hfew : s.length < a + u + m
    · have hb : placeD s a = .bad 4 := by unfold placeD; rw [h1]; simp only [if_neg hbig, if_pos hfew]
      refine Ends.goto E0_good 0 (.op F_tNum 11) (by kernel_rfl) ?_
      refine Ends.call0 E0_good F_vGet [str s, nat a] _ (vGet_ok hs ha h1) (by kernel_rfl) (by kernel_rfl) (by kernel_rfl) (by kernel_rfl) (by kernel_rfl) ?_
      refine Ends.goto E0_good 0 (.cond F_place 11) (by kernel_rfl) ?_
      refine Ends.sl 11 (boolV (!leI (.ofNat m) 64)) (.bool false) (by kernel_rfl) (bv (by rw [leI_true (by simp; omega)]; rfl)) ?_
      refine Ends.goto E0_good 0 (.cond F_tTake 6) (by kernel_rfl) ?_
      refine Ends.sl 6 (boolV (!leI 0 (.ofNat m))) (.bool false) (by kernel_rfl) (bv (by rw [leI_true (by simp)]; rfl)) ?_
      refine Ends.goto E0_good 0 (.cond F_tTake 12) (by kernel_rfl) ?_
      refine Ends.sl 12 (boolV (!leI (.ofNat m) (wrapF .i64 (.ofNat s.length - .ofNat (a + u))))) (.bool true) (by kernel_rfl) (bv (by rw [left_i64 (by omega) hs, leI_false (by simp; omega)]; rfl)) ?_
      refine Ends.goto E0_good 0 (.pan F_place) (by kernel_rfl) ?_
      refine Ends.unwind (by kernel_rfl) ?_
      refine Ends.goto E0_good 0 (.sto F_tCaught1 0) (by kernel_rfl) ?_
      refine Ends.efW E0_good (fun H => eStore E0 T_errno (ptr 4 0) (i64 4) H) undef (fun H => H.put 4 (some (.cells [i64 4] T_errno 0 false))) [(3, T_int, ⟨8, 1, none⟩, nat (a + u))] (by kernel_rfl) (by kernel_rfl) (by kernel_rfl) (one_stays (by kernel_rfl) (veq_int _)) (by kernel_rfl) ?_
      refine Ends.goto E0_good 0 (.ret F_fDecode) (by kernel_rfl) ?_
      refine Ends.norm [] [] 0 [2, 3] [] (by kernel_rfl) (by kernel_rfl) trivial ?_
      exact Ends.done E0_good 100 (by kernel_rfl) (fin_bad hb)
    cases h2 : getD 9 true (s.drop (a + u + m)) with
    | ok x w =>
      have hok : placeD s a = .ok ⟨(s.take (a + u + m)).drop (a + u), x⟩ (a + u + m + w) := by unfold placeD; rw [h1]; simp only [if_neg hbig, if_neg hfew, h2]
      have hto := placeD_le hok
      have hnl : l.length ≤ 50 := by omega
      refine Ends.callDW E0_good F_place [(0, 0)] 1 [] [] [ptr 0 0] [ptr 0 0] (hp 1 [(0, tkO s a)]) (.agg ⟨[str ((s.take (a + u + m)).drop (a + u)), nat x]⟩) (.agg ⟨[str ((s.take (a + u + m)).drop (a + u)), nat x]⟩) (hp 2 [(0, tkO s (a + u + m + w)), (1, .cells [str ((s.take (a + u + m)).drop (a + u)), nat x] T_p 0 false)])
        [(0, T_ps, ⟨3, 0, none⟩, outV l)] (place_does s a m u x w hs ha h1 (by omega) (by omega) h2) (by kernel_rfl) (by kernel_rfl) (by kernel_rfl) (by kernel_rfl) (by kernel_rfl) trivial trivial (by kernel_rfl)
        (by kernel_rfl) (one_stays (by kernel_rfl) (outV_veq l)) (by kernel_rfl) ?_
      refine Ends.goto E0_good 0 (.op F_fDecode1 16) (by kernel_rfl) ?_
      refine Ends.efW E0_good (fun H => eBuildSlice E0 T_ps 1 [(0, (.agg ⟨[str ((s.take (a + u + m)).drop (a + u)), nat x]⟩))] H) (slv 8 0 1 1) (fun H => newCells H T_p [str ((s.take (a + u + m)).drop (a + u)), nat x] false) [(0, T_ps, ⟨3, 0, none⟩, outV l)] (by kernel_rfl) (by kernel_rfl) (by kernel_rfl) (one_stays (by kernel_rfl) (outV_veq l)) (by kernel_rfl) ?_
      refine Ends.goto E0_good 0 (.op F_fDecode1 17) (by kernel_rfl) ?_
      obtain ⟨hf1, hf2⟩ := fin_ok (l := l) (k := k) hok
      rw [← hf1, ← hf2]
      have hnext := ih (i + 1) (a + u + m + w) (l ++ [⟨(s.take (a + u + m)).drop (a + u), x⟩]) (by omega) (by simp; omega) hto
      have hflat : ∀ l' : List PL, FlatO (.cells (plC l') T_p 0 false) := fun l' => .of (plC_scalar l')
      cases l with
      | nil =>
        refine Ends.appW E0_good T_ps T_ps (.slice none 0 0) (slv 8 0 1 1) _ (slv 9 0 1 capU) _ [] (by kernel_rfl)
          (append_nil (appP _ 8 (str ((s.take (a + u + m)).drop (a + u))) (nat x) (by kernel_rfl)) (by decide) (by decide)) (by kernel_rfl) (by kernel_rfl) rfl (by kernel_rfl) ?_
        refine Ends.goto E0_good 0 (.loop F_fDecode1) (by kernel_rfl) ?_
        refine Ends.sl 11 (i64 (wrapF .i64 (.ofNat i + 1))) (nat (i + 1)) (by kernel_rfl) (succ_i64 (by omega)) ?_
        refine Ends.norm [(0, 0), (1, 1), (2, 2), (3, 3), (4, 4), (5, 5), (9, 6)] [(9, .cells (plC [⟨(s.take (a + u + m)).drop (a + u), x⟩]) T_p 0 false)] 7 [1, 2, 10, 11] [[2, 3], [6]] (by kernel_rfl) (by kernel_rfl) ⟨by kernel_rfl, hflat _, trivial⟩ ?_
        exact Ends.to _ (by kernel_rfl) hnext
      | cons q l =>
        refine Ends.appW E0_good T_ps T_ps (slv 6 0 (q :: l).length capU) (slv 8 0 1 1) _ (slv 9 0 ((q :: l).length + 1) capU) _ [] (by kernel_rfl)
          (append_new (b := 6) (fz := 0) (mk := false) (c := plC (q :: l)) (appP _ 8 (str ((s.take (a + u + m)).drop (a + u))) (nat x) (by kernel_rfl)) (by omega) (by decide) (by kernel_rfl) (Nat.zero_le _) (by rw [plC_length]; omega) rfl rfl) (by kernel_rfl) (by kernel_rfl) rfl (by kernel_rfl) ?_
        refine Ends.goto E0_good 0 (.loop F_fDecode1) (by kernel_rfl) ?_
        refine Ends.sl 11 (i64 (wrapF .i64 (.ofNat i + 1))) (nat (i + 1)) (by kernel_rfl) (succ_i64 (by omega)) ?_
        refine Ends.ob 9 (.cells ((plC (q :: l)).take ((q :: l).length * 2) ++ [str ((s.take (a + u + m)).drop (a + u)), nat x]) T_p 0 false) (.cells (plC ((q :: l) ++ [⟨(s.take (a + u + m)).drop (a + u), x⟩])) T_p 0 false) (by kernel_rfl)
          (by rw [List.take_of_length_le (by rw [plC_length]; omega), plC_append]; rfl) ?_
        refine Ends.ob 3 (.cells [slv 9 0 ((q :: l).length + 1) capU] T_ps 0 false) (.cells [slv 9 0 ((q :: l) ++ [(⟨(s.take (a + u + m)).drop (a + u), x⟩ : PL)]).length capU] T_ps 0 false) (by kernel_rfl) (by rw [List.length_append]; rfl) ?_
        refine Ends.norm [(0, 0), (1, 1), (2, 2), (3, 3), (4, 4), (5, 5), (9, 6)] [(9, .cells (plC ((q :: l) ++ [⟨(s.take (a + u + m)).drop (a + u), x⟩])) T_p 0 false)] 7 [1, 2, 10, 11] [[2, 3], [6]] (by kernel_rfl) (by kernel_rfl) ⟨by kernel_rfl, hflat _, trivial⟩ ?_
        exact Ends.to _ (by kernel_rfl) hnext
    | short =>
      have hb : placeD s a = .bad 4 := by unfold placeD; rw [h1]; simp only [if_neg hbig, if_neg hfew, h2]
      refine Ends.goto E0_good 0 (.op F_tNum 11) (by kernel_rfl) ?_
      refine Ends.call0 E0_good F_vGet [str s, nat a] _ (vGet_ok hs ha h1) (by kernel_rfl) (by kernel_rfl) (by kernel_rfl) (by kernel_rfl) (by kernel_rfl) ?_
      refine Ends.goto E0_good 0 (.cond F_place 11) (by kernel_rfl) ?_
      refine Ends.sl 11 (boolV (!leI (.ofNat m) 64)) (.bool false) (by kernel_rfl) (bv (by rw [leI_true (by simp; omega)]; rfl)) ?_
      refine Ends.goto E0_good 0 (.cond F_tTake 6) (by kernel_rfl) ?_
      refine Ends.sl 6 (boolV (!leI 0 (.ofNat m))) (.bool false) (by kernel_rfl) (bv (by rw [leI_true (by simp)]; rfl)) ?_
      refine Ends.goto E0_good 0 (.cond F_tTake 12) (by kernel_rfl) ?_
      refine Ends.sl 12 (boolV (!leI (.ofNat m) (wrapF .i64 (.ofNat s.length - .ofNat (a + u))))) (.bool false) (by kernel_rfl) (bv (by rw [left_i64 (by omega) hs, leI_true (by simp; omega)]; rfl)) ?_
      refine Ends.goto E0_good 0 (.cond F_tTake 16) (by kernel_rfl) ?_
      by_cases h0 : m = 0
      · refine Ends.sl 16 (boolV (eqI (.ofNat m) 0)) (.bool true) (by kernel_rfl) (bv (eqI_true (by rw [h0]; rfl))) ?_
        subst h0
        refine Ends.goto E0_good 0 (.op F_tNum 11) (by kernel_rfl) ?_
        refine Ends.call0 E0_good F_vGet [str s, nat (a + u + 0)] _ (vGet_short hs (by omega) h2) (by kernel_rfl) (by kernel_rfl) (by kernel_rfl) (by kernel_rfl) (by kernel_rfl) ?_
        refine Ends.goto E0_good 0 (.pan F_place) (by kernel_rfl) ?_
        refine Ends.unwind (by kernel_rfl) ?_
        refine Ends.goto E0_good 0 (.sto F_tCaught1 0) (by kernel_rfl) ?_
        refine Ends.efW E0_good (fun H => eStore E0 T_errno (ptr 4 0) (i64 4) H) undef (fun H => H.put 4 (some (.cells [i64 4] T_errno 0 false))) [(3, T_int, ⟨8, 1, none⟩, nat (a + u + 0))] (by kernel_rfl) (by kernel_rfl) (by kernel_rfl) (one_stays (by kernel_rfl) (veq_int _)) (by kernel_rfl) ?_
        refine Ends.goto E0_good 0 (.ret F_fDecode) (by kernel_rfl) ?_
        refine Ends.norm [] [] 0 [2, 3] [] (by kernel_rfl) (by kernel_rfl) trivial ?_
        exact Ends.done E0_good 100 (by kernel_rfl) (fin_bad hb)
      · refine Ends.sl 16 (boolV (eqI (.ofNat m) 0)) (.bool false) (by kernel_rfl) (bv (eqI_false (by simpa using h0))) ?_
        refine Ends.goto E0_good 0 (.op F_tTake 25) (by kernel_rfl) ?_
        refine Ends.ob 0 (.cells [str s, i64 (wrapF .i64 (.ofNat (a + u) + .ofNat m))] T_tkr 0 false) (tkO s (a + u + m)) (by kernel_rfl) (by rw [add_i64 (by omega)]; rfl) ?_
        refine Ends.goto E0_good 0 (.op F_tTake 39) (by kernel_rfl) ?_
        refine Ends.sl 34 (i64 (wrapF .i64 (.ofNat (a + u + m) - .ofNat m))) (nat (a + u)) (by kernel_rfl) (by rw [left_i64 (by omega) (by omega), Nat.add_sub_cancel]) ?_
        refine Ends.fp E0_good (pSlice E0 T_str (str s) (some (nat (a + u))) (some (nat (a + u + m))) none) (str ((s.take (a + u + m)).drop (a + u))) (by kernel_rfl) (slice_str (by kernel_rfl) (by omega) (by omega)) ?_
        refine Ends.goto E0_good 0 (.op F_tNum 11) (by kernel_rfl) ?_
        refine Ends.call0 E0_good F_vGet [str s, nat (a + u + m)] _ (vGet_short hs (by omega) h2) (by kernel_rfl) (by kernel_rfl) (by kernel_rfl) (by kernel_rfl) (by kernel_rfl) ?_
        refine Ends.goto E0_good 0 (.pan F_place) (by kernel_rfl) ?_
        refine Ends.unwind (by kernel_rfl) ?_
        refine Ends.goto E0_good 0 (.sto F_tCaught1 0) (by kernel_rfl) ?_
        refine Ends.efW E0_good (fun H => eStore E0 T_errno (ptr 4 0) (i64 4) H) undef (fun H => H.put 4 (some (.cells [i64 4] T_errno 0 false))) [(3, T_int, ⟨8, 1, none⟩, nat (a + u + m))] (by kernel_rfl) (by kernel_rfl) (by kernel_rfl) (one_stays (by kernel_rfl) (veq_int _)) (by kernel_rfl) ?_
        refine Ends.goto E0_good 0 (.ret F_fDecode) (by kernel_rfl) ?_
        refine Ends.norm [] [] 0 [2, 3] [] (by kernel_rfl) (by kernel_rfl) trivial ?_
        exact Ends.done E0_good 100 (by kernel_rfl) (fin_bad hb)
    | form =>
      have hb : placeD s a = .bad 5 := by unfold placeD; rw [h1]; simp only [if_neg hbig, if_neg hfew, h2]
      refine Ends.goto E0_good 0 (.op F_tNum 11) (by kernel_rfl) ?_
      refine Ends.call0 E0_good F_vGet [str s, nat a] _ (vGet_ok hs ha h1) (by kernel_rfl) (by kernel_rfl) (by kernel_rfl) (by kernel_rfl) (by kernel_rfl) ?_
      refine Ends.goto E0_good 0 (.cond F_place 11) (by kernel_rfl) ?_
      refine Ends.sl 11 (boolV (!leI (.ofNat m) 64)) (.bool false) (by kernel_rfl) (bv (by rw [leI_true (by simp; omega)]; rfl)) ?_
      refine Ends.goto E0_good 0 (.cond F_tTake 6) (by kernel_rfl) ?_
      refine Ends.sl 6 (boolV (!leI 0 (.ofNat m))) (.bool false) (by kernel_rfl) (bv (by rw [leI_true (by simp)]; rfl)) ?_
      refine Ends.goto E0_good 0 (.cond F_tTake 12) (by kernel_rfl) ?_
      refine Ends.sl 12 (boolV (!leI (.ofNat m) (wrapF .i64 (.ofNat s.length - .ofNat (a + u))))) (.bool false) (by kernel_rfl) (bv (by rw [left_i64 (by omega) hs, leI_true (by simp; omega)]; rfl)) ?_
      refine Ends.goto E0_good 0 (.cond F_tTake 16) (by kernel_rfl) ?_
      by_cases h0 : m = 0
      · refine Ends.sl 16 (boolV (eqI (.ofNat m) 0)) (.bool true) (by kernel_rfl) (bv (eqI_true (by rw [h0]; rfl))) ?_
        subst h0
        refine Ends.goto E0_good 0 (.op F_tNum 11) (by kernel_rfl) ?_
        refine Ends.call0 E0_good F_vGet [str s, nat (a + u + 0)] _ (vGet_form hs (by omega) h2) (by kernel_rfl) (by kernel_rfl) (by kernel_rfl) (by kernel_rfl) (by kernel_rfl) ?_
        refine Ends.goto E0_good 0 (.pan F_place) (by kernel_rfl) ?_
        refine Ends.unwind (by kernel_rfl) ?_
        refine Ends.goto E0_good 0 (.sto F_tCaught1 0) (by kernel_rfl) ?_
        refine Ends.efW E0_good (fun H => eStore E0 T_errno (ptr 4 0) (i64 5) H) undef (fun H => H.put 4 (some (.cells [i64 5] T_errno 0 false))) [(3, T_int, ⟨8, 1, none⟩, nat (a + u + 0))] (by kernel_rfl) (by kernel_rfl) (by kernel_rfl) (one_stays (by kernel_rfl) (veq_int _)) (by kernel_rfl) ?_
        refine Ends.goto E0_good 0 (.ret F_fDecode) (by kernel_rfl) ?_
        refine Ends.norm [] [] 0 [2, 3] [] (by kernel_rfl) (by kernel_rfl) trivial ?_
        exact Ends.done E0_good 100 (by kernel_rfl) (fin_bad hb)
      · refine Ends.sl 16 (boolV (eqI (.ofNat m) 0)) (.bool false) (by kernel_rfl) (bv (eqI_false (by simpa using h0))) ?_
        refine Ends.goto E0_good 0 (.op F_tTake 25) (by kernel_rfl) ?_
        refine Ends.ob 0 (.cells [str s, i64 (wrapF .i64 (.ofNat (a + u) + .ofNat m))] T_tkr 0 false) (tkO s (a + u + m)) (by kernel_rfl) (by rw [add_i64 (by omega)]; rfl) ?_
        refine Ends.goto E0_good 0 (.op F_tTake 39) (by kernel_rfl) ?_
        refine Ends.sl 34 (i64 (wrapF .i64 (.ofNat (a + u + m) - .ofNat m))) (nat (a + u)) (by kernel_rfl) (by rw [left_i64 (by omega) (by omega), Nat.add_sub_cancel]) ?_
        refine Ends.fp E0_good (pSlice E0 T_str (str s) (some (nat (a + u))) (some (nat (a + u + m))) none) (str ((s.take (a + u + m)).drop (a + u))) (by kernel_rfl) (slice_str (by kernel_rfl) (by omega) (by omega)) ?_
        refine Ends.goto E0_good 0 (.op F_tNum 11) (by kernel_rfl) ?_
        refine Ends.call0 E0_good F_vGet [str s, nat (a + u + m)] _ (vGet_form hs (by omega) h2) (by kernel_rfl) (by kernel_rfl) (by kernel_rfl) (by kernel_rfl) (by kernel_rfl) ?_
        refine Ends.goto E0_good 0 (.pan F_place) (by kernel_rfl) ?_
        refine Ends.unwind (by kernel_rfl) ?_
        refine Ends.goto E0_good 0 (.sto F_tCaught1 0) (by kernel_rfl) ?_
        refine Ends.efW E0_good (fun H => eStore E0 T_errno (ptr 4 0) (i64 5) H) undef (fun H => H.put 4 (some (.cells [i64 5] T_errno 0 false))) [(3, T_int, ⟨8, 1, none⟩, nat (a + u + m))] (by kernel_rfl) (by kernel_rfl) (by kernel_rfl) (one_stays (by kernel_rfl) (veq_int _)) (by kernel_rfl) ?_
        refine Ends.goto E0_good 0 (.ret F_fDecode) (by kernel_rfl) ?_
        refine Ends.norm [] [] 0 [2, 3] [] (by kernel_rfl) (by kernel_rfl) trivial ?_
        exact Ends.done E0_good 100 (by kernel_rfl) (fin_bad hb)

theorem fDecode_does (hs : s.length < 1000000000000) : Does E0 F_fDecode 0 [str s] (hp 0 []) (decV s) (decH s) := by
  refine Does.of (by kernel_rfl) ?_
  show Ends E0 F_fDecode 0 _ (dcI s)
  refine Ends.goto E0_good 0 (.op F_tNum 11) (by kernel_rfl) ?_
  unfold decV decH decD
  have e0 : s.drop 0 = s := rfl
  cases h : getD 9 true s with
  | short =>
    refine Ends.call0 E0_good F_vGet [str s, nat 0] _ (vGet_short hs (Nat.zero_le _) h) (by kernel_rfl) (by kernel_rfl) (by kernel_rfl) (by kernel_rfl) (by kernel_rfl) ?_
    refine Ends.goto E0_good 0 (.ret F_fDecode) (by kernel_rfl) ?_
    refine Ends.norm [] [] 0 [2, 3] [] (by kernel_rfl) (by kernel_rfl) trivial ?_
    exact Ends.done E0_good 100 (by kernel_rfl) ⟨rfl, rfl⟩
  | form =>
    refine Ends.call0 E0_good F_vGet [str s, nat 0] _ (vGet_form hs (Nat.zero_le _) h) (by kernel_rfl) (by kernel_rfl) (by kernel_rfl) (by kernel_rfl) (by kernel_rfl) ?_
    refine Ends.goto E0_good 0 (.ret F_fDecode) (by kernel_rfl) ?_
    refine Ends.norm [] [] 0 [2, 3] [] (by kernel_rfl) (by kernel_rfl) trivial ?_
    exact Ends.done E0_good 100 (by kernel_rfl) ⟨rfl, rfl⟩
  | ok n u =>
    have hu := getD_used _ _ _ _ _ h
    have hv := vGet_ok hs (Nat.zero_le _) h
    rw [Nat.zero_add] at hv
    refine Ends.call0 E0_good F_vGet [str s, nat 0] _ hv (by kernel_rfl) (by kernel_rfl) (by kernel_rfl) (by kernel_rfl) (by kernel_rfl) ?_
    refine Ends.goto E0_good 0 (.cond F_fDecode1 7) (by kernel_rfl) ?_
    by_cases hbig : 50 < n
    · refine Ends.sl 7 (boolV (!leI (.ofNat n) 50)) (.bool true) (by kernel_rfl) (bv (by rw [leI_false (by simp; omega)]; rfl)) ?_
      refine Ends.goto E0_good 0 (.ret F_fDecode) (by kernel_rfl) ?_
      refine Ends.norm [] [] 0 [2, 3] [] (by kernel_rfl) (by kernel_rfl) trivial ?_
      simp only [if_pos hbig]
      exact Ends.done E0_good 100 (by kernel_rfl) ⟨rfl, rfl⟩
    · refine Ends.sl 7 (boolV (!leI (.ofNat n) 50)) (.bool false) (by kernel_rfl) (bv (by rw [leI_true (by simp; omega)]; rfl)) ?_
      refine Ends.goto E0_good 0 (.loop F_fDecode1) (by kernel_rfl) ?_
      show Ends E0 F_fDecode 0 _ (dcL s n u)
      refine Ends.norm [(0, 0), (1, 1), (2, 2), (3, 3), (4, 4), (5, 5), (6, 6)] [] 7 [1, 2, 10, 11] [[2, 3], [6]] (by kernel_rfl) (by kernel_rfl) trivial ?_
      refine Ends.to (dcS s (outV []) (outO []) u n 0) (by kernel_rfl) ?_
      refine (dec_loop s hs n (by omega) n 0 u [] (by omega) rfl hu.2).mono ?_
      rintro v H ⟨rfl, rfl⟩
      simp only [if_neg hbig]
      unfold finV finH
      cases placesD s n u with
      | bad e => exact ⟨rfl, rfl⟩
      | ok r b =>
        simp only [List.nil_append]
        by_cases hb : b < s.length
        · simp only [if_pos hb]; exact ⟨trivial, trivial⟩
        · simp only [if_neg hb]
          cases chkB r <;> exact ⟨rfl, rfl⟩
end
end Go.Den.VvF
