/- varvelaw42.FollowBack returns true: the walk. -/
import Derived.Test.YteglomhhiacioaaGreatFPlain
import Derived.Test.YteglomhhiacioaaGreatFSame
import Derived.Test.YteglomhhiacioaaGreatFawT
namespace Go.Den.VvF
open Go.Proofs
set_option maxRecDepth 100000

theorem aw_told (H : AHeap) : Told E0 F_awake [] H (.bool true) H := fun _ _ _ hh ha => hook_scalar rfl rfl aw_calls ha hh

def isTrue (v : Value) (_ : AHeap) : Prop := v = .bool true

section
variable (s : List UInt8)
noncomputable def fbB : St := toS E0 0 (.op F_FollowBack 44) (entS E0 F_FollowBack [.slice none 0 0, str []] (hp 0 []))
noncomputable def fbS : St := reS [(1, str s)] [] (hp 0 []) fbB

theorem encV_true {l : List PL} (h : chkB l = true) : encV l = .tuple ⟨[str (encB l), i64 0]⟩ := by unfold encV; rw [h]; rfl
theorem encV_false {l : List PL} (h : chkB l = false) : encV l = .tuple ⟨[str [], i64 180]⟩ := by unfold encV; rw [h]; rfl
theorem str_same (s : List UInt8) : Value.bool (ByteArray.toList ⟨⟨s⟩⟩ == ByteArray.toList ⟨⟨s⟩⟩) = .bool true := by simp

theorem fb_second (hs : s.length ≤ 3000) : Ends E0 F_FollowBack 0 isTrue (fbS s) := by
  have hd := fDecode_does s (by omega)
  refine Ends.goto E0_good 0 (.op F_FollowBack 45) (by kernel_rfl) ?_
  cases h : decD s with
  | bad e =>
    have hv : decV s = .tuple ⟨[.slice none 0 0, i64 e]⟩ := by unfold decV; rw [h]
    have hH : decH s = hp 0 [] := by unfold decH; rw [h]
    rw [hv, hH] at hd
    refine Ends.callD E0_good F_fDecode [] 0 [] [] [str s] [str s] (hp 0 []) _ (.tuple ⟨[.slice none 0 0, i64 e]⟩) (hp 0 []) hd (by kernel_rfl) (by kernel_rfl) (by kernel_rfl) (by kernel_rfl) (by kernel_rfl) trivial trivial (by kernel_rfl) (by kernel_rfl) ?_
    refine Ends.goto E0_good 0 (.cond F_FollowBack 49) (by kernel_rfl) ?_
    refine Ends.sl 49 (boolV (!eqI e 0)) (.bool true) (by kernel_rfl) (bv (by rw [eqI_false (decD_bad h)]; rfl)) ?_
    refine Ends.goto E0_good 0 (.op F_FollowBack 54) (by kernel_rfl) ?_
    refine Ends.call E0_good (H := hp 0 []) (g := F_awake) (args := []) (by kernel_rfl) (by kernel_rfl) (aw_told _) (by kernel_rfl) ?_
    exact Ends.doneR E0_good 100 (by kernel_rfl) fun _ => rfl
  | ok m =>
    obtain ⟨he, hc⟩ := enc_dec h
    have hv : decV s = .tuple ⟨[rowV m, i64 0]⟩ := by unfold decV; rw [h]
    have hH : decH s = rowHp T_p m := by unfold decH; rw [h]
    rw [hv, hH] at hd
    have h50 := chkB_length hc
    have hev := encV_true hc
    rw [he] at hev
    cases m with
    | nil =>
      refine Ends.callD E0_good F_fDecode [] 0 [] [] [str s] [str s] (hp 0 []) _ (.tuple ⟨[.slice none 0 0, i64 0]⟩) (hp 0 []) hd (by kernel_rfl) (by kernel_rfl) (by kernel_rfl) (by kernel_rfl) (by kernel_rfl) trivial trivial (by kernel_rfl) (by kernel_rfl) ?_
      refine Ends.goto E0_good 0 (.op F_FollowBack 58) (by kernel_rfl) ?_
      have hE := fEncode_nil
      rw [hev] at hE
      refine Ends.callD E0_good F_fEncode [] 0 [] [] [.slice none 0 0] [.slice none 0 0] (hp 0 []) _ (.tuple ⟨[str s, i64 0]⟩) (hp 0 []) hE (by kernel_rfl) (by kernel_rfl) (by kernel_rfl) (by kernel_rfl) (by kernel_rfl) trivial trivial (by kernel_rfl) (by kernel_rfl) ?_
      refine Ends.goto E0_good 0 (.op F_FollowBack 65) (by kernel_rfl) ?_
      refine Ends.sl 64 (.bool (ByteArray.toList ⟨⟨s⟩⟩ == ByteArray.toList ⟨⟨s⟩⟩)) (.bool true) (by kernel_rfl) (str_same s) ?_
      refine Ends.goto E0_good 0 (.op F_FollowBack 74) (by kernel_rfl) ?_
      refine Ends.norm [] [] 0 [73] [] (by kernel_rfl) (by kernel_rfl) trivial ?_
      refine Ends.call E0_good (H := hp 0 []) (g := F_awake) (args := []) (by kernel_rfl) (by kernel_rfl) (aw_told _) (by kernel_rfl) ?_
      exact Ends.doneR E0_good 100 (by kernel_rfl) fun _ => rfl
    | cons p m =>
      have hf : FlatO (.cells (plC (p :: m)) T_p 0 false) := .of (plC_scalar _)
      refine Ends.callD E0_good F_fDecode [] 0 [] [(0, .cells (plC (p :: m)) T_p 0 false)] [str s] [str s] (hp 0 []) _ (.tuple ⟨[slv 0 0 (p :: m).length capU, i64 0]⟩) (psH (p :: m) 0 false) hd (by kernel_rfl) (by kernel_rfl) (by kernel_rfl) (by kernel_rfl) (by kernel_rfl) trivial ⟨by kernel_rfl, hf, trivial⟩ (by kernel_rfl) (by kernel_rfl) ?_
      refine Ends.goto E0_good 0 (.op F_FollowBack 58) (by kernel_rfl) ?_
      have hE := fEncode_does (p :: m) capU 0 false (by omega)
      rw [hev] at hE
      refine Ends.callD E0_good F_fEncode [(0, 0)] 1 [(0, .cells (plC (p :: m)) T_p 0 false)] [(0, .cells (plC (p :: m)) T_p 0 false)] [slv 0 0 (p :: m).length capU] [slv 0 0 (p :: m).length capU] (psH (p :: m) 0 false) _ (.tuple ⟨[str s, i64 0]⟩) (psH (p :: m) 0 false) hE
        (by kernel_rfl) (by kernel_rfl) (by kernel_rfl) (by kernel_rfl) (by kernel_rfl) ⟨by kernel_rfl, hf, trivial⟩ ⟨by kernel_rfl, hf, trivial⟩ (by kernel_rfl) (by kernel_rfl) ?_
      refine Ends.goto E0_good 0 (.op F_FollowBack 65) (by kernel_rfl) ?_
      refine Ends.sl 64 (.bool (ByteArray.toList ⟨⟨s⟩⟩ == ByteArray.toList ⟨⟨s⟩⟩)) (.bool true) (by kernel_rfl) (str_same s) ?_
      refine Ends.goto E0_good 0 (.op F_FollowBack 70) (by kernel_rfl) ?_
      have hC := fCheck_does (p :: m) capU 0 false (by omega)
      rw [show chkV (p :: m) = i64 0 by unfold chkV; rw [hc]; rfl] at hC
      refine Ends.callD E0_good F_fCheck [(0, 0)] 1 [(0, .cells (plC (p :: m)) T_p 0 false)] [(0, .cells (plC (p :: m)) T_p 0 false)] [slv 0 0 (p :: m).length capU] [slv 0 0 (p :: m).length capU] (psH (p :: m) 0 false) _ (i64 0) (psH (p :: m) 0 false) hC
        (by kernel_rfl) (by kernel_rfl) (by kernel_rfl) (by kernel_rfl) (by kernel_rfl) ⟨by kernel_rfl, hf, trivial⟩ ⟨by kernel_rfl, hf, trivial⟩ (by kernel_rfl) (by kernel_rfl) ?_
      refine Ends.goto E0_good 0 (.op F_FollowBack 74) (by kernel_rfl) ?_
      refine Ends.norm [] [] 0 [73] [] (by kernel_rfl) (by kernel_rfl) trivial ?_
      refine Ends.call E0_good (H := hp 0 []) (g := F_awake) (args := []) (by kernel_rfl) (by kernel_rfl) (aw_told _) (by kernel_rfl) ?_
      exact Ends.doneR E0_good 100 (by kernel_rfl) fun _ => rfl

/-- the places are none -/
theorem fb_nil : Ends E0 F_FollowBack 0 isTrue (entS E0 F_FollowBack [.slice none 0 0, str s] (hp 0 [])) := by
  refine Ends.goto E0_good 0 (.cond F_FollowBack 20) (by kernel_rfl) ?_
  by_cases hs : 3000 < s.length
  · refine Ends.sl 20 (boolV (!leI (.ofNat s.length) 3000)) (.bool true) (by kernel_rfl) (bv (by rw [leI_false (by simp; omega)]; rfl)) ?_
    refine Ends.goto E0_good 0 (.op F_FollowBack 21) (by kernel_rfl) ?_
    refine Ends.call E0_good (H := hp 0 []) (g := F_awake) (args := []) (by kernel_rfl) (by kernel_rfl) (aw_told _) (by kernel_rfl) ?_
    exact Ends.doneR E0_good 100 (by kernel_rfl) fun _ => rfl
  · refine Ends.sl 20 (boolV (!leI (.ofNat s.length) 3000)) (.bool false) (by kernel_rfl) (bv (by rw [leI_true (by simp; omega)]; rfl)) ?_
    refine Ends.goto E0_good 0 (.op F_FollowBack 44) (by kernel_rfl) ?_
    refine Ends.norm [] [] 0 [1] [] (by kernel_rfl) (by kernel_rfl) trivial ?_
    exact Ends.to (fbS s) (by kernel_rfl) (fb_second s (by omega))

variable (pre : List Value) (l : List PL) (T o c fz : Nat) (mk : Bool)
theorem fb_row (hpre : l ≠ [] → pre.length = o) (hfl : FlatO (.cells (pre ++ plC l) T fz mk)) : Ends E0 F_FollowBack 0 isTrue (entS E0 F_FollowBack [slv 0 o l.length c, str s] (rowH pre l T fz mk)) := by
  refine Ends.goto E0_good 0 (.op F_FollowBack 14) (by kernel_rfl) ?_
  refine Ends.callD E0_good F_few [(0, 0)] 1 [(0, .cells (pre ++ plC l) T fz mk)] [(0, .cells (pre ++ plC l) T fz mk)] [slv 0 o l.length c] [slv 0 o l.length c] (rowH pre l T fz mk) _ (.bool (fewB l)) (rowH pre l T fz mk) (few_does pre l T o c fz mk hpre hfl)
    (by kernel_rfl) (by kernel_rfl) (by kernel_rfl) (by kernel_rfl) (by kernel_rfl) ⟨by kernel_rfl, hfl, trivial⟩ ⟨by kernel_rfl, hfl, trivial⟩ (by kernel_rfl) (by kernel_rfl) ?_
  refine Ends.goto E0_good 0 (.op F_FollowBack 17) (by kernel_rfl) ?_
  cases hfew : fewB l with
  | false =>
    refine Ends.goto E0_good 0 (.op F_FollowBack 21) (by kernel_rfl) ?_
    refine Ends.norm [] [] 0 [] [] (by kernel_rfl) (by kernel_rfl) trivial ?_
    refine Ends.call E0_good (H := hp 0 []) (g := F_awake) (args := []) (by kernel_rfl) (by kernel_rfl) (aw_told _) (by kernel_rfl) ?_
    exact Ends.doneR E0_good 100 (by kernel_rfl) fun _ => rfl
  | true =>
  have hlen : l.length ≤ 60 := by
    unfold fewB at hfew
    simp only [Bool.and_eq_true, decide_eq_true_eq] at hfew
    exact hfew.1
  refine Ends.goto E0_good 0 (.cond F_FollowBack 20) (by kernel_rfl) ?_
  by_cases hs : 3000 < s.length
  · refine Ends.sl 20 (boolV (!leI (.ofNat s.length) 3000)) (.bool true) (by kernel_rfl) (bv (by rw [leI_false (by simp; omega)]; rfl)) ?_
    refine Ends.goto E0_good 0 (.op F_FollowBack 21) (by kernel_rfl) ?_
    refine Ends.norm [] [] 0 [] [] (by kernel_rfl) (by kernel_rfl) trivial ?_
    refine Ends.call E0_good (H := hp 0 []) (g := F_awake) (args := []) (by kernel_rfl) (by kernel_rfl) (aw_told _) (by kernel_rfl) ?_
    exact Ends.doneR E0_good 100 (by kernel_rfl) fun _ => rfl
  refine Ends.sl 20 (boolV (!leI (.ofNat s.length) 3000)) (.bool false) (by kernel_rfl) (bv (by rw [leI_true (by simp; omega)]; rfl)) ?_
  refine Ends.goto E0_good 0 (.op F_FollowBack 24) (by kernel_rfl) ?_
  have hown := own_does pre l T o c fz mk hpre (by omega) hfl
  cases l with
  | nil =>
    refine Ends.callD E0_good F_own [(0, 0)] 1 [(0, .cells (pre ++ plC []) T fz mk)] [(0, .cells (pre ++ plC []) T fz mk)] [slv 0 o 0 c] [slv 0 o 0 c] (rowH pre [] T fz mk) _ (.slice none 0 0) (ownH pre [] T fz mk []) hown
      (by kernel_rfl) (by kernel_rfl) (by kernel_rfl) (by kernel_rfl) (by kernel_rfl) ⟨by kernel_rfl, hfl, trivial⟩ ⟨by kernel_rfl, hfl, trivial⟩ (by kernel_rfl) (by kernel_rfl) ?_
    refine Ends.goto E0_good 0 (.op F_FollowBack 44) (by kernel_rfl) ?_
    refine Ends.norm [] [] 0 [1] [] (by kernel_rfl) (by kernel_rfl) trivial ?_
    exact Ends.to (fbS s) (by kernel_rfl) (fb_second s (by omega))
  | cons p l =>
    have hf : FlatO (.cells (plC (p :: l)) T_p 0 false) := .of (plC_scalar _)
    refine Ends.callD E0_good F_own [(0, 0)] 1 [(0, .cells (pre ++ plC (p :: l)) T fz mk)] [(0, .cells (pre ++ plC (p :: l)) T fz mk), (1, .cells (plC (p :: l)) T_p 0 false)] [slv 0 o (p :: l).length c] [slv 0 o (p :: l).length c] (rowH pre (p :: l) T fz mk) _ (slv 1 0 (p :: l).length capU) (ownH pre (p :: l) T fz mk (p :: l)) hown
      (by kernel_rfl) (by kernel_rfl) (by kernel_rfl) (by kernel_rfl) (by kernel_rfl) ⟨by kernel_rfl, hfl, trivial⟩ ⟨by kernel_rfl, hfl, by kernel_rfl, hf, trivial⟩ (by kernel_rfl) (by kernel_rfl) ?_
    refine Ends.goto E0_good 0 (.op F_FollowBack 25) (by kernel_rfl) ?_
    have hE := fEncode_does (p :: l) capU 0 false (by omega)
    cases hc : chkB (p :: l) with
    | false =>
      rw [encV_false hc] at hE
      refine Ends.callD E0_good F_fEncode [(1, 0)] 1 [(1, .cells (plC (p :: l)) T_p 0 false)] [(0, .cells (plC (p :: l)) T_p 0 false)] [slv 1 0 (p :: l).length capU] [slv 0 0 (p :: l).length capU] (psH (p :: l) 0 false) _ (.tuple ⟨[str [], i64 180]⟩) (psH (p :: l) 0 false) hE
        (by kernel_rfl) (by kernel_rfl) (by kernel_rfl) (by kernel_rfl) (by kernel_rfl) ⟨by kernel_rfl, hf, trivial⟩ ⟨by kernel_rfl, hf, trivial⟩ (by kernel_rfl) (by kernel_rfl) ?_
      refine Ends.goto E0_good 0 (.op F_FollowBack 44) (by kernel_rfl) ?_
      refine Ends.norm [] [] 0 [1] [] (by kernel_rfl) (by kernel_rfl) trivial ?_
      exact Ends.to (fbS s) (by kernel_rfl) (fb_second s (by omega))
    | true =>
      rw [encV_true hc] at hE
      refine Ends.callD E0_good F_fEncode [(1, 0)] 1 [(1, .cells (plC (p :: l)) T_p 0 false)] [(0, .cells (plC (p :: l)) T_p 0 false)] [slv 1 0 (p :: l).length capU] [slv 0 0 (p :: l).length capU] (psH (p :: l) 0 false) _ (.tuple ⟨[str (encB (p :: l)), i64 0]⟩) (psH (p :: l) 0 false) hE
        (by kernel_rfl) (by kernel_rfl) (by kernel_rfl) (by kernel_rfl) (by kernel_rfl) ⟨by kernel_rfl, hf, trivial⟩ ⟨by kernel_rfl, hf, trivial⟩ (by kernel_rfl) (by kernel_rfl) ?_
      refine Ends.goto E0_good 0 (.op F_FollowBack 32) (by kernel_rfl) ?_
      have hel : (encB (p :: l)).length < 1000000000000 := by
        rw [← accB_all (Nat.le_refl _)]
        have := accB_length hc (p :: l).length (Nat.le_refl _)
        have := chkB_length hc
        omega
      have hD := fDecode_does (encB (p :: l)) hel
      rw [show decV (encB (p :: l)) = .tuple ⟨[rowV (p :: l), i64 0]⟩ by unfold decV; rw [dec_enc hc], show decH (encB (p :: l)) = rowHp T_p (p :: l) by unfold decH; rw [dec_enc hc]] at hD
      refine Ends.callD E0_good F_fDecode [] 0 [] [(0, .cells (plC (p :: l)) T_p 0 false)] [str (encB (p :: l))] [str (encB (p :: l))] (hp 0 []) _ (.tuple ⟨[slv 2 0 (p :: l).length capU, i64 0]⟩) (psH (p :: l) 0 false) hD
        (by kernel_rfl) (by kernel_rfl) (by kernel_rfl) (by kernel_rfl) (by kernel_rfl) trivial ⟨by kernel_rfl, hf, trivial⟩ (by kernel_rfl) (by kernel_rfl) ?_
      refine Ends.goto E0_good 0 (.op F_FollowBack 37) (by kernel_rfl) ?_
      have hS := same_does pre (p :: l) (p :: l) T o capU c 0 fz false mk hpre (by omega) hfl
      rw [sameB_iff.2 rfl] at hS
      refine Ends.callD E0_good F_same [(2, 0), (0, 1)] 2 [(0, .cells (pre ++ plC (p :: l)) T fz mk), (2, .cells (plC (p :: l)) T_p 0 false)] [(0, .cells (plC (p :: l)) T_p 0 false), (1, .cells (pre ++ plC (p :: l)) T fz mk)] [slv 2 0 (p :: l).length capU, slv 0 o (p :: l).length c] [slv 0 0 (p :: l).length capU, slv 1 o (p :: l).length c]
        (smH pre (p :: l) (p :: l) T 0 fz false mk) _ (.bool true) (smH pre (p :: l) (p :: l) T 0 fz false mk) hS
        (by kernel_rfl) (by kernel_rfl) (by kernel_rfl) (by kernel_rfl) (by kernel_rfl) ⟨by kernel_rfl, hfl, by kernel_rfl, hf, trivial⟩ ⟨by kernel_rfl, hf, by kernel_rfl, hfl, trivial⟩ (by kernel_rfl) (by kernel_rfl) ?_
      refine Ends.goto E0_good 0 (.op F_FollowBack 44) (by kernel_rfl) ?_
      refine Ends.norm [] [] 0 [1] [] (by kernel_rfl) (by kernel_rfl) trivial ?_
      exact Ends.to (fbS s) (by kernel_rfl) (fb_second s (by omega))
end
end Go.Den.VvF
