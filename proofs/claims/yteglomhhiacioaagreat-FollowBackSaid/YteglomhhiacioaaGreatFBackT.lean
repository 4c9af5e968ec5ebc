/- FollowBack: for any places and any bytes the law returns true. No condition. -/
import Derived.Test.YteglomhhiacioaaGreatFBackC4
import Derived.Test.YteglomhhiacioaaGreatFBack
import Derived.Test.YteglomhhiacioaaGreatFRow
import Derived.WalkKit
import Derived.ProofKit
import Derived.OpenShut
namespace Go.Den.VvF
open Go.Proofs
set_option maxRecDepth 100000

/-- the law's call, from a world where its places can be read -/
theorem back_calls {args args' : List Value} {H : AHeap} {ρ : Rho} {w : World} (q : Ends E0 F_FollowBack 0 isTrue (entS E0 F_FollowBack args H)) (hg : (enterF E0 F_FollowBack args .normal).isSome = true) (hh : HRel E0 ρ H w) (ha : Vs ρ args args') (hr : ∀ i l, ρ i = some l → l.ro = true) :
    Calls Tryz.prog F_FollowBack ⟨args'⟩ w fun e w' => e = .returned (.bool true) ∧ RowKit.Below w.heap.size w w' := by
  refine Calls.mono (Ends.calls E0_good (getD_some (d := bad.top) hg) q hh ha) ?_
  rintro e w1 ⟨v, H1, ρ1, v1, hv, rfl, hrel, _, hk⟩
  have hv : v = .bool true := hv
  subst hv
  have := scalar_rel (v := .bool true) rfl hrel
  subst this
  exact ⟨rfl, Kept.below hk hr⟩
end Go.Den.VvF

namespace Go.Proofs.YteglomhhiacioaaGreat.followBack
open Go.ChangeShapes Go.WideShapes Go.ChangeAt Go.RowKit Go.Den Go.Den.VvF
set_option maxRecDepth 100000

section
variable {H : Type} {enc : TypeId × Value → H} {P : Program}
theorem post_of_below {f : Func} {s : ChangeSpec} {apart fresh handsOn again : Bool} {W W' : World} {args : Array Value} {v : Value} {ds gs : List (DataW H)} {before pa pv : List MemPlace}
    (hW : DataW.Whole enc P f.params.toList s.vars apart W args.toList ds gs before)
    (hres : ∀ (b : Nat) (sp : Nat → Bool) (hd : Bool), DataW.TrodAll enc P W' b sp hd f.resultTypes.toList (v.resultList f.resultTypes.size) (s.fn H (ds ++ gs)).results [])
    (hargs : ∀ sp : Nat → Bool, (∀ p ∈ before, sp p.block = true) → DataW.TrodAll enc P W' 0 sp true f.params.toList args.toList (s.fn H (ds ++ gs)).args pa)
    (hvars : ∀ sp : Nat → Bool, (∀ p ∈ before, sp p.block = true) → DataW.TrodVars enc P W' sp s.vars (s.fn H (ds ++ gs)).vars pv)
    (hps : before = pa ++ pv) (hb : Below W.heap.size W W')
    (hok : ∀ (j : Nat) (t : TypeId) (r : Value), f.resultTypes[j]? = some t → (v.resultList f.resultTypes.size)[j]? = some r → Value.okWide P W' .any 0 t r) :
    s.post enc P f apart fresh handsOn again W args v W' := by
  have hlt : ∀ p ∈ before, p.block < W.heap.size := fun p hp => hW.lt p hp
  have hold : ∀ p ∈ before, (fun b => decide (b < W.heap.size)) p.block = true := fun p hp => by simpa using hlt p hp
  refine ⟨ds, gs, before, [], pa, pv, hW, hres _ _ _, hargs _ hold, hvars _ hold, World.keptBut_mono (fun p hp => ⟨hp, ?_⟩) (hb.frame (· ∈ before)), fun _ => ?_⟩
  · rw [hps, List.mem_append] at hp
    exact Or.inr hp
  · obtain ⟨_, _, _, _, _, hz, hn⟩ := hW
    refine ⟨hok, _, _, ([] ++ pa) ++ pv, ⟨[] ++ pa, pv, trodAll_append (hargs _ (fun _ _ => rfl)) (hres _ _ _), hvars _ (fun _ _ => rfl), rfl, ?_, ?_⟩, ?_⟩
    · intro b off hp
      have hin : MemPlace.cell b off ∈ before := by rw [hps]; simpa using hp
      rw [hb.frozen (hlt _ hin)]
      exact hz b off hin
    · intro ha
      have := hn ha
      rw [hps] at this
      simpa using this
    · intro p hp _
      rw [hps]
      simpa using hp
end

theorem walk {H : Type} {enc : TypeId × Value → H} {W : World} {base : Nat} {v0 : Value} {d0 : DataW H} {p0 : List MemPlace} (s : ByteArray) (hv : Value.okWide Tryz.prog W .any base 22 v0) (h0 : DataW.Trod enc Tryz.prog W 0 (fun _ => true) true 22 v0 d0 p0) :
    Calls Tryz.prog 4 #[v0, .string s] W fun e W' => e = .returned (.bool true) ∧ Below W.heap.size W W' := by
  rcases open_places Tryz.underlying22 Tryz.underlying37 (by kernel_rfl) rfl rfl (by kernel_rfl) (by kernel_rfl) Tryz.underlying9 Tryz.underlying3 hv h0 with rfl | ⟨b, o, c, l, cs, eb, fr, rfl, hc, hb, hl⟩
  · exact back_calls (fb_nil s.data.toList) (by kernel_rfl) (HRel.empty W) (.cons (.nilSlice 0 0 (by decide)) (.cons (VRel.str_of s) .nil)) fun i l h => by cases h
  · obtain ⟨pre, g1, g2, g3⟩ := row_rel W b o l cs eb fr hb hl
    exact back_calls (fb_row s.data.toList pre l eb o c cs.size true g1 g2) (by kernel_rfl) g3 (.cons (.slice 0 o _ _ _ (rhoOne_zero _ _ _) hc) (.cons (VRel.str_of s) .nil)) fun i l h => by rw [(rhoOne_some h).2]

theorem contract {H : Type} {enc : TypeId × Value → H} {W : World} {base : Nat} {args : Array Value} {ds gs : List (DataW H)} {before : List MemPlace}
    (hval : ∀ (j : Nat) t v, Tryz.f4.params[j]? = some t → args[j]? = some v → Value.okWide Tryz.prog W .any base t v)
    (hW : DataW.Whole enc Tryz.prog Tryz.f4.params.toList Rows.followBackSpec.vars false W args.toList ds gs before) :
    Calls Tryz.prog 4 args W fun e W' => ∃ v, e = .returned v ∧ Rows.followBackSpec.post enc Tryz.prog Tryz.f4 false true false false W args v W' := by
  have hW' := hW
  obtain ⟨p, q, hA0, hV, rfl, hfz, hnd⟩ := hW
  have hA : DataW.TrodAll enc Tryz.prog W 0 (fun _ => true) true Tryz.f4.params.toList args.toList ds p := hA0
  rw [Tryz.params4] at hA hval
  obtain ⟨v0, v1, d0, d1, p0, p1, rfl, rfl, rfl, h0, h1⟩ := trodAll_two hA
  obtain ⟨rfl, rfl⟩ := trodVars_none hV
  obtain ⟨s, rfl, rfl, rfl, hsl⟩ := ChangeMaps.open_string Tryz.underlying9 (hval 1 9 v1 rfl rfl) h1
  clear hA0
  simp only [List.append_nil] at hW'
  have hlt : ∀ x ∈ p0, x.block < W.heap.size := fun x hx => by simpa using hW'.lt x hx
  refine (walk s (hval 0 22 v0 rfl rfl) h0).mono ?_
  rintro e W' ⟨rfl, hb⟩
  refine ⟨_, rfl, post_of_below (pa := p0 ++ []) (pv := []) hW' ?_ ?_ (fun _ _ => rfl) (by simp) hb ?_⟩
  · exact fun _ _ _ => trodAll_cons_mk (shut_bool Tryz.underlying4 _) trodAll_mk0
  · intro sp hsp
    have hargs : DataW.TrodAll enc Tryz.prog W' 0 sp true [22, 9] [v0, .string s] [d0, .lit (.string s.data.toList)] (p0 ++ []) :=
      trodAll_mk2 (WideElems.Trod_stays c1 reads0 rows0 h0 (fun x hx => hb.same (hlt x hx)) (fun x hx => hsp x (by simpa using hx))) (ChangeMaps.shut_string Tryz.underlying9 hsl)
    rw [Tryz.params4]
    exact hargs
  · exact ok_one (by kernel_rfl) rfl (okWide_bool_mk Tryz.underlying4 _)

theorem lifted (os : Os) (started : os.Started) (H : Type) (enc : TypeId × Value → H) :
    ReturnsInHanded {} Tryz.checked os 4 .any (Rows.followBackSpec.pre6 enc Tryz.prog Tryz.f4 Rows.followBackRow.domain false) (Rows.followBackSpec.post enc Tryz.prog Tryz.f4 false true false false) := by
  refine returnsInHanded_of_change (C := Tryz.checked) own started noInit Tryz.func4 (seen os H enc) ?_
  intro W base args ds gs before hval hW _ _
  exact contract hval hW

theorem over : Rows.followBackRow.holds Tryz.pinned (OpenSpec.ofChange Rows.followBackSpec) :=
  OpenClaim.holds_of_wide 4 Tryz.f4 rfl rfl rfl rfl rfl rfl rfl ⟨rfl, rfl, rfl, rfl, rfl⟩ rfl rfl rfl rfl rfl fact1 Tryz.func4 fact2 fact3 fact4
    (fun os started H enc _ => lifted os started H enc)

theorem proved : Rows.FollowBackSaid :=
  over
#print axioms proved
end Go.Proofs.YteglomhhiacioaaGreat.followBack
