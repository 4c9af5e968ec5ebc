/- An argument that is a row of places, as the abstract machine sees it. -/
import Derived.Test.YteglomhhiacioaaGreatFOwn
import Derived.Deep.SlicePairs
import Derived.Carry
import Derived.ChangeMaps5
namespace Go.Den.VvF
open Go.Proofs Go.ChangeShapes Go.WideShapes Go.RowKit
set_option maxRecDepth 100000

theorem plC_get : ∀ {l : List PL} {j : Nat} {v : Value}, (plC l)[j]? = some v → ∃ i p, l[i]? = some p ∧ ((j = i * 2 ∧ v = str p.name) ∨ (j = i * 2 + 1 ∧ v = i64 p.next))
  | [], j, v, h => by simp [plC] at h
  | q :: l, 0, v, h => by
    simp [plC] at h
    exact ⟨0, q, rfl, .inl ⟨rfl, h.symm⟩⟩
  | q :: l, 1, v, h => by
    simp [plC] at h
    exact ⟨0, q, rfl, .inr ⟨rfl, h.symm⟩⟩
  | q :: l, j + 2, v, h => by
    simp [plC] at h
    obtain ⟨i, p, h1, h2⟩ := plC_get h
    refine ⟨i + 1, p, by simpa using h1, ?_⟩
    rcases h2 with ⟨e, hv⟩ | ⟨e, hv⟩
    · exact .inl ⟨by omega, hv⟩
    · exact .inr ⟨by omega, hv⟩

theorem VRel.str_of {ρ : Rho} (s : ByteArray) : VRel ρ (str s.data.toList) (.string s) := .string s

/-- only the arguments' row -/
def rhoOne (b n z : Nat) : Rho := fun i => if i = 0 then some ⟨b, n, z, true⟩ else none
theorem rhoOne_zero (b n z : Nat) : rhoOne b n z 0 = some ⟨b, n, z, true⟩ := rfl
theorem rhoOne_some {b n z i : Nat} {l : Loc} (h : rhoOne b n z i = some l) : i = 0 ∧ l = ⟨b, n, z, true⟩ := by
  unfold rhoOne at h
  split at h
  · rename_i e; cases h; exact ⟨e, rfl⟩
  · cases h

/-- A row in memory, read only. -/
theorem row_rel (w : World) (b o : Nat) (l : List PL) (c : Array Value) (e : TypeId) (fr : Nat × Nat) (hw : w.heap[b]? = some (.cells c e fr))
    (hc : ∀ i p, l[i]? = some p → (∃ s : ByteArray, p.name = s.data.toList ∧ c[o + i * 2]? = some (.string s)) ∧ c[o + i * 2 + 1]? = some (.int .i64 p.next)) :
    ∃ pre, (l ≠ [] → pre.length = o) ∧ FlatO (.cells (pre ++ plC l) e c.size true) ∧ HRel E0 (rhoOne b c.size ((szOf E0 e).getD 0)) (rowH pre l e c.size true) w := by
  have hpois : ∀ n, allL flatV (List.replicate n poison) = true := fun n => allL_iff.2 fun x hx => by rw [List.eq_of_mem_replicate hx]; rfl
  have main : ∀ pre : List Value, (l ≠ [] → pre = List.replicate o poison) → (l = [] → pre = []) → (l ≠ [] → pre.length = o) ∧ FlatO (.cells (pre ++ plC l) e c.size true) ∧ HRel E0 (rhoOne b c.size ((szOf E0 e).getD 0)) (rowH pre l e c.size true) w := by
    intro pre h1 h2
    have hflat : FlatO (.cells (pre ++ plC l) e c.size true) := by
      refine allL_app ?_ ?_
      · by_cases hl : l = []
        · rw [h2 hl]; rfl
        · rw [h1 hl]; exact hpois o
      · exact allL_iff.2 fun x hx => by unfold flatV; rw [allL_iff.1 (plC_scalar l) x hx]; rfl
    have hlen : (pre ++ plC l).length ≤ c.size := by
      by_cases hl : l = []
      · rw [h2 hl, hl]; simp [plC]
      · rw [h1 hl, List.length_append, List.length_replicate, plC_length]
        obtain ⟨p, hp⟩ : ∃ p, l[l.length - 1]? = some p := ⟨_, List.getElem?_eq_getElem (by have := List.length_pos_iff.2 hl; omega)⟩
        have := (hc _ p hp).2
        have hlt := getElem?_lt this
        have := List.length_pos_iff.2 hl
        omega
    have hcells : Vs (rhoOne b c.size ((szOf E0 e).getD 0)) (pre ++ plC l) (c.toList.take (pre ++ plC l).length) := by
      refine All2.of_get (by rw [List.length_take]; simp at hlen ⊢; omega) fun j v v' hv hv' => ?_
      have hj : j < (pre ++ plC l).length := by
        rcases Nat.lt_or_ge j (pre ++ plC l).length with h | h
        · exact h
        · rw [List.getElem?_eq_none h] at hv; cases hv
      rw [List.getElem?_take_of_lt hj] at hv'
      have hv' : c[j]? = some v' := by simpa using hv'
      rcases Nat.lt_or_ge j pre.length with hp | hp
      · rw [List.getElem?_append_left hp] at hv
        have hl : l ≠ [] := by
          intro hl; rw [h2 hl] at hp; simp at hp
        rw [h1 hl] at hv
        have := List.eq_of_mem_replicate (List.mem_of_getElem? hv)
        rw [this]; exact .poison _
      · rw [List.getElem?_append_right hp] at hv
        obtain ⟨i, p, hi, hh⟩ := plC_get hv
        have hl : l ≠ [] := by rintro rfl; simp at hi
        have hpl : pre.length = o := by rw [h1 hl, List.length_replicate]
        obtain ⟨⟨s, hs1, hs2⟩, hn⟩ := hc i p hi
        rcases hh with ⟨e1, e2⟩ | ⟨e1, e2⟩
        · have : j = o + i * 2 := by omega
          rw [this, hs2] at hv'
          cases hv'
          rw [e2, hs1]
          exact VRel.str_of s
        · have : j = o + i * 2 + 1 := by omega
          rw [this, hn] at hv'
          cases hv'
          rw [e2]
          exact .int _ _
    refine ⟨fun hl => by rw [h1 hl, List.length_replicate], hflat, ⟨fun i hi => ?_, fun i ob ho => ?_, fun i j ob ob' li lj h3 h4 h5 h6 h7 => ?_, fun i ob lo h3 h4 _ => ?_⟩⟩
    · have hi : 1 ≤ i := hi
      unfold rhoOne; rw [if_neg (by omega)]
    · have hob : (if i = 0 then some (AObj.cells (pre ++ plC l) e c.size true) else none) = some ob := by
        have ho : ((Tr.nil : Tr AObj).set 0 (some (AObj.cells (pre ++ plC l) e c.size true))).get i = some ob := ho
        rw [Tr.get_set] at ho
        split at ho
        · rename_i e; rw [if_pos e]; exact ho
        · cases ho
      split at hob
      · rename_i e0
        cases hob
        subst e0
        refine ⟨_, _, rhoOne_zero _ _ _, hw, .cells _ e c.size true c fr rfl hlen (fun n hn => by simp [hn]) hcells (fun i h8 h9 => by simp only at h9; omega) fun h => by cases h⟩
      · cases hob
    · rw [(rhoOne_some h5).1, (rhoOne_some h6).1]
    · obtain ⟨rfl, rfl⟩ := rhoOne_some h4
      have h3 : ((Tr.nil : Tr AObj).set 0 (some (AObj.cells (pre ++ plC l) e c.size true))).get 0 = some ob := h3
      rw [Tr.get_set, if_pos rfl] at h3
      cases h3
      exact ⟨_, _, _, rfl, Nat.le_refl _⟩
  by_cases hl : l = []
  · exact ⟨[], main [] (fun h => absurd hl h) (fun _ => rfl)⟩
  · exact ⟨_, main _ (fun _ => rfl) (fun h => absurd h hl)⟩

/-- no block that may be written: all old blocks are as they were -/
theorem Kept.below {k : Nat} {ρ0 ρ : Rho} {w0 w : World} (h : Kept k ρ0 w0 ρ w) (hr : ∀ i l, ρ0 i = some l → l.ro = true) : Below w0.heap.size w0 w :=
  ⟨h.os, h.tape, h.output, h.size, fun b hb => h.old b hb fun i l hi _ => hr i l hi⟩

def nameOf : Value → List UInt8
  | .string s => s.data.toList
  | _ => []
def nextOf : Value → Int
  | .int _ n => n
  | _ => 0

/-- A slice of places that can be read: none, or a row. -/
theorem open_places {H : Type} {enc : TypeId × Value → H} {w : World} {b0 : Nat} {f0 f1 : Field} {t e : TypeId} {v : Value} {d : DataW H} {ps : List MemPlace} (ht : E0.P.underlying t = some (.slice e)) (he : E0.P.underlying e = some (.struct #[f0, f1]))
    (ce : E0.P.cellsOf e = 2) (o0 : f0.offset = 0) (o1 : f1.offset = 1) (c0 : E0.P.cellsOf f0.type = 1) (c1 : E0.P.cellsOf f1.type = 1) (u0 : E0.P.underlying f0.type = some .string) (u1 : E0.P.underlying f1.type = some (.int .i64))
    (hval : Value.okWide E0.P w .any b0 t v) (hd : DataW.Trod enc E0.P w 0 (fun _ => true) true t v d ps) :
    v = .slice none 0 0 ∨ ∃ (b o c : Nat) (l : List PL) (cs : Array Value) (eb : TypeId) (fr : Nat × Nat), v = .slice (some ⟨b, o, none⟩) l.length c ∧ c < capU ∧ w.heap[b]? = some (.cells cs eb fr) ∧
      ∀ i p, l[i]? = some p → (∃ s : ByteArray, p.name = s.data.toList ∧ cs[o + i * 2]? = some (.string s)) ∧ cs[o + i * 2 + 1]? = some (.int .i64 p.next) := by
  have hk : Cell.ok E0.P w .any b0 t v := by
    unfold Value.okWide at hval
    rw [ht] at hval
    simp only [Cell.okWide, ht] at hval
    exact hval
  have hcells : v.cells.toList = [v] := by
    unfold Cell.ok at hk
    rw [ht] at hk
    cases v <;> first | rfl | exact absurd hk (by simp)
  obtain ⟨fuel, hf⟩ := hd
  rw [hcells] at hf
  rcases Deep.open_slice_pairs ht he ce o0 o1 c0 c1 hf with ⟨h, _⟩ | ⟨a, len, cap, m, n, V0, V1, D0, D1, P0, P1, hv, _, hlc, hcm, hm, _, hx⟩
  · left; exact List.cons.inj h |>.1
  · right
    obtain rfl := (List.cons.inj hv).1
    unfold Cell.ok at hk
    rw [ht] at hk
    simp only at hk
    obtain ⟨_, _, hhas⟩ := hk
    unfold World.has at hhas
    obtain ⟨_, hspot, row, cells, hshape, _⟩ := hhas
    obtain ⟨b, o, sp⟩ := a
    simp only at hspot
    subst hspot
    have hblk : ∃ cs fr, w.heap[b]? = some (.cells cs row fr) := by
      unfold World.shape? at hshape
      simp only at hshape
      cases hb : w.heap[b]? with
      | none => rw [hb] at hshape; cases hshape
      | some ob =>
        rw [hb] at hshape
        cases ob with
        | cells cs el fr =>
          simp only [Option.some.injEq, Prod.mk.injEq] at hshape
          obtain ⟨rfl, _⟩ := hshape
          exact ⟨cs, fr, rfl⟩
        | _ => cases hshape
    obtain ⟨cs, fr, hb⟩ := hblk
    have hm : m = cap := by simpa using hm
    refine ⟨b, o, cap, (List.range len).map fun i => ⟨nameOf (V0 i), nextOf (V1 i)⟩, cs, row, fr, by simp, by unfold maxLen at hcm; unfold capU; omega, hb, fun i p hp => ?_⟩
    rw [List.getElem?_map] at hp
    have hi : i < len := by
      rcases Nat.lt_or_ge i len with h | h
      · exact h
      · rw [List.getElem?_eq_none (by simpa using h)] at hp; cases hp
    rw [List.getElem?_range hi] at hp
    simp only [Option.map_some, Option.some.injEq] at hp
    subst hp
    obtain ⟨g1, g2, g3, g4⟩ := hx i (by omega)
    obtain ⟨s, hs, _, _⟩ := DataW.trod_string u0 g3
    obtain ⟨k, hk2, _, _⟩ := DataW.trod_int u1 g4
    obtain hs := (List.cons.inj hs).1
    obtain hk2 := (List.cons.inj hk2).1
    have hcell : ∀ j x, w.cell? ((⟨b, o, none⟩ : Addr).add j) = some x → cs[o + j]? = some x := by
      intro j x hj
      rw [addr_add_none] at hj
      unfold World.cell? at hj
      simp only [hb] at hj
      simpa using hj
    rw [hs] at g1 ⊢
    rw [hk2] at g2 ⊢
    exact ⟨⟨s, rfl, hcell _ _ g1⟩, by rw [Nat.add_assoc]; exact hcell _ _ g2⟩
end Go.Den.VvF
