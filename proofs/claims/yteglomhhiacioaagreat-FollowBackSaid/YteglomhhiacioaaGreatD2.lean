/- Den: copy, clear, bytes and strings, maps, iterators. -/
import Derived.Test.YteglomhhiacioaaGreatD1
namespace Go.Den

section mem
variable {E : Env} {ρ : Rho} {H : AHeap} {w : World}

theorem slice_at {a : Addr} {n c : Nat} {x' : Value} {loc : Loc} (hx : VRel ρ (.slice (some a) n c) x') (hl : ρ a.block = some loc) : ∃ c', x' = .slice (some (at0 loc a.off)) n c' := by
  cases hx with
  | slice b o l _ _ h _ => simp only at hl; rw [h] at hl; cases hl; exact ⟨_, rfl⟩
  | sliceU b o l _ c h _ _ => simp only at hl; rw [h] at hl; cases hl; exact ⟨_, rfl⟩
  | sliceV b o l _ c h _ => simp only at hl; rw [h] at hl; cases hl; exact ⟨_, rfl⟩

theorem aCopy_run (hE : E.Ok) (hh : HRel E ρ H w) {ats : Array TypeId} {ty : TypeId} {vs vs' : List Value} {r : Value} {H' : AHeap} (hv : Vs ρ vs vs')
    (h : aCopy E ats.toList vs H = some (r, H')) : ValRes E ρ w r H' (Builtin.copy_ ats ty ⟨vs'⟩) := by
  unfold aCopy at h
  split at h
  · rename_i st rest base dlen dcap src hats
    split at h
    · rename_i e hu
      simp only [Option.bind_eq_some_iff, forceNat_eq] at h
      obtain ⟨sz, hsz, sl, hsl, cs, hcs, h⟩ := h
      cases hv with
      | @cons _ d' _ m hd hm =>
        cases hm with
        | @cons _ s' _ m2 hs hm2 =>
          cases hm2
          have h0 : ats[0]? = some st := by rw [← Array.getElem?_toList, hats]; rfl
          have h1 : (⟨[d', s']⟩ : Array Value)[0]? = some d' := rfl
          have h2 : (⟨[d', s']⟩ : Array Value)[1]? = some s' := rfl
          obtain ⟨l', q1, q2, _⟩ := firstN_run hh hcs hs
          have hlen := lenN_run (w := w) (P := E.P) hsl hs
          split at h
          · rename_i a
            simp only [Option.map_eq_some_iff, Prod.mk.injEq] at h
            obtain ⟨H2, hst, rfl, rfl⟩ := h
            obtain ⟨loc, w', r1, r2, r3, r4, r5, _⟩ := storeN_run hh hst q2
            have hd' : ∃ c', d' = .slice (some (at0 loc a.off)) dlen c' := slice_at hd r1
            obtain ⟨c', rfl⟩ := hd'
            refine ⟨ρ, .int .i64 (Nat.min sl dlen : Nat), w', ?_, r4, r5, .int _ _⟩
            unfold Builtin.copy_
            simp only [h0, h1, h2, Sem.run_bind, run_und w hE hu, Result.andThen_ok, hlen, run_size w hE hsz, q1, r3]
            rfl
          · have h' := bif_some h; clear h; obtain ⟨hn, h⟩ := h'
            have hn := beq_inv hn
            simp only [Option.some.injEq, Prod.mk.injEq] at h
            obtain ⟨rfl, rfl⟩ := h
            cases hd
            refine ⟨ρ, .int .i64 (Nat.min sl dlen : Nat), w, ?_, hh, .refl ρ w, .int _ _⟩
            unfold Builtin.copy_
            simp only [h0, h1, h2, Sem.run_bind, run_und w hE hu, Result.andThen_ok, hlen, run_size w hE hsz, q1]
            rfl
    · simp at h
  · simp at h

theorem eClear_run (hE : E.Ok) (hh : HRel E ρ H w) {ats : Array TypeId} {ty : TypeId} {vs vs' : List Value} {n : ANext} (hv : Vs ρ vs vs')
    (h : eClear E ats.toList.head? vs H = some n) : ∃ v H', n = .value v H' ∧ ValRes E ρ w v H' (Builtin.clear_ ats ty ⟨vs'⟩) := by
  unfold eClear at h
  cases ht : ats.toList.head? with
  | none => simp [ht] at h
  | some t =>
    have h0 := head?_some ht
    simp only [ht, Option.bind_some] at h
    have hunit : VRel ρ (.tuple ⟨[]⟩) (.tuple #[]) := VRel.tuple_of .nil
    split at h
    · rename_i e l c hu
      simp only [Option.some.injEq] at h; subst h
      cases hv with
      | @cons _ x' _ m hx hm =>
        cases hm
        cases hx
        refine ⟨_, _, rfl, ρ, _, w, ?_, hh, .refl ρ w, hunit⟩
        have h1 : (⟨[Value.slice none l c]⟩ : Array Value)[0]? = some (Value.slice none l c) := rfl
        unfold Builtin.clear_
        simp only [h0, h1, Sem.run_bind, run_und w hE hu, Result.andThen_ok]
        rfl
    · rename_i e a n c hu
      simp only [Option.bind_eq_some_iff, Option.map_eq_some_iff] at h
      obtain ⟨z, hz, H2, hst, rfl⟩ := h
      cases hv with
      | @cons _ x' _ m hx hm =>
        cases hm
        obtain ⟨loc, w', r1, r2, r3, r4, r5, _⟩ := storeN_run hh hst ((zeros_rel hE hz).repeatL n)
        have hx' : ∃ c', x' = .slice (some (at0 loc a.off)) n c' := slice_at hx r1
        obtain ⟨c', rfl⟩ := hx'
        refine ⟨_, _, rfl, ρ, _, w', ?_, r4, r5, hunit⟩
        have h1 : (⟨[Value.slice (some (at0 loc a.off)) n c']⟩ : Array Value)[0]? = some (Value.slice (some (at0 loc a.off)) n c') := rfl
        unfold Builtin.clear_
        cases n with
        | zero =>
          have : w' = w := by
            have h3 : (storeCells (at0 loc a.off) [] 0).run E.P w = .ok () w' := r3
            rw [storeCells_nil] at h3
            injection h3 with _ h3; exact h3.symm
          subst this
          simp only [h0, h1, Sem.run_bind, run_und w' hE hu, Result.andThen_ok]
          rfl
        | succ n =>
          simp only [h0, h1, Sem.run_bind, run_und w hE hu, Result.andThen_ok, run_zero w hE hz, zeroCells_eq, r3]
          rfl
    · simp at h

/-! ### Bytes and strings -/
theorem byteOfV_inv {v : Value} {b : UInt8} (h : byteOfV v = some b) : v = .int .u8 (b.toNat : Int) := by
  unfold byteOfV at h
  split at h
  · rename_i n
    have h' := bif_some h; clear h; obtain ⟨hn, h⟩ := h'
    have hn := blt_inv hn
    simp only [Option.some.injEq] at h; subst h
    congr 1
    simp [Nat.mod_eq_of_lt hn]
  · simp at h

theorem aBytes_eq : ∀ {l : List Value} {bs : List UInt8}, aBytes l = some bs → l = bytesV bs
  | [], bs, h => by simp [aBytes] at h; subst h; rfl
  | v :: l, bs, h => by
    simp only [aBytes, Option.bind_eq_some_iff, Option.map_eq_some_iff] at h
    obtain ⟨b, hb, bs', h', rfl⟩ := h
    rw [byteOfV_inv hb, aBytes_eq h']; rfl

theorem bytesV_rel_inv {bs : List UInt8} {l' : List Value} (h : Vs ρ (bytesV bs) l') : l' = bytesV bs := by
  refine All2.eq h fun a ha b hb => ?_
  rw [bytesV_eq] at ha
  obtain ⟨x, _, rfl⟩ := List.mem_map.1 ha
  exact VRel.int_inv hb

theorem foldl_push : ∀ (bs : List UInt8) (acc : ByteArray),
    (bs.map fun b => (b.toNat : Int)).foldl (fun (r : ByteArray) (n : Int) => r.push (UInt8.ofNat n.toNat)) acc = ⟨acc.data ++ bs.toArray⟩
  | [], acc => by simp
  | b :: bs, acc => by
    simp only [List.map_cons, List.foldl_cons]
    rw [foldl_push bs]
    simp [ByteArray.push]

theorem bytesStr_run (hE : E.Ok) (hh : HRel E ρ H w) {src dst e : TypeId} {x' : Value} {a : Option Addr} {len cap : Nat} {n : ANext} (hs : und E src = some (.slice e)) (hd : und E dst = some .string)
    (hx : VRel ρ (.slice a len cap) x') (h : bytesStr E e a len H = some n) : ∃ v H', n = .value v H' ∧ ValRes E ρ w v H' (convert src dst x') := by
  unfold bytesStr at h
  split at h
  · rename_i he
    simp only [Option.some.injEq] at h; subst h
    cases hx
    refine ⟨_, _, rfl, ρ, _, w, ?_, hh, .refl ρ w, .string _⟩
    rw [run_convert_bytes_string w src dst e none _ _ (und_ok hE hs) (und_ok hE he) (und_ok hE hd)]
    rfl
  · rename_i a he
    simp only [Option.map_eq_some_iff, Option.bind_eq_some_iff] at h
    obtain ⟨bs, ⟨l, hl, hbs⟩, rfl⟩ := h
    obtain ⟨loc, l', h1, h2, h3, h4, h5, h6, h7⟩ := loadN_run hh hl
    have hx' : ∃ c', x' = .slice (some (at0 loc a.off)) len c' := slice_at hx h1
    obtain ⟨c', rfl⟩ := hx'
    have := aBytes_eq hbs; subst this
    have := bytesV_rel_inv h3; subst this
    have hload := run_loadCells_of w E.P (b := loc.blk) (o := a.off) (l' := bytesV bs) h6
    rw [h4] at hload
    refine ⟨_, _, rfl, ρ, _, w, ?_, hh, .refl ρ w, .string _⟩
    rw [run_convert_bytes_string w src dst e _ _ _ (und_ok hE hs) (und_ok hE he) (und_ok hE hd)]
    have := run_bytesToString (P := E.P) w (at0 loc a.off) len c' (bs.map fun b => (b.toNat : Int)) (by
      show (loadCells ⟨loc.blk, a.off, none⟩ len).run E.P w = _
      rw [hload, bytesV_eq]; simp [List.map_map, Function.comp_def])
    rw [this, foldl_push]
    congr 2
    apply ByteArray.ext
    apply Array.toList_inj.1
    show ((#[] : Array UInt8) ++ bs.toArray).toList = bs
    simp
  · simp at h

theorem strBytes_run (hE : E.Ok) (hh : HRel E ρ H w) {src dst e : TypeId} {s : ByteArray} {n : ANext} (hs : und E src = some .string) (hd : und E dst = some (.slice e))
    (h : strBytes E e s H = some n) : ∃ v H', n = .value v H' ∧ ValRes E ρ w v H' (convert src dst (.string s)) := by
  unfold strBytes at h
  split at h
  · rename_i he
    simp only [Option.bind_eq_some_iff] at h
    obtain ⟨sz, hsz, h⟩ := h
    have h' := bif_some h; clear h; obtain ⟨h1, h⟩ := h'
    have := beq_inv h1; subst this
    simp only [Option.some.injEq] at h; subst h
    have hlen : s.data.toList.length = s.size := Array.length_toList
    -- the new row
    let cap := (Question.appendCap s.size 0 e).cut (w.tape w.drawn (.appendCap s.size 0 e))
    have hcap : s.size ≤ cap := by simp [cap, Question.cut]
    let C : Array Value := s.data.map (fun b => Value.int .u8 (b.toNat : Int)) ++ Array.replicate (cap - s.size) (.int .u8 0)
    have hCs : C.size = cap := by
      have : s.data.size = s.size := rfl
      simp only [C, Array.size_append, Array.size_map, Array.size_replicate, this]; omega
    have hCl : C.toList.take s.size = bytesV s.data.toList := by
      simp only [C, Array.toList_append, Array.toList_map]
      rw [bytesV_eq]
      exact List.take_left' (by rw [List.length_map, hlen])
    have hrun : (convert src dst (.string s)).run E.P w = .ok (.slice (some ⟨w.heap.size, 0, none⟩) s.size cap) ((w.drew.alloc (.cells C e)).freeze ⟨w.heap.size, cap, none⟩ 1) := by
      have hf : (Question.appendCap s.size 0 e).forced = false := rfl
      have hsh : (w.drew.alloc (.cells C e)).shape? w.heap.size = some (e, C.size) := by
        show (match (w.heap.push (.cells C e))[w.heap.size]? with | some (.cells c elem _) => some (elem, c.size) | _ => none) = _
        simp
      unfold convert
      simp only [Sem.run_bind, run_und w hE hs, run_und w hE hd, Result.andThen_ok, run_und w hE he, Conv.stringToBytes, run_choose, hf, Bool.false_eq_true, if_false, World.drew_eq]
      show ((newRow e C).run E.P w.drew).andThen _ = _
      rw [run_newRow]
      simp only [Result.andThen_ok, markStringish, Sem.run_bind, run_shape, World.size_drew, hsh, run_freeze, Sem.run_pure, hCs]
      rfl
    have hfz : (w.drew.alloc (.cells C e)).freeze ⟨w.heap.size, cap, none⟩ 1 = w.drew.alloc (.cells C e (cap, cap + 1)) := by
      have hheap : (w.heap.push (.cells C e)).modify w.heap.size (fun
          | .cells c elem (lo, hi) => .cells c elem (if lo == hi then (cap, cap + 1) else (min lo cap, max hi (cap + 1)))
          | o => o) = w.heap.push (.cells C e (cap, cap + 1)) := by
        apply Array.ext_getElem?
        intro i
        rw [Array.getElem?_modify, Array.getElem?_push, Array.getElem?_push]
        by_cases hi : w.heap.size = i
        · subst hi; simp
        · rw [if_neg hi]
          have : ¬ (i = w.heap.size) := fun e => hi e.symm
          rw [if_neg this, if_neg this]
      unfold World.freeze
      rw [if_neg (by decide)]
      exact congrArg (fun h => ({ w.drew with heap := h } : World)) hheap
    obtain ⟨q1, q2⟩ := newCells_rel (c := bytesV s.data.toList) (e := e) (c' := C) (mk := true) (fr := (cap, cap + 1)) hh.drew (by rw [bytesV_eq, List.length_map, hlen, hCs]; exact hcap)
      (by
        have : (bytesV s.data.toList).length = s.size := by rw [bytesV_eq, List.length_map, hlen]
        rw [this, hCl]; exact bytesV_rel _) (fun i hi => by rw [hCs] at hi; simp only; omega) (fun h => by cases h)
    refine ⟨_, _, rfl, _, _, _, hrun, hfz ▸ q1, (Ext.drew ρ w).trans (hfz ▸ q2), ?_⟩
    rw [hlen]
    refine .sliceU H.next 0 (locOf E w.drew C.size e) s.size cap (Rho.upd_same _ _ _) hcap ?_
    simp [locOf, hsz, hCs]
  · simp at h

theorem toUnsafe_run (hE : E.Ok) (hh : HRel E ρ H w) {src dst t : TypeId} {x' : Value} {a : Addr} {n : ANext} (hs : und E src = some (.pointer t)) (hd : und E dst = some .unsafePointer)
    (hx : VRel ρ (.pointer (some a)) x') (h : toUnsafe E t a H = some n) : ∃ v H', n = .value v H' ∧ ValRes E ρ w v H' (convert src dst x') := by
  unfold toUnsafe at h
  simp only [Option.bind_eq_some_iff] at h
  obtain ⟨sz, hsz, c, hc, h⟩ := h
  have h' := bif_some h; clear h; obtain ⟨hcond, h⟩ := h'
  simp only [Bool.and_eq_true, Bool.not_eq_true'] at hcond
  obtain ⟨⟨h1, h2⟩, h3⟩ := hcond
  have h1 := beq_ne h1
  have h2 := blt_inv h2
  simp only [Option.some.injEq] at h; subst h
  obtain ⟨loc, hl, ha, rfl⟩ := hx.ptr_inv
  cases ho : H.obj a.block with
  | none => simp [ho, cellsOfObj] at hc
  | some o =>
    cases o with
    | cells c2 e fz mk =>
      simp only [ho, cellsOfObj, Option.some.injEq] at hc; subst hc
      obtain ⟨loc', c', fr, q1, q2, q3, q4, q5, q6, q7, q8⟩ := hh.cells ho
      rw [hl] at q1; cases q1
      have hsh : w.shape? loc.blk = some (e, c'.size) := by simp [World.shape?, q2]
      refine ⟨_, _, rfl, ρ, .pointer (some (at0 loc a.off)), w, ?_, hh, .refl ρ w, ?_⟩
      · unfold convert
        simp only [Sem.run_bind, run_und w hE hs, run_und w hE hd, Result.andThen_ok, Conv.unsafePointer, Conv.seenAt, viewAt, run_shape, at0, hsh, Option.isSome_some, if_true, Sem.run_pure, cellsIn, run_size w hE hsz]
        have hno : ¬ (a.off ≥ c'.size) := by omega
        simp [h1, hno]
      · rw [ha]; exact .ptr _ _ loc hl
    | _ => simp [ho, cellsOfObj] at hc

theorem liesAt_head {P : Program} {e : TypeId} {sz count : Nat} (hc : P.cellsOf e = sz) (h0 : sz ≠ 0) (hn : 1 ≤ count) : liesAt P P.depth e count 0 e 1 = true := by
  have hd : P.depth = (2 * (P.types.size + Made.depth) + 1) + 1 := rfl
  rw [hd]
  simp only [liesAt, Bool.or_eq_true]
  left
  rw [hd]
  simp [rowAt, hc, h0, hn, sameLayout]

theorem ofUnsafe_run (hE : E.Ok) (hh : HRel E ρ H w) {src dst u : TypeId} {x' : Value} {a : Addr} {n : ANext} (hs : und E src = some .unsafePointer) (hd : und E dst = some (.pointer u))
    (hx : VRel ρ (.pointer (some a)) x') (h : ofUnsafe E u a H = some n) : ∃ v H', n = .value v H' ∧ ValRes E ρ w v H' (convert src dst x') := by
  unfold ofUnsafe at h
  simp only [Option.bind_eq_some_iff] at h
  obtain ⟨sz, hsz, h⟩ := h
  split at h
  · rename_i c e fz mk ho
    have h' := bif_some h; clear h; obtain ⟨hcond, h⟩ := h'
    simp only [Bool.and_eq_true, Bool.not_eq_true'] at hcond
    obtain ⟨⟨⟨⟨h1, h2⟩, h3⟩, h4⟩, h5⟩ := hcond
    have h1 := beq_ne h1
    have h2 := beq_inv h2
    have := beq_inv h4; subst this
    have h5 := Nat.le_of_ble_eq_true h5
    simp only [Option.some.injEq] at h; subst h
    obtain ⟨loc, hl, ha, rfl⟩ := hx.ptr_inv
    obtain ⟨loc', c', fr, q1, q2, q3, q4, q5, q6, q7, q8⟩ := hh.cells ho
    rw [hl] at q1; cases q1
    have hsh : w.shape? loc.blk = some (e, c'.size) := by simp [World.shape?, q2]
    obtain ⟨i, hi, his⟩ := szOf_ok hE hsz
    have hco : E.P.cellsOf e = sz := by simp [Program.cellsOf, hi, his]
    have hcount : 1 ≤ c'.size / E.P.cellsOf e := by
      rw [hco]; exact (Nat.le_div_iff_mul_le (Nat.pos_of_ne_zero h1)).2 (by omega)
    have hlies := liesAt_head hco h1 hcount
    refine ⟨_, _, rfl, ρ, .pointer (some (at0 loc a.off)), w, ?_, hh, .refl ρ w, ?_⟩
    · unfold convert
      simp only [Sem.run_bind, run_und w hE hs, run_und w hE hd, Result.andThen_ok, Conv.unsafePointer, Conv.seenAt, viewAt, run_shape, at0, hsh, Option.isSome_some, if_true, Sem.run_pure, run_size w hE hsz, h1,
        variablesAt, run_program, h2, hlies]
      simp
    · rw [ha]; exact .ptr _ _ loc hl
  · simp at h

theorem eConvert_run (hE : E.Ok) (hh : HRel E ρ H w) {src dst : TypeId} {x x' : Value} {n : ANext} (hx : VRel ρ x x') (h : eConvert E src dst x H = some n) :
    ∃ v H', n = .value v H' ∧ ValRes E ρ w v H' (convert src dst x') := by
  unfold eConvert at h
  split at h
  · rename_i e s hs hd; cases hx; exact strBytes_run hE hh hs hd h
  · rename_i e a len cap hs hd; exact bytesStr_run hE hh hs hd hx h
  · rename_i t a hs hd; exact toUnsafe_run hE hh hs hd hx h
  · rename_i u a hs hd; exact ofUnsafe_run hE hh hs hd hx h
  · simp at h

end mem
end Go.Den

namespace Go.Den
open Go.Lib

section mem
variable {E : Env} {ρ : Rho} {H : AHeap} {w : World}

/-! ### unsafe.SliceData, unsafe.String -/
theorem eSliceData_run (hh : HRel E ρ H w) {ats : Array TypeId} {ty : TypeId} {vs vs' : List Value} {n : ANext} (hv : Vs ρ vs vs')
    (h : eSliceData vs H = some n) : ∃ v H', n = .value v H' ∧ ValRes E ρ w v H' (Builtin.unsafeSliceData_ ats ty ⟨vs'⟩) := by
  unfold eSliceData at h
  split at h
  · simp only [Option.some.injEq] at h; subst h
    cases hv with
    | @cons _ x' _ m hx hm =>
      cases hm; cases hx
      exact ⟨_, _, rfl, ρ, _, w, rfl, hh, .refl ρ w, .nilPtr⟩
  · rename_i a k c
    have h' := bif_some h; clear h; obtain ⟨hc, h⟩ := h'
    simp only [Option.some.injEq] at h; subst h
    cases hv with
    | @cons _ x' _ m hx hm =>
      cases hm
      have fin : ∀ loc, ρ a.block = some loc → a = ⟨a.block, a.off, none⟩ → ∀ c', c' ≠ 0 → x' = .slice (some (at0 loc a.off)) k c' →
          ∃ v H', ANext.value (.pointer (some a)) H = .value v H' ∧ ValRes E ρ w v H' (Builtin.unsafeSliceData_ ats ty ⟨[x']⟩) := by
        intro loc hl ha c' hc' e
        subst e
        refine ⟨_, _, rfl, ρ, .pointer (some (at0 loc a.off)), w, ?_, hh, .refl ρ w, ?_⟩
        · exact run_unsafeSliceData_row w ats ty _ _ _ hc'
        · rw [ha]; exact .ptr _ _ loc hl
      cases hx with
      | slice b o loc _ _ hl hlt =>
        rw [blt_mk hlt] at hc
        simp only [cond_true, Bool.not_eq_true'] at hc
        exact fin loc hl rfl _ (beq_ne hc) rfl
      | sliceU b o loc _ c' hl hle _ =>
        have : Nat.blt capU capU = false := by decide
        rw [this] at hc
        simp only [cond_false, Bool.not_eq_true'] at hc
        have := beq_ne hc
        exact fin loc hl rfl c' (by omega) rfl
      | sliceV b o loc _ c' hl hle =>
        have : Nat.blt capV capU = false := by decide
        rw [this] at hc
        simp only [cond_false, Bool.not_eq_true'] at hc
        have := beq_ne hc
        exact fin loc hl rfl c' (by omega) rfl
  · simp at h

theorem ptrElem_inv {t pe : TypeId} (h : ptrElem E (some t) = some pe) : und E t = some (.pointer pe) := by
  unfold ptrElem at h
  split at h
  · rename_i e he
    simp only [Option.some.injEq] at h; subst h; exact he
  · simp at h

theorem freeze_upd {b n fz : Nat} {c : Array Value} {e : TypeId} {fr : Nat × Nat} (h : w.heap[b]? = some (.cells c e fr)) (hn : n ≠ 0) (hfr : fr.2 ≤ fz) :
    ∃ fr', Upd w (w.freeze ⟨b, 0, none⟩ n) b (.cells c e fr') ∧ fr'.2 ≤ max fz n := by
  obtain ⟨lo, hi⟩ := fr
  refine ⟨if lo == hi then (0, 0 + n) else (min lo 0, max hi (0 + n)), ?_, ?_⟩
  · unfold World.freeze
    rw [if_neg hn]
    refine ⟨fun k hk => ?_, ?_, ?_, rfl, rfl, rfl⟩
    · rw [Array.getElem?_modify, if_neg (fun e => hk e.symm)]
    · rw [Array.getElem?_modify, if_pos rfl, h]; rfl
    · simp
  · simp only at hfr
    split
    · simp; omega
    · simp; omega

theorem eUnsafeString_run (hE : E.Ok) (hh : HRel E ρ H w) {ats : Array TypeId} {ty : TypeId} {vs vs' : List Value} {n : ANext} (hv : Vs ρ vs vs')
    (h : eUnsafeString E ats.toList vs H = some n) : ∃ v H', n = .value v H' ∧ ValRes E ρ w v H' (Builtin.unsafeString_ ats ty ⟨vs'⟩) := by
  unfold eUnsafeString at h
  split at h
  · rename_i t1 t2 hats
    simp only [Option.some.injEq] at h; subst h
    have e : ats = #[t1, t2] := Array.toList_inj.1 hats
    subst e
    cases hv with
    | @cons _ x' _ m hx hm =>
      cases hm with
      | @cons _ y' _ m2 hy hm2 =>
        cases hm2; cases hx; cases hy
        exact ⟨_, _, rfl, ρ, _, w, run_unsafeString_none w t1 t2 ty none, hh, .refl ρ w, .string _⟩
  · rename_i t1 t2 b k hats
    simp only [Option.bind_eq_some_iff] at h
    obtain ⟨pe, hpe, h⟩ := h
    have h' := bif_some h; clear h; obtain ⟨hk, h⟩ := h'
    have hk := Nat.le_of_ble_eq_true hk
    have e : ats = #[t1, t2] := Array.toList_inj.1 hats
    subst e
    unfold freezeStr at h
    split at h
    · rename_i c e fz hob
      simp only [Option.bind_eq_some_iff] at h
      obtain ⟨sz, hsz, h⟩ := h
      have h' := bif_some h; clear h; obtain ⟨hcond, h⟩ := h'
      simp only [Bool.and_eq_true] at hcond
      obtain ⟨h1, h2⟩ := hcond
      have := beq_inv h1; subst this
      have := beq_inv h2; subst this
      simp only [Option.map_eq_some_iff, Option.bind_eq_some_iff] at h
      obtain ⟨bs, ⟨l, hl, hbs⟩, rfl⟩ := h
      obtain ⟨rfl, hll⟩ := takeN_eq hl
      have hbs := aBytes_eq hbs
      have hbl : bs.length = k + 1 := by
        have := congrArg List.length hbs
        rw [bytesV_eq, List.length_map, List.length_take] at this
        omega
      cases hv with
      | @cons _ x' _ m hx hm =>
        cases hm with
        | @cons _ y' _ m2 hy hm2 =>
          cases hm2
          cases hy
          cases hx with
          | ptr _ _ loc hl2 =>
            obtain ⟨loc', c', fr, q1, q2, q3, q4, q5, q6, q7, q8⟩ := hh.cells hob
            rw [hl2] at q1; cases q1
            have hsh : w.shape? loc.blk = some (e, c'.size) := by simp [World.shape?, q2]
            obtain ⟨i, hi, his⟩ := szOf_ok hE hsz
            have hco : E.P.cellsOf e = 1 := by simp [Program.cellsOf, hi, his]
            have hrel := q6.take (k + 1)
            rw [hbs, List.take_take, Nat.min_eq_left hll] at hrel
            have hcells := bytesV_rel_inv hrel
            have hcell : ∀ j x, bs[j]? = some x → w.cell? ((⟨loc.blk, 0, none⟩ : Addr).add j) = some (.int .u8 x.toNat) := by
              intro j x hj
              rw [addr_add_none, Nat.zero_add, cell?_at q2]
              have hjl : j < k + 1 := by
                rw [← hbl]
                rcases Nat.lt_or_ge j bs.length with h | h
                · exact h
                · rw [List.getElem?_eq_none h] at hj; cases hj
              have h3 : (bytesV bs)[j]? = some (.int .u8 x.toNat) := by rw [bytesV_eq]; simp [hj]
              rw [← hcells, List.getElem?_take_of_lt hjl] at h3
              simpa using h3
            have hrun := run_unsafeString_row (P := E.P) w t1 t2 ty e (und_ok hE (ptrElem_inv hpe)) hco loc.blk c'.size hsh bs
              (by intro e; rw [e] at hbl; cases hbl) (by omega) (by omega) hcell
            rw [hbl] at hrun
            obtain ⟨fr', hu, hfr'⟩ := freeze_upd (fz := fz) (n := k + 1) q2 (by omega) (q8 rfl)
            have hro : loc.ro = false := by
              cases hr : loc.ro with
              | false => rfl
              | true =>
                obtain ⟨_, _, _, hcell, _⟩ := hh.ro _ _ loc hob hl2 hr
                cases hcell
            refine ⟨_, _, rfl, ρ, .string ⟨bs.toArray⟩, _, hrun, ?_, .of_upd hl2 hro hu, .string _⟩
            refine hh.put hob hl2 hro hu (.cells c e (max fz (k + 1)) false c' fr' q3 q4 q5 q6 (fun i hi1 hi2 => ?_) (fun _ => hfr'))
            omega
    · simp at h
  · simp at h

/-! ### Maps -/
theorem sameNow_key {kd : TypeDesc} {k x x' : Value} {b : Bool} (hb : Instr.sameNow kd k x = some b) (hk : VRel ρ x x') : x' = x := by
  unfold Instr.sameNow at hb
  split at hb <;> first | (cases hk; rfl) | simp at hb

theorem findNow_rel {kd : TypeDesc} {k : Value} {es es' : List MapEntry} (he : All2 (MERel ρ) es es') : ∀ {i : Nat} {r : Option (Nat × Value)}, Instr.findNow kd k es i = some r →
    ∃ r', Instr.findNow kd k es' i = some r' ∧ (match r, r' with | none, none => True | some (j, v), some (j', v') => j' = j ∧ VRel ρ v v' ∧ i ≤ j ∧ ∃ e e', es[j - i]? = some e ∧ es'[j - i]? = some e' ∧ Instr.sameNow kd k e.key = some true ∧ e'.key = e.key | _, _ => False) := by
  induction he with
  | nil => intro i r h; simp only [Instr.findNow, Option.some.injEq] at h; subst h; exact ⟨none, rfl, trivial⟩
  | @cons e e' l m hr _ ih =>
    intro i r h
    unfold Instr.findNow at h
    have hkey : ∀ b, Instr.sameNow kd k e.key = some b → e'.key = e.key := fun b hb => sameNow_key hb hr.key
    split at h
    · rename_i hs
      simp only [Option.some.injEq] at h; subst h
      refine ⟨some (i, e'.val), ?_, rfl, hr.val, Nat.le_refl _, e, e', by simp, by simp, hs, hkey _ hs⟩
      unfold Instr.findNow
      rw [hkey _ hs, hs]
    · rename_i hs
      obtain ⟨r', h1, h2⟩ := ih h
      refine ⟨r', ?_, ?_⟩
      · unfold Instr.findNow
        rw [hkey _ hs, hs]; exact h1
      · cases r with
        | none => cases r' with
          | none => trivial
          | some p => exact h2
        | some p => cases r' with
          | none => exact h2
          | some q =>
            obtain ⟨q1, q2, q3, a, b, q4, q5, q6, q7⟩ := h2
            refine ⟨q1, q2, by omega, a, b, ?_, ?_, q6, q7⟩
            · rw [show p.1 - i = (p.1 - (i + 1)) + 1 by omega]; simpa using q4
            · rw [show p.1 - i = (p.1 - (i + 1)) + 1 by omega]; simpa using q5
    · simp at h

theorem keyOk_rel {kd : TypeDesc} {k k' : Value} (h : keyOk kd k = true) (hk : VRel ρ k k') : k' = k := by
  unfold keyOk at h
  split at h
  · cases hk; rfl
  · cases hk; rfl
  · simp at h

theorem run_checkKey' (hE : E.Ok) {kt : TypeId} {kd : TypeDesc} {k : Value} (hu : und E kt = some kd) (h : keyOk kd k = true) (b : Bool) (d : Nat) : (Instr.checkKey b (d + 1) kt k).run E.P w = .ok () w := by
  unfold keyOk at h
  split at h
  · simp only [Instr.checkKey, Sem.run_bind, run_und w hE hu, Result.andThen_ok]; rfl
  · simp only [Instr.checkKey, Sem.run_bind, run_und w hE hu, Result.andThen_ok]; rfl
  · simp at h

theorem run_checkKey (hE : E.Ok) {kt : TypeId} {kd : TypeDesc} {k : Value} (hu : und E kt = some kd) (h : keyOk kd k = true) (b : Bool) : (Instr.checkKey b 10000 kt k).run E.P w = .ok () w :=
  run_checkKey' hE hu h b 9999

theorem run_findKey (hE : E.Ok) {kt : TypeId} {kd : TypeDesc} {k : Value} {es : List MapEntry} {r : Option (Nat × Value)} (hu : und E kt = some kd) (h : Instr.findNow kd k es 0 = some r) :
    (Instr.findKey kt k es).run E.P w = .ok r w := by
  simp only [Instr.findKey, Sem.run_bind, run_und w hE hu, Result.andThen_ok, h]; rfl

theorem mapOf_rel (hh : HRel E ρ H w) {r clock : Nat} {es : List MapEntry} (h : mapOf H r = some (es, clock)) :
    H.obj r = some (.map es clock) ∧ ∃ loc es', ρ r = some loc ∧ w.heap[loc.blk]? = some (.map ⟨es'⟩ clock) ∧ All2 (MERel ρ) es es' := by
  unfold mapOf at h
  split at h
  · rename_i es2 c2 ho
    simp only [Option.some.injEq, Prod.mk.injEq] at h
    obtain ⟨rfl, rfl⟩ := h
    obtain ⟨loc, o', h1, h2, h3⟩ := hh.live r _ ho
    cases h3 with
    | map _ es' _ h => exact ⟨ho, loc, es', h1, h2, h⟩
  · simp at h

theorem run_getObj {P : Program} {b : Nat} {o : Obj} (h : w.heap[b]? = some o) (hc : ∀ c e f, o ≠ .cells c e f) : (getObj b).run P w = .ok o w := by
  simp only [getObj, Sem.run, h]

theorem run_setObj {P : Program} {b : Nat} {o o' : Obj} (h : w.heap[b]? = some o) (hc : ∀ c e f, o ≠ .cells c e f) :
    (setObj b o').run P w = .ok () { w with heap := w.heap.setIfInBounds b o' } ∧ Upd w { w with heap := w.heap.setIfInBounds b o' } b o' := by
  refine ⟨?_, Upd.setBlock (getElem?_lt h) o' h⟩
  simp only [setObj, Sem.run, h]

theorem entriesOf_rel (hh : HRel E ρ H w) {x x' : Value} {es : List MapEntry} (h : entriesOf H x = some es) (hx : VRel ρ x x') :
    ∃ es', All2 (MERel ρ) es es' ∧ ((x' = .map none ∧ es' = []) ∨ ∃ b clock, x' = .map (some b) ∧ w.heap[b]? = some (.map ⟨es'⟩ clock)) := by
  unfold entriesOf at h
  split at h
  · simp only [Option.some.injEq] at h; subst h
    cases hx
    exact ⟨[], .nil, .inl ⟨rfl, rfl⟩⟩
  · rename_i r
    simp only [Option.map_eq_some_iff] at h
    obtain ⟨⟨es2, clock⟩, hm, rfl⟩ := h
    obtain ⟨_, loc, es', h1, h2, h3⟩ := mapOf_rel hh hm
    cases hx with
    | map _ loc' hl => rw [hl] at h1; cases h1; exact ⟨es', h3, .inr ⟨_, clock, rfl, h2⟩⟩
  · simp at h

theorem aLookup_run (hE : E.Ok) (hh : HRel E ρ H w) {t : TypeId} {x x' k k' : Value} {ok : Bool} {v : Value} (h : aLookup E t x k ok H = some v) (hx : VRel ρ x x') (hk : VRel ρ k k') :
    ValRes E ρ w v H (Instr.lookup t x' k' ok) := by
  unfold aLookup at h
  simp only [Option.bind_eq_some_iff] at h
  obtain ⟨p, hp, z, hz, h⟩ := h
  have h' := bif_some h; clear h; obtain ⟨hko, h⟩ := h'
  simp only [Option.bind_eq_some_iff, Option.map_eq_some_iff] at h
  obtain ⟨es, hes, r, hr, h⟩ := h
  obtain ⟨kt, hu, hkd⟩ := mapTypes_inv hp
  have := keyOk_rel hko hk; subst this
  obtain ⟨es', he, hx'⟩ := entriesOf_rel hh hes hx
  obtain ⟨r', hr', hrr⟩ := findNow_rel he hr
  have hck : ∀ b, (Instr.checkKey b 10000 kt k').run E.P w = .ok () w := fun b => run_checkKey hE hkd hko b
  have hfk := run_findKey (w := w) hE hkd hr'
  have main : ∃ v', (do
      let (v, ok2) ← match r' with
        | some (_, v) => pure (v, true)
        | none => pure (← zeroValue p.2, false)
      pure (if ok then Value.tuple #[v, .bool ok2] else v) : Sem Value).run E.P w = .ok v' w ∧ VRel ρ v v' := by
    cases r with
    | none => cases r' with
      | none =>
        simp only at h; subst h
        refine ⟨_, ?_, okTuple_rel (ok := ok) (b := false) (scalar_refl (hE.zeros _ _ hz))⟩
        simp only [Sem.run_bind, run_zero w hE hz, Result.andThen_ok, Sem.run_pure]
      | some q => exact hrr.elim
    | some q => cases r' with
      | none => exact hrr.elim
      | some q' =>
        obtain ⟨_, hvv, _⟩ := hrr
        simp only at h; subst h
        exact ⟨_, rfl, okTuple_rel (ok := ok) (b := true) hvv⟩
  obtain ⟨v', hm1, hm2⟩ := main
  refine ⟨ρ, v', w, ?_, hh, .refl ρ w, hm2⟩
  rcases hx' with ⟨rfl, rfl⟩ | ⟨b, clock, rfl, hb⟩
  · unfold Instr.lookup
    simp only [Sem.run_bind, run_und w hE hu, Result.andThen_ok, Sem.run_pure, hck]
    have hfk2 : (Instr.findKey kt k' (#[] : Array MapEntry).toList).run E.P w = .ok r' w := hfk
    rw [hfk2]
    simp only [Result.andThen_ok]
    cases r' <;> simpa using hm1
  · unfold Instr.lookup
    have hg := run_getObj (P := E.P) hb (by intro c e f h; cases h)
    simp only [Sem.run_bind, run_und w hE hu, Result.andThen_ok, hg, Sem.run_pure, hck, hfk]
    cases r' <;> simpa using hm1

end mem
end Go.Den

namespace Go.Den
open Go.Lib

/-- The functions without a body that are told are the given ones. -/
def ExtIs (E : Env) (fn : Func) : ExtK → Prop
  | .same => Extern.find fn = some Extern.AbiNoEscape.same
  | .cmpString => Extern.find fn = some Extern.BytealgCompare.compare
  | .mapsClone => Extern.find fn = some Extern.MapsClone.clone
  | .overlaps => ∃ t e n, Extern.find fn = some (Extern.SlicesOverlaps.overlaps fn.params fn.resultTypes) ∧ fn.params[0]? = some t ∧ und E t = some (.slice e) ∧ szOf E e = some n

def ExtOk (E : Env) : Prop :=
  ∀ f k fn, E.ext f = some k → E.P.funcs[f]? = some fn → (fn.name == "runtime.NumGoroutine") = false ∧ Extern.findNext fn = none ∧ ExtIs E fn k

section mem
variable {E : Env} {ρ : Rho} {H : AHeap} {w : World}

theorem HRel.congr {H' : AHeap} (h : HRel E ρ H w) (hn : H'.next = H.next) (ho : ∀ i, H'.obj i = H.obj i) : HRel E ρ H' w :=
  ⟨fun i hi => h.fresh i (hn ▸ hi), fun i o h1 => h.live i o (ho i ▸ h1), fun i j o o' li lj h1 h2 => h.inj i j o o' li lj (ho i ▸ h1) (ho j ▸ h2), fun i o l h1 => h.ro i o l (ho i ▸ h1)⟩

theorem HRel.stay {i : Nat} {loc : Loc} {o : AObj} {w' : World} {o' : Obj} (h : HRel E ρ H w) (ho : H.obj i = some o) (hi : ρ i = some loc) (hro : loc.ro = false)
    (hu : Upd w w' loc.blk o') (hr : ORel E ρ loc o o') : HRel E ρ H w' :=
  (h.put ho hi hro hu hr).congr (by simp) (fun j => by rw [AHeap.obj_put]; split <;> simp_all)

theorem ba_eq (a b : ByteArray) : (a == b) = true ↔ a = b := by
  obtain ⟨a⟩ := a
  obtain ⟨b⟩ := b
  show (a == b) = true ↔ _
  simp

theorem bif_none_else {α : Type} {b : Bool} {x : Option α} {r : α} (h : (bif b then none else x) = some r) : b = false ∧ x = some r := by
  cases b <;> simp_all

theorem sameNow_eq {kd : TypeDesc} {k x : Value} (hk : keyOk kd k = true) (h : Instr.sameNow kd k x = some true) : x = k := by
  unfold keyOk at hk
  split at hk
  · unfold Instr.sameNow at h
    split at h <;> simp_all [ba_eq]
  · unfold Instr.sameNow at h
    split at h <;> simp_all
  · simp at hk

theorem sameBits_self {kd : TypeDesc} {k : Value} (hk : keyOk kd k = true) (n : Nat) : Instr.sameBits n k k = true := by
  unfold keyOk at hk
  split at hk
  · cases n <;> simp [Instr.sameBits, ba_eq]
  · cases n <;> simp [Instr.sameBits]
  · simp at hk

theorem aMapUpdate_run (hE : E.Ok) (hh : HRel E ρ H w) {t : TypeId} {m m' k k' v v' : Value} {H' : AHeap} (h : aMapUpdate E t m k v H = some H') (hm : VRel ρ m m') (hk : VRel ρ k k') (hv : VRel ρ v v') :
    UnitRes E ρ w H' (Instr.mapUpdate t m' k' v') := by
  unfold aMapUpdate at h
  split at h
  · rename_i r
    simp only [Option.bind_eq_some_iff] at h
    obtain ⟨p, hp, ⟨es, clock⟩, hq, h⟩ := h
    have h' := bif_some h; clear h; obtain ⟨hko, h⟩ := h'
    simp only at h
    obtain ⟨kt, hu, hkd⟩ := mapTypes_inv hp
    have := keyOk_rel hko hk; subst this
    obtain ⟨ho, loc, es', h1, h2, h3⟩ := mapOf_rel hh hq
    have hm' : m' = .map (some loc.blk) := by
      cases hm with
      | map _ loc' hl => rw [hl] at h1; cases h1; rfl
    subst hm'
    unfold aMapPut at h
    simp only [Option.bind_eq_some_iff] at h
    obtain ⟨f, hf, h⟩ := h
    obtain ⟨f', hf', hff⟩ := findNow_rel h3 hf
    have hg := run_getObj (P := E.P) h2 (by intro c e f h; cases h)
    have hck := run_checkKey (w := w) hE hkd hko false
    have hfk := run_findKey (w := w) hE hkd hf'
    cases f with
    | none =>
      cases f' with
      | some q => exact hff.elim
      | none =>
        simp only [Option.some.injEq] at h; subst h
        obtain ⟨hs1, hs2⟩ := run_setObj (P := E.P) (o' := .map ((⟨es'⟩ : Array MapEntry).push { key := k', val := v', born := clock }) (clock + 1)) h2 (by intro c e f h; cases h)
        refine ⟨ρ, _, ?_, hh.put ho h1 (hh.notRo ho h1 rfl) hs2 ?_, .of_upd h1 (hh.notRo ho h1 rfl) hs2⟩
        · unfold Instr.mapUpdate
          simp only [Sem.run_bind, run_und w hE hu, Result.andThen_ok, hg, hck, hfk, hs1]
        · have : (⟨es'⟩ : Array MapEntry).push { key := k', val := v', born := clock } = ⟨es' ++ [{ key := k', val := v', born := clock }]⟩ := by simp
          rw [this]
          refine .map _ _ _ (h3.append (.cons ⟨hk, hv, rfl⟩ .nil))
    | some q =>
      cases f' with
      | none => exact hff.elim
      | some q' =>
        obtain ⟨j, x⟩ := q
        obtain ⟨j', x'⟩ := q'
        obtain ⟨rfl, hxx, _, e, e', he, he', hsn, hke⟩ := hff
        simp only [Nat.sub_zero] at he he'
        simp only [Option.map_eq_some_iff] at h
        obtain ⟨e2, he2, rfl⟩ := h
        rw [he] at he2; cases he2
        have hkk := sameNow_eq hko hsn
        have hkt : (Instr.keyThatStays ((((⟨es'⟩ : Array MapEntry)[j']?).map (·.key)).getD k') k').run E.P w = .ok k' w := by
          have : ((((⟨es'⟩ : Array MapEntry)[j']?).map (·.key)).getD k') = k' := by
            simp [he', hke, hkk]
          rw [this]
          unfold Instr.keyThatStays
          rw [sameBits_self hko]; rfl
        obtain ⟨hs1, hs2⟩ := run_setObj (P := E.P) (o' := .map ((⟨es'⟩ : Array MapEntry).modify j' fun e => { e with key := k', val := v' }) clock) h2 (by intro c e f h; cases h)
        refine ⟨ρ, _, ?_, hh.put ho h1 (hh.notRo ho h1 rfl) hs2 ?_, .of_upd h1 (hh.notRo ho h1 rfl) hs2⟩
        · unfold Instr.mapUpdate
          simp only [Sem.run_bind, run_und w hE hu, Result.andThen_ok, hg, hck, hfk, hkt, hs1]
        · have hb : e'.born = e.born := (h3.get' he he').born
          have : (⟨es'⟩ : Array MapEntry).modify j' (fun e => { e with key := k', val := v' }) = ⟨es'.set j' { key := k', val := v', born := e.born }⟩ := by
            apply Array.ext_getElem?
            intro i
            rw [Array.getElem?_modify]
            simp only [List.getElem?_toArray, List.getElem?_set]
            by_cases hi : j' = i
            · subst hi
              have hlt : j' < es'.length := by
                rcases Nat.lt_or_ge j' es'.length with h | h
                · exact h
                · rw [List.getElem?_eq_none h] at he'; cases he'
              have h4 : es'[j'] = e' := by
                have := List.getElem?_eq_getElem hlt
                rw [he'] at this; exact (Option.some.inj this).symm
              simp [hlt, h4, hb]
            · simp [hi]
          rw [this]
          refine .map _ _ _ (h3.set (a := { key := k', val := v, born := e.born }) (b := { key := k', val := v', born := e.born }) ?_ j')
          exact ⟨hk, hv, rfl⟩
  · simp at h

theorem aDelete_run (hE : E.Ok) (hh : HRel E ρ H w) {t : TypeId} {ats : Array TypeId} {ty : TypeId} (hats : ats[0]? = some t) {m m' k k' : Value} {H' : AHeap} (h : aDelete E t m k H = some H') (hm : VRel ρ m m') (hk : VRel ρ k k') :
    ValRes E ρ w (.tuple ⟨[]⟩) H' (Builtin.delete_ ats ty ⟨[m', k']⟩) := by
  unfold aDelete at h
  split at h
  · rename_i r
    simp only [Option.bind_eq_some_iff] at h
    obtain ⟨p, hp, ⟨es, clock⟩, hq, h⟩ := h
    have h' := bif_some h; clear h; obtain ⟨hko, h⟩ := h'
    simp only [Option.map_eq_some_iff] at h
    obtain ⟨f, hf, h⟩ := h
    obtain ⟨kt, hu, hkd⟩ := mapTypes_inv hp
    have := keyOk_rel hko hk; subst this
    obtain ⟨ho, loc, es', h1, h2, h3⟩ := mapOf_rel hh hq
    have hm' : m' = .map (some loc.blk) := by
      cases hm with
      | map _ loc' hl => rw [hl] at h1; cases h1; rfl
    subst hm'
    obtain ⟨f', hf', hff⟩ := findNow_rel h3 hf
    have hg := run_getObj (P := E.P) h2 (by intro c e f h; cases h)
    have hck := fun b => run_checkKey (w := w) hE hkd hko b
    have hfk := run_findKey (w := w) hE hkd hf'
    cases f with
    | none =>
      cases f' with
      | some q => exact hff.elim
      | none =>
        simp only at h; subst h
        obtain ⟨hs1, hs2⟩ := run_setObj (P := E.P) (o' := .map ⟨es'⟩ clock) h2 (by intro c e f h; cases h)
        refine ⟨ρ, .tuple ⟨[]⟩, _, ?_, hh.stay ho h1 (hh.notRo ho h1 rfl) hs2 (.map _ _ _ h3), .of_upd h1 (hh.notRo ho h1 rfl) hs2, VRel.tuple_of .nil⟩
        unfold Builtin.delete_
        simp only [hats, show (⟨[Value.map (some loc.blk), k']⟩ : Array Value)[0]? = some (.map (some loc.blk)) from rfl, show (⟨[Value.map (some loc.blk), k']⟩ : Array Value)[1]? = some k' from rfl, Sem.run_bind, run_und w hE hu, Result.andThen_ok, hg, hck, hfk, hs1]
        rfl
    | some q =>
      cases f' with
      | none => exact hff.elim
      | some q' =>
        obtain ⟨j, x⟩ := q
        obtain ⟨j', x'⟩ := q'
        obtain ⟨rfl, hxx, _, e, e', he, he', hsn, hke⟩ := hff
        simp only at h; subst h
        obtain ⟨hs1, hs2⟩ := run_setObj (P := E.P) (o' := .map ((⟨es'⟩ : Array MapEntry).eraseIdxIfInBounds j') clock) h2 (by intro c e f h; cases h)
        refine ⟨ρ, .tuple ⟨[]⟩, _, ?_, hh.put ho h1 (hh.notRo ho h1 rfl) hs2 ?_, .of_upd h1 (hh.notRo ho h1 rfl) hs2, VRel.tuple_of .nil⟩
        · unfold Builtin.delete_
          simp only [hats, show (⟨[Value.map (some loc.blk), k']⟩ : Array Value)[0]? = some (.map (some loc.blk)) from rfl, show (⟨[Value.map (some loc.blk), k']⟩ : Array Value)[1]? = some k' from rfl, Sem.run_bind, run_und w hE hu, Result.andThen_ok, hg, hck, hfk, hs1]
          rfl
        · have : (⟨es'⟩ : Array MapEntry).eraseIdxIfInBounds j' = ⟨es'.eraseIdx j'⟩ := by
            apply Array.toList_inj.1
            simp
          rw [this]
          exact .map _ _ _ (h3.eraseIdx j')
  · simp at h

theorem eLenMap_run (hE : E.Ok) (hh : HRel E ρ H w) {ats : Array TypeId} {ty : TypeId} {vs vs' : List Value} {n : ANext} (hv : Vs ρ vs vs')
    (h : eLenMap E ats.toList.head? vs H = some n) : ∃ v H', n = .value v H' ∧ ValRes E ρ w v H' (Builtin.len_ ats ty ⟨vs'⟩) := by
  unfold eLenMap at h
  split at h
  · rename_i kt et m hu
    simp only [forceNat_eq, Option.bind_eq_some_iff, Option.some.injEq] at h
    obtain ⟨es, hes, rfl⟩ := h
    simp only [Option.bind_eq_some_iff] at hu
    obtain ⟨t, ht, hu⟩ := hu
    have hats := head?_some ht
    cases hv with
    | @cons _ x' _ l hx hl =>
      cases hl
      obtain ⟨es', he, hx'⟩ := entriesOf_rel hh hes hx
      have hlen := he.length
      refine ⟨_, _, rfl, ρ, .int .i64 es.length, w, ?_, hh, .refl ρ w, .int _ _⟩
      rcases hx' with ⟨rfl, rfl⟩ | ⟨b, clock, rfl, hb⟩
      · unfold Builtin.len_
        simp only [hats, show (⟨[Value.map none]⟩ : Array Value)[0]? = some (.map none) from rfl, Sem.run_bind, run_und w hE hu, Result.andThen_ok]
        rw [hlen]; rfl
      · unfold Builtin.len_
        have hg := run_getObj (P := E.P) hb (by intro c e f h; cases h)
        simp only [hats, show (⟨[Value.map (some b)]⟩ : Array Value)[0]? = some (.map (some b)) from rfl, Sem.run_bind, run_und w hE hu, Result.andThen_ok, hg]
        rw [hlen]; rfl
  · simp at h

/-! ### Iterators -/
theorem eRange_run (hE : E.Ok) (hh : HRel E ρ H w) {t : TypeId} {x x' : Value} {n : ANext} (hx : VRel ρ x x')
    (h : eRange E t x H = some n) : ∃ v H', n = .value v H' ∧ ValRes E ρ w v H' (Instr.range t x') := by
  unfold eRange at h
  split at h
  · rename_i s hu
    simp only [Option.some.injEq] at h; subst h
    cases hx
    obtain ⟨h6, h7⟩ := newObj_rel (o := .strIter s 0) (o' := .stringIter s 0) hh (.strIter _ _)
    refine ⟨_, _, rfl, _, .pointer (some ⟨w.heap.size, 0, none⟩), _, ?_, h6, h7, .ptr _ _ _ (Rho.upd_same _ _ _)⟩
    unfold Instr.range
    simp only [Sem.run_bind, run_und w hE hu, Result.andThen_ok, Sem.run_pure]
    rfl
  · rename_i kt et hu
    simp only [Option.some.injEq] at h; subst h
    cases hx
    obtain ⟨h6, h7⟩ := newObj_rel (o := .mapIter none 0 [] 0) (o' := .mapIter none 0 ⟨[]⟩ 0) hh (.mapIter0 _ _ _)
    refine ⟨_, _, rfl, _, .pointer (some ⟨w.heap.size, 0, none⟩), _, ?_, h6, h7, .ptr _ _ _ (Rho.upd_same _ _ _)⟩
    unfold Instr.range
    simp only [Sem.run_bind, run_und w hE hu, Result.andThen_ok, Sem.run_pure]
    rfl
  · rename_i kt et m hu
    simp only [Option.map_eq_some_iff] at h
    obtain ⟨⟨es, clock⟩, hq, rfl⟩ := h
    obtain ⟨ho, loc, es', h1, h2, h3⟩ := mapOf_rel hh hq
    cases hx with
    | map _ loc' hl =>
      rw [hl] at h1; cases h1
      obtain ⟨h6, h7⟩ := newObj_rel (o := .mapIter (some m) clock [] clock) (o' := .mapIter (some loc.blk) clock ⟨[]⟩ clock) hh (.mapIter _ _ hl _ _ _)
      have hg := run_getObj (P := E.P) h2 (by intro c e f h; cases h)
      refine ⟨_, _, rfl, _, .pointer (some ⟨w.heap.size, 0, none⟩), _, ?_, h6, h7, .ptr _ _ _ (Rho.upd_same _ _ _)⟩
      unfold Instr.range
      simp only [Sem.run_bind, run_und w hE hu, Result.andThen_ok, hg, Sem.run_pure]
      rfl
  · simp at h

theorem iterAt_rel {it it' : Value} {r : Nat} {o : AObj} (hh : HRel E ρ H w) (h : iterAt it H = some (r, o)) (hi : VRel ρ it it') :
    ∃ loc o', it' = .pointer (some ⟨loc.blk, 0, none⟩) ∧ ρ r = some loc ∧ H.obj r = some o ∧ w.heap[loc.blk]? = some o' ∧ ORel E ρ loc o o' := by
  unfold iterAt at h
  split at h
  · rename_i b
    simp only [Option.map_eq_some_iff, Prod.mk.injEq] at h
    obtain ⟨o2, ho, rfl, rfl⟩ := h
    obtain ⟨loc, o', h1, h2, h3⟩ := hh.live _ _ ho
    cases hi with
    | ptr _ _ loc' hl =>
      rw [hl] at h1; cases h1
      exact ⟨loc, o', rfl, hl, ho, h2, h3⟩
  · simp at h

theorem filter_rel {seen : List Nat} {es es' : List MapEntry} (h : All2 (MERel ρ) es es') :
    All2 (MERel ρ) (es.filter fun e => !seen.contains e.born) (es'.filter fun e => !seen.contains e.born) := by
  induction h with
  | nil => exact .nil
  | @cons a b l m hab _ ih =>
    simp only [List.filter_cons, hab.born]
    split
    · exact .cons hab ih
    · exact ih

theorem all_born {es es' : List MapEntry} (h : All2 (MERel ρ) es es') (last : Nat) : (es'.all fun e => decide (e.born ≥ last)) = es.all fun e => Nat.ble last e.born := by
  induction h with
  | nil => rfl
  | @cons a b l m hab _ ih =>
    simp only [List.all_cons, ih, hab.born]
    congr 1
    by_cases h : last ≤ a.born
    · rw [Nat.ble_eq_true_of_le h]; simp [h]
    · have : Nat.ble last a.born = false := by
        cases hb : Nat.ble last a.born with
        | false => rfl
        | true => exact absurd (Nat.le_of_ble_eq_true hb) h
      rw [this]; simp [h]

theorem aNextIt_run (hh : HRel E ρ H w) {it it' : Value} {s : Bool} {ty : TypeId} {v : Value} {H' : AHeap} (hi : VRel ρ it it') (h : aNextIt it s H = some (v, H')) :
    ValRes E ρ w v H' (Instr.next it' s ty) := by
  unfold aNextIt at h
  simp only [Option.bind_eq_some_iff] at h
  obtain ⟨⟨r, o⟩, hp, h⟩ := h
  obtain ⟨loc, o', rfl, h1, h2, h3, h4⟩ := iterAt_rel hh hp hi
  simp only at h
  split at h
  · rename_i st pos
    cases h4
    have hg := run_getObj (P := E.P) h3 (by intro c e f h; cases h)
    simp only [Option.some.injEq, strNext] at h
    have hlen : st.data.toList.length = st.size := Array.length_toList
    rw [hlen] at h
    by_cases hlt : pos < st.size
    · rw [blt_mk hlt] at h
      simp only [cond_true, Prod.mk.injEq, forceNat_eq] at h
      obtain ⟨rfl, rfl⟩ := h
      obtain ⟨hs1, hs2⟩ := run_setObj (P := E.P) (o' := .stringIter st (pos + (Utf8.decode st pos).2)) h3 (by intro c e f h; cases h)
      refine ⟨ρ, .tuple ⟨[.bool true, .int .i64 pos, .int .i32 (Utf8.decode st pos).1]⟩, _, ?_, hh.put h2 h1 (hh.notRo h2 h1 rfl) hs2 (.strIter _ _), .of_upd h1 (hh.notRo h2 h1 rfl) hs2, VRel.tuple_of (.cons (.bool _) (.cons (.int _ _) (.cons (.int _ _) .nil)))⟩
      unfold Instr.next
      simp only [Sem.run_bind, hg, Result.andThen_ok, hlt, if_true, hs1, Sem.run_pure]
      rfl
    · have : Nat.blt pos st.size = false := by
        cases hb : Nat.blt pos st.size with
        | false => rfl
        | true => exact absurd (blt_inv hb) hlt
      rw [this] at h
      simp only [cond_false, Prod.mk.injEq] at h
      obtain ⟨rfl, rfl⟩ := h
      refine ⟨ρ, .tuple ⟨[.bool false]⟩, _, ?_, hh, .refl ρ w, VRel.tuple_of (.cons (.bool _) .nil)⟩
      unfold Instr.next
      simp only [Sem.run_bind, hg, Result.andThen_ok, hlt, if_false, Sem.run_pure]
  · rename_i since seen last
    cases h4
    have hg := run_getObj (P := E.P) h3 (by intro c e f h; cases h)
    simp only [Option.some.injEq, Prod.mk.injEq] at h
    obtain ⟨rfl, rfl⟩ := h
    refine ⟨ρ, .tuple ⟨[.bool false]⟩, _, ?_, hh, .refl ρ w, VRel.tuple_of (.cons (.bool _) .nil)⟩
    unfold Instr.next
    simp only [Sem.run_bind, hg, Result.andThen_ok, Sem.run_pure]
  · rename_i m since seen last
    cases h4 with
    | mapIter _ lm hlm _ _ _ =>
      have hg := run_getObj (P := E.P) h3 (by intro c e f h; cases h)
      simp only [Option.bind_eq_some_iff] at h
      obtain ⟨⟨es, clock⟩, hq, h⟩ := h
      obtain ⟨ho, lm', es', k1, k2, k3⟩ := mapOf_rel hh hq
      rw [hlm] at k1; cases k1
      have hgm := run_getObj (P := E.P) k2 (by intro c e f h; cases h)
      unfold mapNext at h
      have h' := bif_none_else h; clear h; obtain ⟨hc, h⟩ := h'
      have hcond : (!(⟨seen⟩ : Array Nat).isEmpty && !(⟨es'⟩ : Array MapEntry).isEmpty && (⟨es'⟩ : Array MapEntry).all (fun e => decide (e.born ≥ last))) = false := by
        have e1 : (⟨seen⟩ : Array Nat).isEmpty = seen.isEmpty := by simp
        have e2 : (⟨es'⟩ : Array MapEntry).isEmpty = es.isEmpty := by
          have := k3.length
          cases es <;> cases es' <;> simp_all
        have e3 : (⟨es'⟩ : Array MapEntry).all (fun e => decide (e.born ≥ last)) = es.all fun e => Nat.ble last e.born := by
          rw [← all_born k3 last]; simp
        rw [e1, e2, e3]; exact hc
      have hfil := filter_rel (seen := seen) k3
      have harr : (⟨es'⟩ : Array MapEntry).filter (fun e => !(⟨seen⟩ : Array Nat).contains e.born) = ⟨es'.filter fun e => !seen.contains e.born⟩ := by
        apply Array.toList_inj.1
        simp
      split at h
      · rename_i hnil
        simp only [Option.some.injEq, Prod.mk.injEq] at h
        obtain ⟨rfl, rfl⟩ := h
        rw [hnil] at hfil
        have hn' : (es'.filter fun e => !seen.contains e.born) = [] := by
          cases hx : (es'.filter fun e => !seen.contains e.born) with
          | nil => rfl
          | cons a b => rw [hx] at hfil; cases hfil
        refine ⟨ρ, .tuple ⟨[.bool false]⟩, _, ?_, hh, .refl ρ w, VRel.tuple_of (.cons (.bool _) .nil)⟩
        unfold Instr.next
        have hemp : ∀ p : MapEntry → Bool, (⟨[]⟩ : Array MapEntry).filter p = #[] := fun p => by apply Array.toList_inj.1; simp
        simp only [Sem.run_bind, hg, Result.andThen_ok, hgm, hcond, harr, hn', Bool.false_eq_true, if_false, hemp]
        have hcand : ((if (#[] : Array MapEntry).isEmpty = true then #[none] else #[]) ++ Array.map some (#[] ++ #[])) = (#[none] : Array (Option MapEntry)) := by simp
        simp only [hcand]
        show (((choose (.mapNext 1)).run E.P w).andThen _) = _
        have hf : (Question.mapNext 1).forced = true := rfl
        simp only [run_choose, hf, if_true, Result.andThen_ok]
        rfl
      · rename_i e hone
        have h' := bif_some h; clear h; obtain ⟨hb, h⟩ := h'
        have hb := blt_inv hb
        simp only [Option.some.injEq, Prod.mk.injEq] at h
        obtain ⟨rfl, rfl⟩ := h
        rw [hone] at hfil
        obtain ⟨e', hn', hee⟩ : ∃ e', (es'.filter fun e => !seen.contains e.born) = [e'] ∧ MERel ρ e e' := by
          cases hx : (es'.filter fun e => !seen.contains e.born) with
          | nil => rw [hx] at hfil; cases hfil
          | cons a b =>
            rw [hx] at hfil
            cases hfil with
            | cons h1 h2 => cases h2; exact ⟨a, rfl, h1⟩
        have hb' : e'.born < since := by rw [hee.born]; exact hb
        obtain ⟨hs1, hs2⟩ := run_setObj (P := E.P) (o' := .mapIter (some lm.blk) since ((⟨seen⟩ : Array Nat).push e'.born) clock) h3 (by intro c e f h; cases h)
        refine ⟨ρ, .tuple ⟨[.bool true, e'.key, e'.val]⟩, _, ?_, hh.put h2 h1 (hh.notRo h2 h1 rfl) hs2 ?_, .of_upd h1 (hh.notRo h2 h1 rfl) hs2, VRel.tuple_of (.cons (.bool _) (.cons hee.key (.cons hee.val .nil)))⟩
        · unfold Instr.next
          have hold : (⟨[e']⟩ : Array MapEntry).filter (fun e => decide (e.born < since)) = #[e'] := by simp [hb']
          have hnew : (⟨[e']⟩ : Array MapEntry).filter (fun e => decide (e.born ≥ since)) = #[] := by
            have : ¬ (e'.born ≥ since) := by omega
            simp [this]
            try omega
          simp only [Sem.run_bind, hg, Result.andThen_ok, hgm, hcond, harr, hn', hold, hnew, Bool.false_eq_true, if_false]
          have hcand : ((if (#[e'] : Array MapEntry).isEmpty = true then #[none] else #[]) ++ Array.map some (#[e'] ++ #[])) = (#[some e'] : Array (Option MapEntry)) := by simp
          simp only [hcand]
          show (((choose (.mapNext 1)).run E.P w).andThen _) = _
          have hf : (Question.mapNext 1).forced = true := rfl
          simp only [run_choose, hf, if_true, Result.andThen_ok]
          show ((Sem.run _ (do setObj loc.blk (.mapIter (some lm.blk) since ((⟨seen⟩ : Array Nat).push e'.born) clock); pure (Value.tuple #[.bool true, e'.key, e'.val])) w)) = _
          simp only [Sem.run_bind, hs1, Result.andThen_ok, Sem.run_pure]
        · have : (⟨seen⟩ : Array Nat).push e'.born = ⟨seen ++ [e.born]⟩ := by simp [hee.born]
          rw [this]
          exact .mapIter _ _ hlm _ _ _
      · simp at h
  · simp at h

end mem
end Go.Den

namespace Go.Den
open Go.Lib

section mem
variable {E : Env} {ρ : Rho} {H : AHeap} {w : World}

theorem find_rel {es es' : List MapEntry} (h : All2 (MERel ρ) es es') (stamp : Nat) {e : MapEntry} (hf : es.find? (fun e => Nat.beq e.born stamp) = some e) :
    ∃ e', es'.find? (fun e => e.born == stamp) = some e' ∧ MERel ρ e e' := by
  induction h with
  | nil => simp at hf
  | @cons a b l m hab _ ih =>
    simp only [List.find?_cons] at hf ⊢
    have : (b.born == stamp) = Nat.beq a.born stamp := by
      rw [hab.born]
      cases hb : Nat.beq a.born stamp with
      | true => simp [beq_inv hb]
      | false => simp [beq_ne hb]
    rw [this]
    cases hb : Nat.beq a.born stamp with
    | true =>
      simp only [hb, Option.some.injEq] at hf ⊢
      subst hf
      exact ⟨b, rfl, hab⟩
    | false =>
      simp only [hb] at hf ⊢
      exact ih hf

theorem arr_append (a b : List Value) : (⟨a⟩ ++ ⟨b⟩ : Array Value) = ⟨a ++ b⟩ := by simp

theorem aEntry_run (hh : HRel E ρ H w) {it it' : Value} {v : Value} (hi : VRel ρ it it') (h : aEntry it H = some v) :
    ValRes E ρ w v H (Instr.entry it') := by
  unfold aEntry at h
  simp only [Option.bind_eq_some_iff] at h
  obtain ⟨⟨r, o⟩, hp, h⟩ := h
  obtain ⟨loc, o', rfl, h1, h2, h3, h4⟩ := iterAt_rel hh hp hi
  simp only at h
  split at h
  · rename_i m since seen stepped
    cases h4 with
    | mapIter _ lm hlm _ _ _ =>
      have hg := run_getObj (P := E.P) h3 (by intro c e f h; cases h)
      simp only [Option.bind_eq_some_iff] at h
      obtain ⟨⟨es, clock⟩, hq, stamp, hst, h⟩ := h
      obtain ⟨ho, lm', es', k1, k2, k3⟩ := mapOf_rel hh hq
      rw [hlm] at k1; cases k1
      have hgm := run_getObj (P := E.P) k2 (by intro c e f h; cases h)
      have h' := bif_some h; clear h; obtain ⟨hc, h⟩ := h'
      have hc := beq_inv hc
      simp only at hc; subst hc
      simp only [Option.map_eq_some_iff] at h
      obtain ⟨e, he, rfl⟩ := h
      obtain ⟨e', he', hee⟩ := find_rel k3 stamp he
      refine ⟨ρ, .tuple ⟨[e'.key, e'.val]⟩, w, ?_, hh, .refl ρ w, VRel.tuple_of (.cons hee.key (.cons hee.val .nil))⟩
      unfold Instr.entry
      have hb : (⟨seen⟩ : Array Nat).back? = some stamp := by
        rw [← hst]; simp
      have hfi : (⟨es'⟩ : Array MapEntry).find? (fun e => e.born == stamp) = some e' := by
        rw [← he']; simp
      have hne : (clock != clock) = false := by simp
      simp only [Sem.run_bind, hg, Result.andThen_ok, hb, hgm, hne, Bool.false_eq_true, if_false, hfi]
      rfl
  · simp at h

/-! ### Calls -/
theorem run_callFunc {f : FuncId} {fn : Func} {args : Array Value} (hf : E.P.funcs[f]? = some fn) (hn : (fn.name == "runtime.NumGoroutine") = false) :
    (callFunc f args).run E.P w = (if fn.body.isNone then (do
      mark (.extern f)
      if let some e := Extern.findNext fn then return ← e args
      match Extern.find fn with
      | some e => pure (.value (← e args))
      | none =>
        if fn.name.endsWith ".init" && !fn.name.startsWith "(" && !fn.name.startsWith "gosem." then pure (.value (.tuple #[]))
        else unsupported (.extern fn.name) : Sem Next) else pure (.enter f args)).run E.P w := by
  unfold callFunc
  simp only [Sem.run_bind, run_program, Result.andThen_ok, hf, hn, Bool.false_eq_true, if_false]
  rfl

theorem run_extern {f : FuncId} {fn : Func} {args : Array Value} {e : Array Value → Sem Value} (hf : E.P.funcs[f]? = some fn) (hn : (fn.name == "runtime.NumGoroutine") = false)
    (hb : fn.body = none) (h1 : Extern.findNext fn = none) (h2 : Extern.find fn = some e) :
    (callFunc f args).run E.P w = (do pure (Next.value (← e args)) : Sem Next).run E.P w := by
  rw [run_callFunc hf hn]
  simp only [hb, Option.isNone_none, if_true, h1, h2]
  rfl

theorem aExt_run (hE : E.Ok) (hx : ExtOk E) (hh : HRel E ρ H w) {f : FuncId} {fn : Func} {k : ExtK} {args args' : List Value} {n : ANext}
    (hf : E.P.funcs[f]? = some fn) (hb : fn.body = none) (hk : E.ext f = some k) (ha : Vs ρ args args') (h : aExt k args H = some n) : OpRes E ρ w n ((callFunc f ⟨args'⟩).run E.P w) := by
  obtain ⟨h1, h2, h3⟩ := hx f k fn hk hf
  have fin : ∀ {v : Value} {H' : AHeap} {e : Array Value → Sem Value}, Extern.find fn = some e → ValRes E ρ w v H' (e ⟨args'⟩) → OpRes E ρ w (.value v H') ((callFunc f ⟨args'⟩).run E.P w) := by
    intro v H' e he hr
    rw [run_extern hf h1 hb h2 he]
    exact hr.op
  unfold aExt at h
  split at h
  · simp only [Option.some.injEq] at h; subst h
    cases ha with
    | @cons _ x' _ l hx hl =>
      cases hl
      exact fin h3 ⟨ρ, x', w, rfl, hh, .refl ρ w, hx⟩
  · simp only [forceInt_eq, Option.some.injEq] at h; subst h
    cases ha with
    | @cons _ x' _ l hx hl =>
      cases hl with
      | @cons _ y' _ l2 hy hl2 =>
        cases hl2; cases hx; cases hy
        exact fin h3 ⟨ρ, _, w, rfl, hh, .refl ρ w, .int _ _⟩
  · rename_i t r
    simp only [Option.map_eq_some_iff] at h
    obtain ⟨⟨es, clock⟩, hq, rfl⟩ := h
    obtain ⟨ho, loc, es', k1, k2, k3⟩ := mapOf_rel hh hq
    have hg := run_getObj (P := E.P) k2 (by intro c e f h; cases h)
    cases ha with
    | @cons _ x' _ l hx hl =>
      cases hl
      cases hx with
      | iface _ _ v' hv =>
        cases hv with
        | map _ loc' hl =>
          rw [hl] at k1; cases k1
          obtain ⟨h6, h7⟩ := newObj_rel (o := .map es clock) (o' := .map ⟨es'⟩ clock) hh (.map _ _ _ k3)
          refine fin h3 ⟨_, .iface t (.map (some w.heap.size)), _, ?_, h6, h7, .iface _ _ _ (.map _ _ (Rho.upd_same _ _ _))⟩
          show ((do
            let .map entries clock ← getObj loc.blk | stuck "maps.clone: a map expected"
            pure (.iface t (.map (some (← newObj (.map entries clock))))) : Sem Value).run E.P w) = _
          simp only [Sem.run_bind, hg, Result.andThen_ok]
          rfl
  · rename_i a la ca b lb cb
    have h' := bif_some h; clear h; obtain ⟨hc, h⟩ := h'
    simp only [Option.some.injEq] at h; subst h
    obtain ⟨t, e, sz, h3, hp, hu, hsz⟩ := h3
    have slice_opt : ∀ {a : Option Addr} {l c : Nat} {x' : Value}, VRel ρ (.slice a l c) x' → ∃ a' c', x' = .slice a' l c' ∧ (a.isNone = true → a' = none) := by
      intro a l c x' hx
      cases hx <;> exact ⟨_, _, rfl, by simp⟩
    cases ha with
    | @cons _ x' _ l hx hl =>
      cases hl with
      | @cons _ y' _ l2 hy hl2 =>
        cases hl2
        obtain ⟨a', ca', rfl, ha'⟩ := slice_opt hx
        obtain ⟨b', cb', rfl, hb'⟩ := slice_opt hy
        refine fin h3 ⟨ρ, .bool false, w, ?_, hh, .refl ρ w, .bool _⟩
        have e0 : ∀ (ps rs : Array TypeId), Extern.SlicesOverlaps.overlaps ps rs ⟨[.slice a' la ca', .slice b' lb cb']⟩ = (do
            let some t := ps[0]? | stuck "slices.overlaps: no parameter types"
            let .slice elem ← underlying t | stuck "slices.overlaps: slice type expected"
            let size ← sizeOf elem
            match a', b' with
            | some a, some b =>
              if la = 0 ∨ lb = 0 ∨ size = 0 then pure (.bool false)
              else if a.block != b.block && (← frozen a) && (← frozen b) then unsupported .addressObserved
              else do
                if a.block != b.block then do
                  noView a; noView b
                  if ← mayBeOne a b then return .bool ((← choose (.extern "sameAddr.stringBytes" 2)) == 1)
                pure (.bool (a.block == b.block && a.off < b.off + lb * size && b.off < a.off + la * size))
            | _, _ => pure (.bool false) : Sem Value) := fun _ _ => rfl
        rw [e0]
        simp only [Sem.run_bind, hp, run_und w hE hu, Result.andThen_ok, run_size w hE hsz]
        simp only [Bool.or_eq_true] at hc
        rcases hc with ((hc | hc) | hc) | hc
        · rw [ha' hc]; rfl
        · rw [hb' hc]; cases a' <;> rfl
        · have := beq_inv hc; subst this
          cases a' <;> cases b' <;> simp
        · have := beq_inv hc; subst this
          cases a' <;> cases b' <;> simp
  · simp at h

theorem aCallF_run (hE : E.Ok) (hx : ExtOk E) (hh : HRel E ρ H w) {f : FuncId} {args args' : List Value} {n : ANext} (ha : Vs ρ args args')
    (h : aCallF E f args H = some n) : OpRes E ρ w n ((callFunc f ⟨args'⟩).run E.P w) := by
  unfold aCallF at h
  simp only [Option.bind_eq_some_iff] at h
  obtain ⟨fn, hf, h⟩ := h
  have hf := hE.fns f fn hf
  unfold aCallFn at h
  split at h
  · rename_i c hb
    obtain ⟨hn, h⟩ := bif_none_else h
    simp only [Option.some.injEq] at h; subst h
    rw [run_callFunc hf hn]
    simp only [hb, Option.isNone_some, Bool.false_eq_true, if_false, Sem.run_pure]
    exact .enter ρ f args H args' w hh (.refl ρ w) ha
  · rename_i hb
    simp only [Option.bind_eq_some_iff] at h
    obtain ⟨k, hk, h⟩ := h
    exact aExt_run hE hx hh hf hb hk ha h

theorem aCall_run (hE : E.Ok) (hx : ExtOk E) (hh : HRel E ρ H w) {fv fv' : Value} {args args' : List Value} {n : ANext} (hf : VRel ρ fv fv') (ha : Vs ρ args args')
    (h : aCall E fv args H = some n) : OpRes E ρ w n ((do let d ← Deferred.ofValue fv' ⟨args'⟩; invoke d.target d.args : Sem Next).run E.P w) := by
  unfold aCall at h
  split at h
  · rename_i f first captured
    cases hf with
    | func fn fn' a a' c c' hfn la lc ra rc =>
      cases hfn
      have h1 : Vs ρ a a' := All2.of_get la ra
      have h2 : Vs ρ c c' := All2.of_get lc rc
      have := aCallF_run hE hx hh (h1.append (ha.append h2)) h
      rw [← List.append_assoc] at this
      show OpRes E ρ w n ((callFunc f ((⟨a'⟩ ++ ⟨args'⟩) ++ ⟨c'⟩)).run E.P w)
      rw [arr_append, arr_append]
      exact this
  · rename_i l first captured
    cases hf with
    | func fn fn' a a' c c' hfn la lc ra rc =>
      cases hfn with
      | yield _ loc hl =>
        have h1 : Vs ρ a a' := All2.of_get la ra
        simp only [Option.some.injEq] at h; subst h
        have := OpRes.round (E := E) (w0 := w) l (a ++ args) H loc (a' ++ args') hh hl (h1.append ha)
        show OpRes E ρ w _ ((Instr.yield loc.blk (⟨a'⟩ ++ ⟨args'⟩)).run E.P w)
        rw [arr_append]
        exact this
  · simp at h

theorem eDefer_run (hh : HRel E ρ H w) {av σ : Operand → Value} (ho : Ops ρ av σ) {c : Call} {ty : TypeId} {n : ANext}
    (h : eDefer av c H = some n) : OpRes E ρ w n ((do pure (Next.defer (← resolve σ c ty)) : Sem Next).run E.P w) := by
  unfold eDefer at h
  split at h
  · rename_i f hc
    split at h
    · rename_i fn first captured hfv
      simp only [Option.some.injEq] at h; subst h
      have hf := ho f
      rw [hfv] at hf
      generalize hσ : σ f = fv' at hf
      cases hf with
      | func fn fn' a a' c1 c' hfn la lc ra rc =>
        have h1 : Vs ρ a a' := All2.of_get la ra
        have h2 : Vs ρ c1 c' := All2.of_get lc rc
        have hrun : (do pure (Next.defer (← resolve σ c ty)) : Sem Next).run E.P w = .ok (.defer { target := .fn fn' ⟨c'⟩, args := ⟨a' ++ c.args.toList.map σ⟩ }) w := by
          unfold resolve
          simp only [hc, hσ, ho.array]
          rw [← arr_append]
          rfl
        rw [hrun]
        exact .defer ρ _ H _ w hh (.refl ρ w) ⟨.fn _ _ _ _ hfn h2, h1.append (ho.list _)⟩
    · simp at h
  · simp at h

theorem ePanic_run (hh : HRel E ρ H w) {x x' : Value} {n : ANext} (hx : VRel ρ x x') (h : ePanic x H = some n) :
    OpRes E ρ w n ((do pure (Next.value (← Instr.panic x')) : Sem Next).run E.P w) := by
  unfold ePanic at h
  split at h
  · simp only [Option.some.injEq] at h; subst h
    cases hx with
    | iface t _ v' hv =>
      exact .panic ρ _ H (.iface _ v') w hh (.refl ρ w) (.iface _ _ _ hv)
  · simp at h

theorem aAppend_run (hE : E.Ok) (hh : HRel E ρ H w) {ats : Array TypeId} {ty : TypeId} {vs vs' : List Value} {r : Value} {H' : AHeap} (hv : Vs ρ vs vs')
    (h : aAppend E ats.toList vs H = some (r, H')) : ValRes E ρ w r H' (Builtin.append_ ats ty ⟨vs'⟩) := by
  unfold aAppend at h
  split at h
  · rename_i st xt base len cap x hats
    have e : ats = #[st, xt] := Array.toList_inj.1 hats
    subst e
    split at h
    · rename_i e hst
      unfold aAppendE at h
      simp only [Option.bind_eq_some_iff] at h
      obtain ⟨sz, hsz, bytes, hb, z, hz, xd, hxt, h⟩ := h
      have h' := bif_some h; clear h; obtain ⟨hzl, h⟩ := h'
      simp only [Option.bind_eq_some_iff] at h
      obtain ⟨⟨n, new⟩, hap, h⟩ := h
      cases hv with
      | @cons _ v' _ l hv hl =>
        cases hl with
        | @cons _ x' _ l2 hx hl2 =>
          cases hl2
          exact appendTo_run hE hh hst hxt hsz hb hz (beq_inv hzl) hap hx hv h
    · simp at h
  · simp at h

theorem eBuiltin_run (hE : E.Ok) (hh : HRel E ρ H w) {b : Builtin} {ats : Array TypeId} {ty : TypeId} {cs : Array Bool} {vs vs' : List Value} {n : ANext} (hv : Vs ρ vs vs')
    (h : eBuiltin E b ats.toList vs H = some n) : OpRes E ρ w n ((builtin b ats ty cs ⟨vs'⟩).run E.P w) := by
  have fin : ∀ {n : ANext} {s : Sem Value}, (∃ v H', n = .value v H' ∧ ValRes E ρ w v H' s) → OpRes E ρ w n ((do pure (Next.value (← s)) : Sem Next).run E.P w) := by
    rintro n s ⟨v, H', rfl, hr⟩
    exact hr.op
  unfold eBuiltin at h
  split at h
  · simp only [value2, Option.map_eq_some_iff] at h
    obtain ⟨⟨r, H'⟩, hr, rfl⟩ := h
    exact (aAppend_run hE hh hv hr).op
  · simp only [value2, Option.map_eq_some_iff] at h
    obtain ⟨⟨r, H'⟩, hr, rfl⟩ := h
    exact (aCopy_run hE hh hv hr).op
  · split at h
    · rename_i t rest m k hats
      simp only [Option.map_eq_some_iff] at h
      obtain ⟨H', hd, rfl⟩ := h
      have h0 : ats[0]? = some t := by
        rw [← Array.getElem?_toList, hats]; rfl
      cases hv with
      | @cons _ m' _ l hm hl =>
        cases hl with
        | @cons _ k' _ l2 hk hl2 =>
          cases hl2
          exact (aDelete_run hE hh h0 hd hm hk).op
    · simp at h
  · exact fin (eLenMap_run hE hh hv h)
  · exact fin (eClear_run hE hh hv h)
  · simp only [Option.some.injEq] at h; subst h
    exact .recover H hh
  · exact fin (eSliceData_run hh hv h)
  · exact fin (eUnsafeString_run hE hh hv h)
  · simp at h

theorem eCall_run (hE : E.Ok) (hx : ExtOk E) (hh : HRel E ρ H w) {av σ : Operand → Value} (ho : Ops ρ av σ) {c : Call} {ty : TypeId} {n : ANext}
    (h : eCall E av c H = some n) : OpRes E ρ w n ((do let d ← resolve σ c ty; invoke d.target d.args : Sem Next).run E.P w) := by
  unfold eCall at h
  split at h
  · rename_i f hc
    have := aCall_run hE hx hh (ho f) (ho.list c.args.toList) h
    unfold resolve
    simp only [hc, ho.array]
    exact this
  · rename_i b hc
    have := eBuiltin_run (ty := ty) (cs := c.args.map fun | .const _ => true | _ => false) hE hh (ho.list c.args.toList) h
    unfold resolve
    simp only [hc, ho.array]
    exact this
  · simp at h

/-- All operations on memory, calls, panics. -/
theorem eff_run (hE : E.Ok) (hx : ExtOk E) (hh : HRel E ρ H w) {av σ : Operand → Value} (ho : Ops ρ av σ) {o : Oper} {n : ANext} (h : effOp E av o H = some n) :
    OpRes E ρ w n ((execOp σ o).run E.P w) := by
  obtain ⟨dst, op, type, pos, after, guard⟩ := o
  have fin : ∀ {n : ANext} {s : Sem Value}, (∃ v H', n = .value v H' ∧ ValRes E ρ w v H' s) → OpRes E ρ w n ((do pure (Next.value (← s)) : Sem Next).run E.P w) := by
    rintro n s ⟨v, H', rfl, hr⟩
    exact hr.op
  have fin1 : ∀ {r : Option Value} {H' : AHeap} {n : ANext} {s : Sem Value}, value1 H' r = some n → (∀ v, r = some v → ValRes E ρ w v H' s) → OpRes E ρ w n ((do pure (Next.value (← s)) : Sem Next).run E.P w) := by
    intro r H' n s h1 h2
    simp only [value1, Option.map_eq_some_iff] at h1
    obtain ⟨v, hv, rfl⟩ := h1
    exact (h2 v hv).op
  have find1 : ∀ {r : Option AHeap} {n : ANext} {s : Sem Unit}, done1 r = some n → (∀ H', r = some H' → UnitRes E ρ w H' s) → OpRes E ρ w n ((do s; pure Next.skip : Sem Next).run E.P w) := by
    intro r n s h1 h2
    simp only [done1, Option.map_eq_some_iff] at h1
    obtain ⟨v, hv, rfl⟩ := h1
    exact (h2 v hv).op
  unfold effOp at h
  cases op <;> simp only at h
  case load t a => exact fin1 h fun v hv => eLoad_run hE hh (ho a) hv
  case store t a x => exact find1 h fun H' hH => eStore_run hE hh (ho a) (ho x) hH
  case alloc t =>
    unfold eAlloc at h
    simp only [Option.map_eq_some_iff] at h
    obtain ⟨z, hz, rfl⟩ := h
    exact (eAlloc_run hE hh hz).op
  case box t x =>
    unfold eBox at h
    obtain ⟨h1, h⟩ := bif_some h
    simp only [Option.some.injEq] at h; subst h
    exact (eBox_run hh (ho x) h1).op
  case buildSlice t len parts =>
    have hp : All2 (PRel ρ) (parts.toList.map fun p => (p.1, av p.2)) (parts.toList.map fun p => (p.1, σ p.2)) := All2.map_same fun x _ => ⟨rfl, ho x.2⟩
    have := fin (eBuildSlice_run hE hh hp h)
    have e : (parts.map fun (i, x) => (i, σ x)) = ⟨parts.toList.map fun p => (p.1, σ p.2)⟩ := by
      apply Array.toList_inj.1; simp
    unfold execOp
    simp only [e]
    exact this
  case makeMap t r => exact fin (eMakeMap_run hE hh (ho.opt r) h)
  case makeSlice t l c => exact fin (eMakeSlice_run hE hh (ho l) (ho c) h)
  case lookup t x k ok => exact fin1 h fun v hv => aLookup_run hE hh hv (ho x) (ho k)
  case mapUpdate t m k v => exact find1 h fun H' hH => aMapUpdate_run hE hh hH (ho m) (ho k) (ho v)
  case range t x => exact fin (eRange_run hE hh (ho x) h)
  case next it s =>
    simp only [value2, Option.map_eq_some_iff] at h
    obtain ⟨⟨r, H'⟩, hr, rfl⟩ := h
    exact (aNextIt_run hh (ho it) hr).op
  case entry it => exact fin1 h fun v hv => aEntry_run hh (ho it) hv
  case convert src dst x => exact fin (eConvert_run hE hh (ho x) h)
  case call c => exact eCall_run hE hx hh ho h
  case defer c => exact eDefer_run hh ho h
  case panic x => exact ePanic_run hh (ho x) h
  all_goals simp at h

end mem
end Go.Den

namespace Go.Den

/-! ### What comes ahead of an operation -/
def bStep (acc : Array Nat) (s : Nat) (e : Edge) : Nat := if Region.binds .any e then s ||| 2 ^ e.on ||| acc.getD e.on 0 else s
def bOf (acc : Array Nat) (o : Oper) : Nat := o.after.toList.foldl (bStep acc) 0

theorem bits_foldl (acc : Array Nat) (j : Nat) : ∀ (l : List Edge) (s : Nat),
    ((l.foldl (bStep acc) s).testBit j = true ↔ s.testBit j = true ∨ ∃ e ∈ l, Region.binds .any e = true ∧ (j = e.on ∨ (acc.getD e.on 0).testBit j = true))
  | [], s => by simp
  | e :: l, s => by
    rw [List.foldl_cons, bits_foldl acc j l]
    unfold bStep
    cases hb : Region.binds .any e with
    | true =>
      simp only [if_true, Nat.testBit_or, Nat.testBit_two_pow, Bool.or_eq_true, decide_eq_true_eq, List.mem_cons, exists_eq_or_imp, hb, true_and]
      constructor
      · rintro (((h | h) | h) | h)
        · exact .inl h
        · exact .inr (.inl (.inl h.symm))
        · exact .inr (.inl (.inr h))
        · exact .inr (.inr h)
      · rintro (h | (h | h) | h)
        · exact .inl (.inl (.inl h))
        · exact .inl (.inl (.inr h.symm))
        · exact .inl (.inr h)
        · exact .inr h
    | false =>
      simp only [Bool.false_eq_true, if_false, List.mem_cons, exists_eq_or_imp, hb, false_and, false_or]

theorem bits_bOf (acc : Array Nat) (o : Oper) (j : Nat) :
    (bOf acc o).testBit j = true ↔ ∃ e ∈ o.after.toList, Region.binds .any e = true ∧ (j = e.on ∨ (acc.getD e.on 0).testBit j = true) := by
  unfold bOf
  rw [bits_foldl]
  simp

def bAll (l : List Oper) : Array Nat := l.foldl (fun acc o => acc.push (bOf acc o)) #[]

theorem before_eq (ops : Array Oper) : Region.before ops = bAll ops.toList := by
  unfold Region.before bAll
  rw [← Array.foldl_toList]
  congr 1
  funext acc o
  unfold bOf
  rw [← Array.foldl_toList]
  rfl

theorem bAll_snoc (l : List Oper) (o : Oper) : bAll (l ++ [o]) = (bAll l).push (bOf (bAll l) o) := by
  unfold bAll; rw [List.foldl_append]; rfl

theorem bAll_size (l : List Oper) : (bAll l).size = l.length := by
  generalize hn : l.length = n
  induction n generalizing l with
  | zero => have := List.length_eq_zero_iff.1 hn; subst this; rfl
  | succ n ih =>
    rcases List.eq_nil_or_concat l with rfl | ⟨l', o, rfl⟩
    · simp at hn
    · rw [List.concat_eq_append] at hn ⊢
      rw [bAll_snoc, Array.size_push, ih l' (by simpa using hn)]

theorem bAll_prefix (l : List Oper) (o : Oper) {i : Nat} (h : i < l.length) : (bAll (l ++ [o])).getD i 0 = (bAll l).getD i 0 := by
  rw [bAll_snoc]
  simp only [Array.getD_eq_getD_getElem?, Array.getElem?_push, bAll_size]
  rw [if_neg (by omega)]

/-- the edges of each operation lead back -/
def Back (l : List Oper) : Prop := ∀ i o, l[i]? = some o → ∀ e ∈ o.after.toList, Region.binds .any e = true → e.on < i

theorem bAll_get : ∀ (n : Nat) (l : List Oper), l.length = n → Back l → ∀ i o, l[i]? = some o → ∀ j,
    (((bAll l).getD i 0).testBit j = true ↔ ∃ e ∈ o.after.toList, Region.binds .any e = true ∧ (j = e.on ∨ ((bAll l).getD e.on 0).testBit j = true)) := by
  intro n
  induction n with
  | zero => intro l hl _ i o hi; have := List.length_eq_zero_iff.1 hl; subst this; simp at hi
  | succ n ih =>
    intro l hl hb i o hi j
    rcases List.eq_nil_or_concat l with rfl | ⟨l', p, rfl⟩
    · simp at hl
    · rw [List.concat_eq_append] at *
      have hl' : l'.length = n := by simpa using hl
      have hb' : Back l' := fun k q hk => hb k q (by
        have hlt : k < l'.length := by
          rcases Nat.lt_or_ge k l'.length with h | h
          · exact h
          · rw [List.getElem?_eq_none h] at hk; cases hk
        rw [List.getElem?_append_left hlt]; exact hk)
      have hlow : ∀ e ∈ o.after.toList, Region.binds .any e = true → e.on < l'.length := fun e he hbi => by
        have h1 := hb i o hi e he hbi
        have h2 : i < (l' ++ [p]).length := by
          rcases Nat.lt_or_ge i (l' ++ [p]).length with h | h
          · exact h
          · rw [List.getElem?_eq_none h] at hi; cases hi
        rw [List.length_append] at h2
        simp at h2
        omega
      by_cases hlt : i < l'.length
      · rw [bAll_prefix l' p hlt, ih l' hl' hb' i o (by rw [List.getElem?_append_left hlt] at hi; exact hi)]
        constructor
        · rintro ⟨e, he, hbi, h⟩
          exact ⟨e, he, hbi, by rw [bAll_prefix l' p (hlow e he hbi)]; exact h⟩
        · rintro ⟨e, he, hbi, h⟩
          exact ⟨e, he, hbi, by rw [bAll_prefix l' p (hlow e he hbi)] at h; exact h⟩
      · have hil : i = l'.length := by
          have h2 : i < (l' ++ [p]).length := by
            rcases Nat.lt_or_ge i (l' ++ [p]).length with h | h
            · exact h
            · rw [List.getElem?_eq_none h] at hi; cases hi
          simp at h2
          omega
        subst hil
        have : o = p := by simp at hi; exact hi.symm
        subst this
        have hv : (bAll (l' ++ [o])).getD l'.length 0 = bOf (bAll l') o := by
          rw [bAll_snoc, Array.getD_eq_getD_getElem?, ← bAll_size l', Array.getElem?_push_size]; rfl
        rw [hv, bits_bOf]
        constructor
        · rintro ⟨e, he, hbi, h⟩
          exact ⟨e, he, hbi, by rw [bAll_prefix l' o (hlow e he hbi)]; exact h⟩
        · rintro ⟨e, he, hbi, h⟩
          exact ⟨e, he, hbi, by rw [bAll_prefix l' o (hlow e he hbi)] at h; exact h⟩

/-- whether j comes ahead of i -/
def ahead (ops : Array Oper) (i j : Nat) : Bool := ((Region.before ops).getD i 0).testBit j

theorem edgesOk_back {ops : Array Oper} (h : edgesOk ops = true) : Back ops.toList := by
  intro i o hi e he hb
  unfold edgesOk at h
  rw [List.all_eq_true] at h
  have h1 := h (o, i) (List.mem_zipIdx_iff_getElem?.2 (by simpa using hi))
  rw [List.all_eq_true] at h1
  have h2 := h1 e he
  simp only [hb, Bool.not_true, Bool.false_or] at h2
  exact blt_inv h2

/-- all edges of an operation are in a set -/
def Met (o : Oper) (S : Nat → Bool) : Prop := ∀ e ∈ o.after.toList, Region.binds .any e = true → S e.on = true

section
variable {ops : Array Oper}

theorem ahead_iff (hb : edgesOk ops = true) {i : Nat} {o : Oper} (hi : ops[i]? = some o) (j : Nat) :
    ahead ops i j = true ↔ ∃ e ∈ o.after.toList, Region.binds .any e = true ∧ (j = e.on ∨ ahead ops e.on j = true) := by
  unfold ahead
  rw [before_eq]
  exact bAll_get _ ops.toList rfl (edgesOk_back hb) i o (by simpa using hi) j

theorem ahead_out {i : Nat} (hi : ops[i]? = none) (j : Nat) : ahead ops i j = false := by
  unfold ahead
  rw [before_eq, Array.getD_eq_getD_getElem?]
  have : ops.size ≤ i := by
    rcases Nat.lt_or_ge i ops.size with h | h
    · rw [Array.getElem?_eq_getElem h] at hi; cases hi
    · exact h
  rw [Array.getElem?_eq_none (by rw [bAll_size]; simpa using this)]
  simp

theorem ahead_lt (hb : edgesOk ops = true) : ∀ (n i : Nat), i ≤ n → ∀ j, ahead ops i j = true → j < i := by
  intro n
  induction n with
  | zero =>
    intro i hi j h
    cases ho : ops[i]? with
    | none => rw [ahead_out ho] at h; cases h
    | some o =>
      obtain ⟨e, he, hbi, _⟩ := (ahead_iff hb ho j).1 h
      have := edgesOk_back hb i o (by simpa using ho) e he hbi
      omega
  | succ n ih =>
    intro i hi j h
    cases ho : ops[i]? with
    | none => rw [ahead_out ho] at h; cases h
    | some o =>
      obtain ⟨e, he, hbi, h1⟩ := (ahead_iff hb ho j).1 h
      have h2 := edgesOk_back hb i o (by simpa using ho) e he hbi
      rcases h1 with h1 | h1
      · omega
      · have := ih e.on (by omega) j h1
        omega

def Closed (ops : Array Oper) (S : Nat → Bool) : Prop := ∀ i o, S i = true → ops[i]? = some o → Met o S

/-- What comes ahead of an operation all whose edges are in a closed set is in that set. -/
theorem met_ahead (hb : edgesOk ops = true) {S : Nat → Bool} (hS : Closed ops S) : ∀ (n i : Nat), i ≤ n → ∀ o, ops[i]? = some o → Met o S → ∀ j, ahead ops i j = true → S j = true := by
  intro n
  induction n with
  | zero =>
    intro i hi o ho hm j h
    obtain ⟨e, he, hbi, _⟩ := (ahead_iff hb ho j).1 h
    have := edgesOk_back hb i o (by simpa using ho) e he hbi
    omega
  | succ n ih =>
    intro i hi o ho hm j h
    obtain ⟨e, he, hbi, h1⟩ := (ahead_iff hb ho j).1 h
    have h2 := edgesOk_back hb i o (by simpa using ho) e he hbi
    have h3 := hm e he hbi
    rcases h1 with h1 | h1
    · rw [h1]; exact h3
    · cases hp : ops[e.on]? with
      | none => rw [ahead_out hp] at h1; cases h1
      | some p => exact ih e.on (by omega) p hp (hS _ _ h3 hp) j h1

theorem ahead_of_edge (hb : edgesOk ops = true) {i : Nat} {o : Oper} (ho : ops[i]? = some o) {e : Edge} (he : e ∈ o.after.toList) (hbi : Region.binds .any e = true) :
    ahead ops i e.on = true := (ahead_iff hb ho _).2 ⟨e, he, hbi, .inl rfl⟩

def addS (S : Nat → Bool) (i : Nat) : Nat → Bool := fun j => S j || Nat.beq j i

theorem addS_same (S : Nat → Bool) (i : Nat) : addS S i i = true := by simp [addS]
theorem addS_mono {S : Nat → Bool} {i j : Nat} (h : S j = true) : addS S i j = true := by simp [addS, h]
theorem addS_ne {S : Nat → Bool} {i j : Nat} (h : j ≠ i) : addS S i j = S j := by
  have : Nat.beq j i = false := by
    cases hb : Nat.beq j i with
    | false => rfl
    | true => exact absurd (beq_inv hb) h
  simp [addS, this]
theorem addS_cases {S : Nat → Bool} {i j : Nat} (h : addS S i j = true) : S j = true ∨ j = i := by
  by_cases e : j = i
  · exact .inr e
  · rw [addS_ne e] at h; exact .inl h

theorem Met.mono {o : Oper} {S S' : Nat → Bool} (h : Met o S) (hs : ∀ j, S j = true → S' j = true) : Met o S' := fun e he hb => hs _ (h e he hb)

theorem Closed.add {S : Nat → Bool} (h : Closed ops S) {i : Nat} {o : Oper} (ho : ops[i]? = some o) (hm : Met o S) : Closed ops (addS S i) := by
  intro j p hj hp
  rcases addS_cases hj with h1 | h1
  · exact (h j p h1 hp).mono fun k => addS_mono
  · subst h1
    rw [ho] at hp; cases hp
    exact hm.mono fun k => addS_mono

/-- The orders of what is left. -/
inductive Sched (ops : Array Oper) : (Nat → Bool) → List Nat → Prop
  | nil (S : Nat → Bool) (h : ∀ i, i < ops.size → S i = true) : Sched ops S []
  | cons (S : Nat → Bool) (i : Nat) (o : Oper) (rest : List Nat) (ho : ops[i]? = some o) (hn : S i = false) (hm : Met o S) (h : Sched ops (addS S i) rest) : Sched ops S (i :: rest)

def cntF : List Bool → Nat
  | [] => 0
  | b :: l => (if b then 0 else 1) + cntF l

theorem cntF_set : ∀ (l : List Bool) (i : Nat), l[i]? = some false → cntF (l.set i true) + 1 = cntF l
  | [], i, h => by simp at h
  | b :: l, 0, h => by simp at h; subst h; simp [cntF]; omega
  | b :: l, i + 1, h => by
    simp only [List.getElem?_cons_succ] at h
    have := cntF_set l i h
    simp only [List.set_cons_succ, cntF]
    omega

theorem cntF_zero : ∀ (l : List Bool), cntF l = 0 → ∀ (i : Nat) (b : Bool), l[i]? = some b → b = true
  | [], _, i, b, h => by simp at h
  | c :: l, hc, i, b, h => by
    simp only [cntF] at hc
    cases i with
    | zero => simp at h; subst h; cases c <;> simp_all
    | succ i => exact cntF_zero l (by omega) i b (by simpa using h)

theorem first_false : ∀ (l : List Bool), cntF l ≠ 0 → ∃ i : Nat, l[i]? = some false ∧ ∀ j : Nat, j < i → l[j]? = some true
  | [], h => by simp [cntF] at h
  | b :: l, h => by
    cases b with
    | false => exact ⟨0, rfl, fun j hj => by omega⟩
    | true =>
      simp only [cntF, if_true, Nat.zero_add] at h
      obtain ⟨i, h1, h2⟩ := first_false l h
      refine ⟨i + 1, by simpa using h1, fun j hj => ?_⟩
      cases j with
      | zero => rfl
      | succ j => simpa using h2 j (by omega)

theorem ready_ne (hb : edgesOk ops = true) {listed : Array Bool} (hs : listed.size = ops.size) (hc : cntF listed.toList ≠ 0) : Region.ready .any ops listed ≠ [] := by
  obtain ⟨i, h1, h2⟩ := first_false _ hc
  have h1' : listed[i]? = some false := by simpa using h1
  have hlt : i < ops.size := by rw [← hs]; exact getElem?_lt h1'
  intro hnil
  have : i ∈ Region.ready .any ops listed := by
    rw [mem_ready]
    refine ⟨by rw [Array.getD_eq_getD_getElem?, h1']; rfl, ops[i], Array.getElem?_eq_getElem hlt, fun e he hbi => ?_⟩
    have h3 := edgesOk_back hb i ops[i] (by simp [hlt]) e (by simpa using he) hbi
    have h4 := h2 e.on h3
    rw [Array.getD_eq_getD_getElem?, show listed[e.on]? = some true by simpa using h4]; rfl
  rw [hnil] at this
  cases this

theorem addS_listed {listed : Array Bool} {i : Nat} (h : i < listed.size) : (fun j => (listed.setIfInBounds i true).getD j false) = addS (fun j => listed.getD j false) i := by
  funext j
  by_cases e : j = i
  · subst e
    rw [addS_same, Array.getD_eq_getD_getElem?, Array.getElem?_setIfInBounds_self_of_lt h]; rfl
  · rw [addS_ne e, getD_set_ne false (fun h => e h.symm)]

theorem sched_go (hb : edgesOk ops = true) : ∀ (fuel t : Nat) (listed : Array Bool), listed.size = ops.size → cntF listed.toList ≤ fuel →
    Sched ops (fun i => listed.getD i false) (Region.linearise.go .any ops fuel t listed []) := by
  intro fuel
  have full : ∀ (listed : Array Bool), listed.size = ops.size → cntF listed.toList = 0 → Sched ops (fun i => listed.getD i false) [] := by
    intro listed hs hc
    refine .nil _ fun i hi => ?_
    have hlt : i < listed.size := by omega
    have h1 : listed.toList[i]? = some listed[i] := by simp [hlt]
    have := cntF_zero _ hc i _ h1
    simp [hlt, this]
  induction fuel with
  | zero =>
    intro t listed hs hc
    exact full listed hs (by omega)
  | succ fuel ih =>
    intro t listed hs hc
    simp only [Region.linearise.go]
    change Sched ops _ (match (Region.ready .any ops listed)[t % (Region.ready .any ops listed).length]? with
      | some i => Region.linearise.go .any ops fuel (t / (Region.ready .any ops listed).length) (listed.setIfInBounds i true) [i]
      | none => [].reverse)
    cases hi : (Region.ready .any ops listed)[t % (Region.ready .any ops listed).length]? with
    | none =>
      have hnil : Region.ready .any ops listed = [] := by
        cases hr : Region.ready .any ops listed with
        | nil => rfl
        | cons x xs =>
          rw [hr] at hi
          have hlt : t % (x :: xs).length < (x :: xs).length := Nat.mod_lt _ (by simp)
          simp at hi
          simp at hlt
          omega
      refine full listed hs ?_
      by_cases hc0 : cntF listed.toList = 0
      · exact hc0
      · exact absurd hnil (ready_ne hb hs hc0)
    | some i =>
      obtain ⟨h0, o, ho, hm⟩ := mem_ready.1 (List.mem_of_getElem? hi)
      simp only []
      rw [linearise_go_acc, List.reverse_singleton, List.singleton_append]
      have hlt : i < listed.size := by rw [hs]; exact getElem?_lt ho
      have h1 : listed.toList[i]? = some false := by
        simp [hlt] at h0 ⊢; exact h0
      have hcnt := cntF_set _ i h1
      refine .cons _ i o _ ho ?_ (fun e he hbi => hm e (by simpa using he) hbi) ?_
      · simp [hlt] at h0 ⊢; exact h0
      · rw [← addS_listed hlt]
        refine ih _ _ (by simpa using hs) ?_
        have : (listed.setIfInBounds i true).toList = listed.toList.set i true := by simp
        rw [this]; omega

theorem cntF_replicate : ∀ n, cntF (List.replicate n false) = n
  | 0 => rfl
  | n + 1 => by rw [List.replicate_succ, cntF, cntF_replicate n]; simp; omega

theorem sched_schedule (hb : edgesOk ops = true) (t : Nat) : Sched ops (fun _ => false) (Region.schedule true ops t) := by
  have := sched_go hb ops.size t (Array.replicate ops.size false) (by simp) (by simp [cntF_replicate])
  have e : (fun i => (Array.replicate ops.size false).getD i false) = fun _ => false := by
    funext i
    simp only [Array.getD_eq_getD_getElem?, Array.getElem?_replicate]
    split <;> rfl
  rw [e] at this
  exact this

/-! ### What the slots hold, when some operations are done -/
/-- the slot that an operation fills -/
def dstN (ops : Array Oper) (nt i : Nat) : Option Tmp := ((ops[i]?).bind (·.dst)).filter (· < nt)

def tv (ops : Array Oper) (nt : Nat) (base : Nat → Value) (V : Nat → Value) (S : Nat → Bool) : Nat → Nat → Value
  | 0, x => base x
  | n + 1, x => if S n = true ∧ dstN ops nt n = some x then V n else tv ops nt base V S n x

theorem tv_congr {nt : Nat} {base V V' : Nat → Value} {S S' : Nat → Bool} {x : Nat} : ∀ (n : Nat),
    (∀ j, j < n → dstN ops nt j = some x → S j = S' j ∧ (S j = true → V j = V' j)) → tv ops nt base V S n x = tv ops nt base V' S' n x
  | 0, _ => rfl
  | n + 1, h => by
    have ih := tv_congr (base := base) (V := V) (V' := V') (S := S) (S' := S') n fun j hj => h j (by omega)
    unfold tv
    rw [ih]
    by_cases hd : dstN ops nt n = some x
    · obtain ⟨h1, h2⟩ := h n (by omega) hd
      rw [h1]
      by_cases hS : S' n = true
      · rw [if_pos ⟨hS, hd⟩, if_pos ⟨hS, hd⟩, h2 (h1.trans hS)]
      · rw [if_neg (fun e => hS e.1), if_neg (fun e => hS e.1)]
    · rw [if_neg (fun e => hd e.2), if_neg (fun e => hd e.2)]

def setV (V : Nat → Value) (i : Nat) (v : Value) : Nat → Value := fun j => if j = i then v else V j

theorem tv_add {nt : Nat} {base V : Nat → Value} {S : Nat → Bool} {i : Nat} {v : Value} {x : Nat} (hn : S i = false) : ∀ (n : Nat), i < n →
    (∀ j, j < n → S j = true → dstN ops nt j = some x → dstN ops nt i = some x → j < i) →
    tv ops nt base (setV V i v) (addS S i) n x = if dstN ops nt i = some x then v else tv ops nt base V S n x
  | 0, h, _ => by omega
  | n + 1, h, hw => by
    unfold tv
    by_cases hi : i = n
    · subst hi
      by_cases hd : dstN ops nt i = some x
      · rw [if_pos ⟨addS_same S i, hd⟩, if_pos hd]; simp [setV]
      · rw [if_neg (fun e => hd e.2), if_neg hd, if_neg (fun e => hd e.2)]
        refine tv_congr i fun j hj _ => ⟨addS_ne (by omega), fun _ => ?_⟩
        have : j ≠ i := by omega
        simp [setV, this]
    · have hni : n ≠ i := fun e => hi e.symm
      rw [addS_ne hni, tv_add hn n (by omega) fun j hj => hw j (by omega)]
      by_cases hS : S n = true ∧ dstN ops nt n = some x
      · have hnd : ¬ (dstN ops nt i = some x) := fun hd => by
          have := hw n (by omega) hS.1 hS.2 hd
          omega
        rw [if_pos hS, if_neg hnd, if_pos hS]; simp [setV, hni]
      · rw [if_neg hS, if_neg hS]

end
end Go.Den

namespace Go.Den

/-! ### What an operation looks at -/
theorem aEqual_congr {α : Type} (f : α → Value) (g : α → Value) (l : List α) (h : ∀ x ∈ l, f x = g x) : l.map f = l.map g := List.map_congr_left h

theorem runPure_eq {P : Program} {s s' : Sem Next} (h : s = s') : runPure P s = runPure P s' := by rw [h]

section
variable {E : Env} {av bv : Operand → Value} {o : Oper}

theorem map_toList_congr {l : Array Operand} (h : ∀ x ∈ l, av x = bv x) : l.toList.map av = l.toList.map bv :=
  List.map_congr_left fun x hx => h x (by simpa using hx)

theorem opt_congr {x : Option Operand} (h : ∀ y ∈ x.toArray, av y = bv y) : x.map av = x.map bv := by
  cases x with
  | none => rfl
  | some y => simp [h y (by simp)]

theorem pairs_congr {l : Array (Nat × Operand)} (h : ∀ x ∈ l.map (·.2), av x = bv x) : (l.toList.map fun p => (p.1, av p.2)) = l.toList.map fun p => (p.1, bv p.2) :=
  List.map_congr_left fun p hp => by
    have : av p.2 = bv p.2 := h p.2 (Array.mem_map.2 ⟨p, by simpa using hp, rfl⟩)
    rw [this]

theorem pureOp_congr (h : ∀ x ∈ o.op.operands, av x = bv x) : pureOp E av o = pureOp E bv o := by
  have hx : (∀ cs b, o.op ≠ .select cs b) → execOp av o = execOp bv o := fun hs => execOp_congr o hs h
  obtain ⟨dst, op, type, pos, after, guard⟩ := o
  cases op <;> simp only [Op.operands] at h <;> simp only [pureOp]
  case build t ps => rw [pairs_congr (l := ps) fun x hx => h x (by simpa using hx)]
  case makeFunc fn first captured =>
    rw [map_toList_congr (l := first) fun x hx => h x (by simp [hx]), map_toList_congr (l := captured) fun x hx => h x (by simp [hx])]
  case slice t x lo hi mx => cases lo <;> cases hi <;> cases mx <;> simp_all
  case binOp op t x y yt =>
    have := hx (by intro cs b h; cases h)
    unfold pBin pBinS
    rw [this, h x (by simp), h y (by simp)]
  case unOp op t x =>
    have := hx (by intro cs b h; cases h)
    unfold pUn pScal
    rw [this, h x (by simp)]
  case convert src dst x =>
    have := hx (by intro cs b h; cases h)
    unfold pConv pScal
    rw [this, h x (by simp)]
  case call c =>
    have := hx (by intro cs b h; cases h)
    unfold pCall pBuiltin pMinMax
    rw [this, map_toList_congr (l := c.args) fun x hx => h x (by simp [Call.operands, hx])]
  all_goals (first | rfl | (simp_all; done))

theorem effOp_congr {H : AHeap} (h : ∀ x ∈ o.op.operands, av x = bv x) : effOp E av o H = effOp E bv o H := by
  obtain ⟨dst, op, type, pos, after, guard⟩ := o
  have hcall : ∀ c : Call, (∀ x ∈ c.operands, av x = bv x) → c.args.toList.map av = c.args.toList.map bv ∧ (∀ f, c.callee = .value f → av f = bv f) := fun c h =>
    ⟨map_toList_congr fun x hx => h x (by simp [Call.operands, hx]), fun f hf => h f (by simp [Call.operands, hf])⟩
  cases op <;> simp only [Op.operands] at h <;> simp only [effOp]
  case buildSlice t n ps => rw [pairs_congr (l := ps) fun x hx => h x (by simpa using hx)]
  case makeMap t r => cases r <;> simp_all
  case call c =>
    obtain ⟨h1, h2⟩ := hcall c h
    unfold eCall
    rw [h1]
    cases hc : c.callee with
    | value f => simp only [h2 f hc]
    | _ => rfl
  case defer c =>
    obtain ⟨h1, h2⟩ := hcall c h
    unfold eDefer
    rw [h1]
    cases hc : c.callee with
    | value f => simp only [h2 f hc]
    | _ => rfl
  all_goals (first | rfl | (simp_all; done))

/-- Operands that do not matter are 'not known'. -/
theorem ops_cut {ρ : Rho} {σ : Operand → Value} {l : Array Operand} (h : ∀ x ∈ l, VRel ρ (av x) (σ x)) : ∃ bv : Operand → Value, (∀ x ∈ l, av x = bv x) ∧ Ops ρ bv σ := by
  classical
  refine ⟨fun x => if x ∈ l then av x else poison, fun x hx => by simp [hx], fun x => ?_⟩
  by_cases hx : x ∈ l
  · simp only [hx, if_true]; exact h x hx
  · simp only [hx, if_false]; exact .poison _

theorem pure_run' {ρ : Rho} {w : World} (hE : E.Ok) {σ : Operand → Value} (ho : ∀ x ∈ o.op.operands, VRel ρ (av x) (σ x)) {r : Value} (h : pureOp E av o = some r) :
    ∃ r', (execOp σ o).run E.P w = .ok (.value r') w ∧ VRel ρ r r' := by
  obtain ⟨bv, h1, h2⟩ := ops_cut ho
  rw [pureOp_congr h1] at h
  exact pure_run w hE h2 h

def operA (E : Env) (av : Operand → Value) (o : Oper) (H : AHeap) : Option ANext :=
  match pureOp E av o with
  | some v => some (.value v H)
  | none => effOp E av o H

theorem operA_congr {H : AHeap} (h : ∀ x ∈ o.op.operands, av x = bv x) : operA E av o H = operA E bv o H := by
  unfold operA
  rw [pureOp_congr h, effOp_congr h]

theorem oper_run {ρ : Rho} {w : World} {H : AHeap} (hE : E.Ok) (hx : ExtOk E) (hh : HRel E ρ H w) {σ : Operand → Value} (ho : ∀ x ∈ o.op.operands, VRel ρ (av x) (σ x)) {n : ANext}
    (h : operA E av o H = some n) : OpRes E ρ w n ((execOp σ o).run E.P w) := by
  obtain ⟨bv, h1, h2⟩ := ops_cut ho
  rw [operA_congr h1] at h
  unfold operA at h
  split at h
  · rename_i v hv
    simp only [Option.some.injEq] at h; subst h
    obtain ⟨r', h3, h4⟩ := pure_run w hE h2 hv
    rw [h3]
    exact .value ρ v H r' w hh (.refl ρ w) h4
  · exact eff_run hE hx hh h2 h
end

/-! ### Slots as functions -/
def evF (f : Nat → Value) : Operand → Value
  | .tmp t => f t
  | .const v => bif scalar v then v else poison
  | .global _ => poison
  | .func f => .func (.func f) ⟨[]⟩ ⟨[]⟩

def slotF (t : Tr Value) : Nat → Value := fun x => (t.get x).getD undef

theorem ev_eq (fr : AFrame) : fr.ev = evF (slotF fr.tmps) := by
  funext x; cases x <;> rfl

def yieldF (f : Nat → Value) (ops : Array Oper) (j : Nat) : Option (Option Bool) :=
  match dstOf ops j with
  | none => some none
  | some t => match f t with
    | .bool b => some (some b)
    | .chan _ => none
    | _ => some none

def wantedF (f : Nat → Value) (ops : Array Oper) (o : Oper) : Option Bool :=
  match o.guard with
  | none => some true
  | some (j, want) => (yieldF f ops j).map fun b => b == some want

theorem aYielded_eq (fr : AFrame) (ops : Array Oper) (j : Nat) : aYielded fr ops j = yieldF (slotF fr.tmps) ops j := by
  unfold aYielded yieldF slotF
  cases dstOf ops j with
  | none => rfl
  | some t => cases h : fr.tmps.get t with
    | none => simp only [h]; rfl
    | some v => simp only [h, Option.getD_some]; cases v <;> rfl

theorem wantedA_eq (fr : AFrame) (ops : Array Oper) (o : Oper) : wantedA fr ops o = wantedF (slotF fr.tmps) ops o := by
  unfold wantedA wantedF
  cases o.guard with
  | none => rfl
  | some p => simp only [aYielded_eq]

/-- on the slots that an operation looks at, two functions are one -/
def SameOn (ops : Array Oper) (o : Oper) (f g : Nat → Value) : Prop := ∀ x ∈ Oper.looksAt ops o, f x = g x

theorem dstOf_eq (ops : Array Oper) (j : Nat) : dstOf ops j = (ops[j]?).bind (·.dst) := by simp [dstOf]

theorem SameOn.ev {ops : Array Oper} {o : Oper} {f g : Nat → Value} (h : SameOn ops o f g) : ∀ x ∈ o.op.operands, evF f x = evF g x := by
  intro x hx
  cases x with
  | tmp t => exact h t (List.mem_append_left _ (List.mem_filterMap.2 ⟨.tmp t, by simpa using hx, rfl⟩))
  | _ => rfl

theorem SameOn.wanted {ops : Array Oper} {o : Oper} {f g : Nat → Value} (h : SameOn ops o f g) : wantedF f ops o = wantedF g ops o := by
  unfold wantedF
  cases hg : o.guard with
  | none => rfl
  | some p =>
    obtain ⟨j, want⟩ := p
    have : yieldF f ops j = yieldF g ops j := by
      unfold yieldF
      cases hd : dstOf ops j with
      | none => rfl
      | some t =>
        have : f t = g t := h t (List.mem_append_right _ (by rw [hg]; rw [dstOf_eq] at hd; simp [hd]))
        simp only [this]
    simp only [this]

/-- slots, on both sides, where an operation looks -/
def RelOn (ρ : Rho) (ops : Array Oper) (o : Oper) (f : Nat → Value) (a : Array Value) : Prop := ∀ x ∈ Oper.looksAt ops o, VRel ρ (f x) (a.getD x undef)

theorem wanted_run {ρ : Rho} {ops : Array Oper} {o : Oper} {f : Nat → Value} {a : Array Value} {b : Bool} (h : RelOn ρ ops o f a) (hw : wantedF f ops o = some b) :
    Region.wanted o (yielded ops a) = b := by
  unfold wantedF at hw
  unfold Region.wanted
  cases hg : o.guard with
  | none => rw [hg] at hw; simp only [Option.some.injEq] at hw ⊢; exact hw
  | some p =>
    obtain ⟨j, want⟩ := p
    rw [hg] at hw
    simp only [Option.map_eq_some_iff] at hw ⊢
    obtain ⟨y, hy, rfl⟩ := hw
    have : yielded ops a j = y := by
      unfold yieldF at hy
      unfold yielded
      rw [dstOf_eq] at hy
      cases hd : (ops[j]?).bind (·.dst) with
      | none => rw [hd] at hy; simp only [Option.some.injEq] at hy; subst hy; rfl
      | some t =>
        rw [hd] at hy
        have hr := h t (List.mem_append_right _ (by rw [hg]; simp [hd]))
        simp only [Option.bind_some] at hy ⊢
        rw [Array.getD_eq_getD_getElem?] at hr
        cases ha : a[t]? with
        | none =>
          rw [ha] at hr
          simp only [Option.getD_none] at hr
          generalize f t = v at hr hy
          cases hr <;> simp_all [poison]
        | some v' =>
          rw [ha] at hr
          simp only [Option.getD_some] at hr
          generalize f t = v at hr hy
          cases hr <;> simp_all [poison]
    rw [this]

theorem eval_run {ρ : Rho} {ops : Array Oper} {o : Oper} {f : Nat → Value} {fr : Frame} (h : RelOn ρ ops o f fr.tmps) : ∀ x ∈ o.op.operands, VRel ρ (evF f x) (fr.eval x) := by
  intro x hx
  cases x with
  | tmp t => exact h t (List.mem_append_left _ (List.mem_filterMap.2 ⟨.tmp t, by simpa using hx, rfl⟩))
  | const v =>
    simp only [evF, Frame.eval]
    cases hs : scalar v with
    | true => exact scalar_refl hs
    | false => exact .poison _
  | global g => exact .poison _
  | func f => exact VRel.func_of (.func f) .nil .nil

/-! ### The same, in whatever order -/
section
variable {ops : Array Oper}

theorem slots_spec (h : slotsOk ops = true) {i j : Nat} {o p : Oper} (hj : ops[j]? = some o) (hi : ops[i]? = some p) (hne : i ≠ j) {d : Tmp} (hd : p.dst = some d)
    (hl : o.dst = some d ∨ d ∈ Oper.looksAt ops o) : ahead ops (max i j) (min i j) = true := by
  unfold slotsOk at h
  rw [List.all_eq_true] at h
  have h1 := h (o, j) (List.mem_zipIdx_iff_getElem?.2 (by simpa using hj))
  rw [List.all_eq_true] at h1
  have h2 := h1 (p, i) (List.mem_zipIdx_iff_getElem?.2 (by simpa using hi))
  unfold slotOk at h2
  simp only [hd, Bool.or_eq_true] at h2
  rcases h2 with (h2 | h2) | h2
  · exact absurd (beq_inv h2) hne
  · simp only [Bool.not_eq_true', Bool.or_eq_false_iff] at h2
    rcases hl with hl | hl
    · rw [hl] at h2; simp at h2
    · simp [hl] at h2
  · exact h2

theorem dstN_inv {nt j x : Nat} (h : dstN ops nt j = some x) : x < nt ∧ ∃ p, ops[j]? = some p ∧ p.dst = some x := by
  unfold dstN at h
  rw [Option.filter_eq_some_iff] at h
  obtain ⟨h1, h2⟩ := h
  simp only [Option.bind_eq_some_iff] at h1
  exact ⟨by simpa using h2, h1⟩

theorem dstN_of {nt j x : Nat} {p : Oper} (hj : ops[j]? = some p) (hd : p.dst = some x) (hx : x < nt) : dstN ops nt j = some x := by
  unfold dstN
  rw [Option.filter_eq_some_iff]
  exact ⟨by simp [hj, hd], by simpa using hx⟩

/-- What a set of operations has laid into a slot that an operation meets is what those ahead of it laid there. -/
theorem tv_ahead (hb : edgesOk ops = true) (hs : slotsOk ops = true) {S : Nat → Bool} (hS : Closed ops S) {k : Nat} {o : Oper} (hk : ops[k]? = some o) (hn : S k = false) (hm : Met o S)
    {nt : Nat} {base V : Nat → Value} {x : Nat} (hx : o.dst = some x ∨ x ∈ Oper.looksAt ops o) (n : Nat) : tv ops nt base V S n x = tv ops nt base V (ahead ops k) n x := by
  refine tv_congr n fun j _ hd => ⟨?_, fun _ => rfl⟩
  obtain ⟨_, p, hp, hpd⟩ := dstN_inv hd
  by_cases hjk : j = k
  · subst hjk
    rw [hn]
    cases h : ahead ops j j with
    | false => rfl
    | true => exact absurd (ahead_lt hb j j (Nat.le_refl _) j h) (Nat.lt_irrefl _)
  · have ho := slots_spec hs hk hp hjk hpd hx
    rcases Nat.lt_or_gt_of_ne hjk with hlt | hgt
    · rw [Nat.max_eq_right (Nat.le_of_lt hlt), Nat.min_eq_left (Nat.le_of_lt hlt)] at ho
      rw [ho, met_ahead hb hS k k (Nat.le_refl _) o hk hm j ho]
    · rw [Nat.max_eq_left (Nat.le_of_lt hgt), Nat.min_eq_right (Nat.le_of_lt hgt)] at ho
      have h1 : S j = false := by
        cases hj : S j with
        | false => rfl
        | true =>
          have := met_ahead hb hS j j (Nat.le_refl _) p hp (hS j p hj hp) k ho
          rw [hn] at this; cases this
      rw [h1]
      cases h : ahead ops k j with
      | false => rfl
      | true => have := ahead_lt hb k k (Nat.le_refl _) j h; omega

theorem writer_lt (hb : edgesOk ops = true) (hs : slotsOk ops = true) {S : Nat → Bool} (hS : Closed ops S) {i : Nat} {o : Oper} (hi : ops[i]? = some o) (hn : S i = false)
    {nt j x : Nat} (hj : S j = true) (hdj : dstN ops nt j = some x) (hdi : dstN ops nt i = some x) : j < i := by
  obtain ⟨_, p, hp, hpd⟩ := dstN_inv hdj
  obtain ⟨_, o', ho', hod⟩ := dstN_inv hdi
  rw [hi] at ho'; cases ho'
  have hne : j ≠ i := fun e => by rw [e, hn] at hj; cases hj
  rcases Nat.lt_or_gt_of_ne hne with h | h
  · exact h
  · have ho := slots_spec hs hi hp hne hpd (.inl hod)
    rw [Nat.max_eq_left (Nat.le_of_lt h), Nat.min_eq_right (Nat.le_of_lt h)] at ho
    have := met_ahead hb hS j j (Nat.le_refl _) p hp (hS j p hj hp) i ho
    rw [hn] at this; cases this
end

end Go.Den

namespace Go.Den

section
variable {P : Program} {fn : FuncId} {tm : Array Value} {k : List Item} {ds : List Deferred} {kd : CallKind} {ro : Option Nat} {cs : List Frame} {w w' : World}

theorem s_skip : Go.step P (lone ⟨fn, tm, .code .skip :: k, ds, .run, kd, ro⟩ cs w) = .next (lone ⟨fn, tm, k, ds, .run, kd, ro⟩ cs w) :=
  step_lone_go (by simp [stepG, stepG.exec])
theorem s_label {l : Nat} : Go.step P (lone ⟨fn, tm, .code (.label l) :: k, ds, .run, kd, ro⟩ cs w) = .next (lone ⟨fn, tm, k, ds, .run, kd, ro⟩ cs w) :=
  step_lone_go (by simp [stepG, stepG.exec])
theorem s_inBlock {id : Nat} : Go.step P (lone ⟨fn, tm, .inBlock id :: k, ds, .run, kd, ro⟩ cs w) = .next (lone ⟨fn, tm, k, ds, .run, kd, ro⟩ cs w) :=
  step_lone_go (by simp [stepG, stepG.exec])
theorem s_inScope {b : Code} : Go.step P (lone ⟨fn, tm, .inScope b :: k, ds, .run, kd, ro⟩ cs w) = .next (lone ⟨fn, tm, k, ds, .run, kd, ro⟩ cs w) :=
  step_lone_go (by simp [stepG, stepG.exec])
theorem s_seq {a b : Code} : Go.step P (lone ⟨fn, tm, .code (.seq a b) :: k, ds, .run, kd, ro⟩ cs w) = .next (lone ⟨fn, tm, .code a :: .code b :: k, ds, .run, kd, ro⟩ cs w) :=
  step_lone_go (by simp [stepG, stepG.exec])
theorem s_cond {c : Operand} {x y : Code} {t : Bool} (h : (⟨fn, tm, .code (.cond c x y) :: k, ds, .run, kd, ro⟩ : Frame).eval c = .bool t) :
    Go.step P (lone ⟨fn, tm, .code (.cond c x y) :: k, ds, .run, kd, ro⟩ cs w) = .next (lone ⟨fn, tm, .code (if t then x else y) :: k, ds, .run, kd, ro⟩ cs w) :=
  step_lone_go (by simp [stepG, stepG.exec, h])
theorem s_block {id : Nat} {b : Code} : Go.step P (lone ⟨fn, tm, .code (.block id b) :: k, ds, .run, kd, ro⟩ cs w) = .next (lone ⟨fn, tm, .code b :: .inBlock id :: k, ds, .run, kd, ro⟩ cs w) :=
  step_lone_go (by simp [stepG, stepG.exec])
theorem s_loop {b : Code} : Go.step P (lone ⟨fn, tm, .code (.loop b) :: k, ds, .run, kd, ro⟩ cs w) = .next (lone ⟨fn, tm, .code b :: .inLoop b :: k, ds, .run, kd, ro⟩ cs w) :=
  step_lone_go (by simp [stepG, stepG.exec])
theorem s_inLoop {b : Code} : Go.step P (lone ⟨fn, tm, .inLoop b :: k, ds, .run, kd, ro⟩ cs w) = .next (lone ⟨fn, tm, .code b :: .inLoop b :: k, ds, .run, kd, ro⟩ cs w) :=
  step_lone_go (by simp [stepG, stepG.exec])
theorem s_scope {b : Code} : Go.step P (lone ⟨fn, tm, .code (.scope b) :: k, ds, .run, kd, ro⟩ cs w) = .next (lone ⟨fn, tm, .code b :: .inScope b :: k, ds, .run, kd, ro⟩ cs w) :=
  step_lone_go (by simp [stepG, stepG.exec])
theorem s_exit {id : Nat} {k' : List Item} (h : Go.exitTo id k = some k') :
    Go.step P (lone ⟨fn, tm, .code (.exit id) :: k, ds, .run, kd, ro⟩ cs w) = .next (lone ⟨fn, tm, k', ds, .run, kd, ro⟩ cs w) :=
  step_lone_go (by simp [stepG, stepG.exec, h])
theorem s_goto {l : Nat} {k' : List Item} (h : Go.gotoIn l k = some k') :
    Go.step P (lone ⟨fn, tm, .code (.goto l) :: k, ds, .run, kd, ro⟩ cs w) = .next (lone ⟨fn, tm, k', ds, .run, kd, ro⟩ cs w) :=
  step_lone_go (by simp [stepG, stepG.exec, h])
theorem s_region {id : Nat} {ops : Array Oper} :
    Go.step P (lone ⟨fn, tm, .code (.region id ops false) :: k, ds, .run, kd, ro⟩ cs w) = .next (lone ⟨fn, tm, .inRegion ops (List.range ops.size) :: k, ds, .run, kd, ro⟩ cs w) :=
  step_lone_go (by simp [stepG, stepG.exec])
theorem s_draw {id : Nat} {ops : Array Oper} :
    Go.step P (lone ⟨fn, tm, .code (.region id ops true) :: k, ds, .run, kd, ro⟩ cs w) =
      .next (lone ⟨fn, tm, .inRegion ops (Region.schedule (P.follows .mixedOrders) ops (w.tape w.drawn (.order fn id))) :: k, ds, .run, kd, ro⟩ cs w.drew) :=
  step_lone_go (by simp [stepG, stepG.exec, choose, Sem.run, Question.forced, Question.cut])
theorem s_regionEnd {ops : Array Oper} :
    Go.step P (lone ⟨fn, tm, .inRegion ops [] :: k, ds, .run, kd, ro⟩ cs w) = .next (lone ⟨fn, tm, k, ds, .run, kd, ro⟩ cs w) :=
  step_lone_go (by simp [stepG, stepG.exec])

theorem s_retN (h : ro = none) : Go.step P (lone ⟨fn, tm, .code .ret :: k, ds, .run, kd, ro⟩ cs w) = .next (lone ⟨fn, tm, .code .ret :: k, ds, .returning, kd, ro⟩ cs w) :=
  step_lone_go (by simp [stepG, stepG.exec, h])
theorem s_endN (h : ro = none) : Go.step P (lone ⟨fn, tm, [], ds, .run, kd, ro⟩ cs w) = .next (lone ⟨fn, tm, [], ds, .returning, kd, ro⟩ cs w) :=
  step_lone_go (by simp [stepG, stepG.exec, h])

def putT (tm : Array Value) (d : Option Tmp) (v : Value) : Array Value :=
  match d with
  | some d => tm.setIfInBounds d v
  | none => tm

theorem finish_op {m : FrameMode} {ops : Array Oper} {i : Nat} {rest : List Nat} {v : Value} :
    (⟨fn, tm, .inRegion ops (i :: rest) :: k, ds, m, kd, ro⟩ : Frame).finish v = ⟨fn, putT tm ((ops[i]?).bind (·.dst)) v, .inRegion ops rest :: k, ds, m, kd, ro⟩ := by
  cases h : (ops[i]?).bind (·.dst) <;> simp [Frame.finish, putT, h]

theorem s_opSkip {ops : Array Oper} {i : Nat} {rest : List Nat} {o : Oper} (ho : ops[i]? = some o) (hw : Region.wanted o (yielded ops tm) = false) :
    Go.step P (lone ⟨fn, tm, .inRegion ops (i :: rest) :: k, ds, .run, kd, ro⟩ cs w) = .next (lone ⟨fn, putT tm o.dst undef, .inRegion ops rest :: k, ds, .run, kd, ro⟩ cs w) := by
  have := finish_op (fn := fn) (tm := tm) (k := k) (ds := ds) (kd := kd) (ro := ro) (m := .run) (ops := ops) (i := i) (rest := rest) (v := undef)
  rw [ho] at this
  simp only [Option.bind_some] at this
  rw [← this]
  exact step_lone_go (by simp [stepG, stepG.exec, ho, hw])

theorem g_op {ops : Array Oper} {i : Nat} {rest : List Nat} {o : Oper} (ho : ops[i]? = some o) (hw : Region.wanted o (yielded ops tm) = true)
    (hd : ro = none ∨ ∀ c, o.op ≠ .defer c) :
    stepG P true { frame := ⟨fn, tm, .inRegion ops (i :: rest) :: k, ds, .run, kd, ro⟩, callers := cs, status := .running, dying := none } w =
      stepG.apply P true ⟨fn, tm, .inRegion ops (i :: rest) :: k, ds, .run, kd, ro⟩ cs none (execOp (⟨fn, tm, .inRegion ops (i :: rest) :: k, ds, .run, kd, ro⟩ : Frame).eval o) w := by
  cases ro with
  | none => simp [stepG, stepG.exec, stepG.oper, Frame.oper?, ho, hw]
  | some l =>
    have h2 : ∀ c, o.op ≠ .defer c := hd.resolve_left (by simp)
    cases hop : o.op with
    | defer c => exact absurd hop (h2 c)
    | _ => simp [stepG, stepG.exec, stepG.oper, Frame.oper?, ho, hw, hop]

section apply
variable {fr : Frame} {s : Sem Next}

theorem a_value {v : Value} (h : s.run P w = .ok (.value v) w') : (stepG.apply P true fr cs none s w).bare = .go { frame := fr.finish v, callers := cs, status := .running, dying := none } w' := by
  simp [stepG.apply, h]
theorem a_skip (h : s.run P w = .ok .skip w') : (stepG.apply P true fr cs none s w).bare = .go { frame := fr.finish undef, callers := cs, status := .running, dying := none } w' := by
  simp [stepG.apply, h]
def noCall (fr : Frame) : Prop := ∀ d r s, fr.todo.head? ≠ some (.call d true r s)
theorem a_enter {f : FuncId} {args : Array Value} (hc : noCall fr) (h : s.run P w = .ok (.enter f args) w') :
    (stepG.apply P true fr cs none s w).bare = .go { frame := Frame.enter P f args .normal, callers := fr :: cs, status := .running, dying := none } w' := by
  have : (match fr.todo with | .call _ true _ _ :: _ => CallKind.wrapped | _ => CallKind.normal) = .normal := by
    split
    · rename_i heq; exact absurd (by rw [heq]; rfl) (hc _ _ _)
    · rfl
  simp [stepG.apply, h]
  exact congrArg (Frame.enter P f args) this
theorem a_round {l : Nat} {f : FuncId} {tmps : Array Value} {a b : Code} (h : s.run P w = .ok (.round l f tmps a b) w') :
    (stepG.apply P true fr cs none s w).bare = .go { frame := Frame.round l f tmps a b .normal, callers := fr :: cs, status := .running, dying := none } w' := by
  simp [stepG.apply, h]
theorem a_defer {d : Deferred} (h : s.run P w = .ok (.defer d) w') :
    (stepG.apply P true fr cs none s w).bare = .go { frame := { fr with defers := d :: fr.defers }.finish undef, callers := cs, status := .running, dying := none } w' := by
  simp [stepG.apply, h]
theorem a_recover {cs' : List Frame} {v : Value} (hr : fr.roundOf = none) (ht : tryRecover fr cs = some (v, cs')) (h : s.run P w = .ok .recover w') :
    (stepG.apply P true fr cs none s w).bare = .go { frame := fr.finish v, callers := cs', status := .running, dying := none } w' := by
  simp [stepG.apply, h, hr, ht]
theorem a_recoverN (hr : fr.roundOf = none) (ht : tryRecover fr cs = none) (h : s.run P w = .ok .recover w') :
    (stepG.apply P true fr cs none s w).bare = .go { frame := fr.finish .nilIface, callers := cs, status := .running, dying := none } w' := by
  simp [stepG.apply, h, hr, ht]
theorem a_panic {v : Value} (h : s.run P w = .halt (.panic v) w') :
    (stepG.apply P true fr cs none s w).bare = .go { frame := fr.raise [{ v, recovered := false }], callers := cs, status := .running, dying := none } w' := by
  simp [stepG.apply, h]
end apply
end
end Go.Den

namespace Go.Den

inductive IRel (ρ : Rho) : AItem → Item → Prop
  | code (c : Code) : IRel ρ (.code c) (.code c)
  | inBlock (id : Nat) : IRel ρ (.inBlock id) (.inBlock id)
  | inLoop (b : Code) : IRel ρ (.inLoop b) (.inLoop b)
  | inScope (b : Code) : IRel ρ (.inScope b) (.inScope b)
  | ops (all : Array Oper) (n : Nat) : IRel ρ (.ops all (all.toList.drop n)) (.inRegion all (List.range' n (all.size - n)))
  | inRangeFunc (l : Nat) (loc : Loc) (h : ρ l = some loc) : IRel ρ (.inRangeFunc l) (.inRangeFunc loc.blk)
  | endRangeFunc (l : Nat) (loc : Loc) (h : ρ l = some loc) : IRel ρ (.endRangeFunc l) (.endRangeFunc loc.blk)
  | beginRound : IRel ρ .beginRound .beginRound

abbrev Is (ρ : Rho) := All2 (IRel ρ)

theorem IRel.mono {ρ ρ' : Rho} (hle : ρ.Le ρ') {x : AItem} {y : Item} (h : IRel ρ x y) : IRel ρ' x y := by
  cases h with
  | code => exact .code _
  | inBlock => exact .inBlock _
  | inLoop => exact .inLoop _
  | inScope => exact .inScope _
  | ops => exact .ops _ _
  | inRangeFunc l loc h => exact .inRangeFunc l loc (hle _ _ h)
  | endRangeFunc l loc h => exact .endRangeFunc l loc (hle _ _ h)
  | beginRound => exact .beginRound

/-! ### Slots -/
section slots
variable (ρ : Rho) (ops : Array Oper) (nt : Nat)

/-- what op k sees in the slots, in whatever order -/
def envOf (base V : Nat → Value) (k : Nat) : Nat → Value := fun x => bif Nat.blt x nt then tv ops nt base V (ahead ops k) ops.size x else undef

structure DBase (tm : Tr Value) (tm' : Array Value) (base V : Nat → Value) (A L : Nat → Bool) : Prop where
  back : edgesOk ops = true
  slots : slotsOk ops = true
  clA : Closed ops A
  clL : Closed ops L
  sub : ∀ i, L i = true → A i = true
  dom : ∀ i, A i = true → i < ops.size
  size : tm'.size = nt
  out : ∀ x, nt ≤ x → tm.get x = none
  abs : ∀ x, x < nt → slotF tm x = tv ops nt base V A ops.size x
  con : ∀ x, x < nt → VRel ρ (tv ops nt base V L ops.size x) (tm'.getD x undef)
end slots

section
variable {ρ : Rho} {ops : Array Oper} {nt : Nat} {tm : Tr Value} {tm' : Array Value} {base V : Nat → Value} {A L : Nat → Bool}

theorem DBase.mono {ρ' : Rho} (hle : ρ.Le ρ') (D : DBase ρ ops nt tm tm' base V A L) : DBase ρ' ops nt tm tm' base V A L :=
  ⟨D.back, D.slots, D.clA, D.clL, D.sub, D.dom, D.size, D.out, D.abs, fun x hx => (D.con x hx).mono hle⟩

theorem DBase.sameOn (D : DBase ρ ops nt tm tm' base V A L) {k : Nat} {o : Oper} (hk : ops[k]? = some o) (hn : A k = false) (hm : Met o A) : SameOn ops o (slotF tm) (envOf ops nt base V k) := by
  intro x hx
  unfold envOf
  by_cases hlt : x < nt
  · rw [blt_mk hlt, D.abs x hlt]
    exact tv_ahead D.back D.slots D.clA hk hn hm (.inr hx) ops.size
  · have : Nat.blt x nt = false := by
      cases h : Nat.blt x nt with
      | false => rfl
      | true => exact absurd (blt_inv h) hlt
    rw [this]
    unfold slotF
    rw [D.out x (Nat.le_of_not_lt hlt)]; rfl

theorem DBase.relOn (D : DBase ρ ops nt tm tm' base V A L) {k : Nat} {o : Oper} (hk : ops[k]? = some o) (hn : L k = false) (hm : Met o L) : RelOn ρ ops o (envOf ops nt base V k) tm' := by
  intro x hx
  unfold envOf
  by_cases hlt : x < nt
  · rw [blt_mk hlt]
    simp only [cond_true]
    rw [← tv_ahead D.back D.slots D.clL hk hn hm (.inr hx) ops.size]
    exact D.con x hlt
  · have : Nat.blt x nt = false := by
      cases h : Nat.blt x nt with
      | false => rfl
      | true => exact absurd (blt_inv h) hlt
    rw [this, Array.getD_eq_getD_getElem?, Array.getElem?_eq_none (by rw [D.size]; exact Nat.le_of_not_lt hlt)]
    exact VRel.undef ρ

theorem envOf_setV {i k : Nat} {v : Value} (h : ∀ j, ahead ops k j = true → j ≠ i) : envOf ops nt base (setV V i v) k = envOf ops nt base V k := by
  funext x
  unfold envOf
  congr 1
  refine tv_congr ops.size fun j _ _ => ⟨rfl, fun hj => ?_⟩
  have := h j hj
  simp [setV, this]

def setTm (tm : Tr Value) (nt : Nat) (d : Option Tmp) (v : Value) : Tr Value :=
  match d with
  | none => tm
  | some d => bif Nat.blt d nt then tm.set d (some v) else tm

theorem setT_eq (fr : AFrame) (d : Option Tmp) (v : Value) : setT fr d v = setTm fr.tmps fr.nt d v := by cases d <;> rfl

theorem setTm_out {d : Option Tmp} {v : Value} (h : ∀ x, nt ≤ x → tm.get x = none) : ∀ x, nt ≤ x → (setTm tm nt d v).get x = none := by
  intro x hx
  unfold setTm
  cases d with
  | none => exact h x hx
  | some d =>
    cases hb : Nat.blt d nt with
    | false => simp only [hb, cond_false]; exact h x hx
    | true =>
      have := blt_inv hb
      simp only [hb, cond_true, Tr.get_set]
      rw [if_neg (by omega)]; exact h x hx

theorem slotF_setTm' {v : Value} (x : Nat) : ∀ (d : Option Tmp), (d = some x ∧ x < nt → slotF (setTm tm nt d v) x = v) ∧ (¬ (d = some x ∧ x < nt) → slotF (setTm tm nt d v) x = slotF tm x)
  | none => ⟨fun h => (by cases h.1), fun _ => rfl⟩
  | some d => by
    unfold setTm slotF
    simp only [Option.some.injEq]
    by_cases hlt : d < nt
    · rw [blt_mk hlt]
      simp only [cond_true, Tr.get_set]
      refine ⟨fun h => by rw [if_pos h.1.symm]; rfl, fun h => ?_⟩
      have hne : ¬ (x = d) := fun e => h ⟨e.symm, by rw [e]; exact hlt⟩
      rw [if_neg hne]
    · have : Nat.blt d nt = false := by
        cases h : Nat.blt d nt with
        | false => rfl
        | true => exact absurd (blt_inv h) hlt
      rw [this]
      refine ⟨fun h => ?_, fun _ => rfl⟩
      exact absurd (h.1 ▸ h.2) hlt

theorem dstN_iff {i x : Nat} {o : Oper} (hi : ops[i]? = some o) : dstN ops nt i = some x ↔ o.dst = some x ∧ x < nt := by
  constructor
  · intro h
    obtain ⟨h1, p, hp, hd⟩ := dstN_inv h
    rw [hi] at hp; cases hp
    exact ⟨hd, h1⟩
  · rintro ⟨h1, h2⟩
    exact dstN_of hi h1 h2

theorem slotF_setTm {i : Nat} {o : Oper} {v : Value} (hi : ops[i]? = some o) (x : Nat) : slotF (setTm tm nt o.dst v) x = if dstN ops nt i = some x then v else slotF tm x := by
  obtain ⟨h1, h2⟩ := slotF_setTm' (tm := tm) (nt := nt) (v := v) x o.dst
  by_cases h : dstN ops nt i = some x
  · rw [if_pos h]; exact h1 ((dstN_iff hi).1 h)
  · rw [if_neg h]; exact h2 fun e => h ((dstN_iff hi).2 e)

/-- An operation done by the abstract machine. -/
theorem DBase.absAdd (D : DBase ρ ops nt tm tm' base V A L) {i : Nat} {o : Oper} (hi : ops[i]? = some o) (hn : A i = false) (hm : Met o A) (v : Value) :
    DBase ρ ops nt (setTm tm nt o.dst v) tm' base (setV V i v) (addS A i) L where
  back := D.back
  slots := D.slots
  clA := D.clA.add hi hm
  clL := D.clL
  sub j hj := addS_mono (D.sub j hj)
  dom j hj := by
    rcases addS_cases hj with h | h
    · exact D.dom j h
    · subst h; exact getElem?_lt hi
  size := D.size
  out := setTm_out D.out
  abs x hx := by
    rw [slotF_setTm hi x, tv_add hn ops.size (getElem?_lt hi) fun j _ hj hdj hdi => writer_lt D.back D.slots D.clA hi hn hj hdj hdi]
    rw [D.abs x hx]
  con x hx := by
    have : tv ops nt base (setV V i v) L ops.size x = tv ops nt base V L ops.size x := by
      refine tv_congr ops.size fun j _ _ => ⟨rfl, fun hj => ?_⟩
      have : j ≠ i := fun e => by
        have := D.sub j hj
        rw [e, hn] at this; cases this
      simp [setV, this]
    rw [this]
    exact D.con x hx

theorem putT_size {d : Option Tmp} {v : Value} : (putT tm' d v).size = tm'.size := by cases d <;> simp [putT]

theorem putT_get' {v : Value} (hs : tm'.size = nt) (x : Nat) : ∀ (d : Option Tmp), (d = some x ∧ x < nt → (putT tm' d v).getD x undef = v) ∧ (¬ (d = some x ∧ x < nt) → (putT tm' d v).getD x undef = tm'.getD x undef)
  | none => ⟨fun h => (by cases h.1), fun _ => rfl⟩
  | some d => by
    unfold putT
    simp only [Array.getD_eq_getD_getElem?, Option.some.injEq]
    by_cases e : d = x
    · subst e
      refine ⟨fun h => ?_, fun h => ?_⟩
      · rw [Array.getElem?_setIfInBounds_self_of_lt (by rw [hs]; exact h.2)]; rfl
      · have hge : tm'.size ≤ d := by rw [hs]; exact Nat.le_of_not_lt fun e => h ⟨rfl, e⟩
        rw [Array.getElem?_eq_none (by simpa using hge), Array.getElem?_eq_none hge]
    · exact ⟨fun h => absurd h.1 e, fun _ => by rw [Array.getElem?_setIfInBounds_ne e]⟩

theorem putT_get {i : Nat} {o : Oper} {v : Value} (hs : tm'.size = nt) (hi : ops[i]? = some o) (x : Nat) : (putT tm' o.dst v).getD x undef = if dstN ops nt i = some x then v else tm'.getD x undef := by
  obtain ⟨h1, h2⟩ := putT_get' (tm' := tm') (nt := nt) (v := v) hs x o.dst
  by_cases h : dstN ops nt i = some x
  · rw [if_pos h]; exact h1 ((dstN_iff hi).1 h)
  · rw [if_neg h]; exact h2 fun e => h ((dstN_iff hi).2 e)

/-- An operation done by the model. -/
theorem DBase.conAdd (D : DBase ρ ops nt tm tm' base V A L) {k : Nat} {o : Oper} (hk : ops[k]? = some o) (hA : A k = true) (hn : L k = false) (hm : Met o L) {v' : Value} (hv : VRel ρ (V k) v') :
    DBase ρ ops nt tm (putT tm' o.dst v') base V A (addS L k) where
  back := D.back
  slots := D.slots
  clA := D.clA
  clL := D.clL.add hk hm
  sub j hj := by
    rcases addS_cases hj with h | h
    · exact D.sub j h
    · subst h; exact hA
  dom := D.dom
  size := by rw [putT_size]; exact D.size
  out := D.out
  abs := D.abs
  con x hx := by
    have hV : setV V k (V k) = V := by
      funext j
      unfold setV
      split
      · rename_i e; rw [e]
      · rfl
    have := tv_add (nt := nt) (base := base) (V := V) (v := V k) (x := x) hn ops.size (getElem?_lt hk) fun j _ hj hdj hdi => writer_lt D.back D.slots D.clL hk hn hj hdj hdi
    rw [hV] at this
    rw [this, putT_get D.size hk x]
    split
    · exact hv
    · exact D.con x hx
end

/-! ### Operations that the abstract machine has done ahead of the model -/
inductive Replay (E : Env) (ops : Array Oper) (nt : Nat) (base V : Nat → Value) (LP : Nat → TypeId → Addr → Value → Prop) (k : Nat) (o : Oper) : Prop
  | skip (hw : wantedF (envOf ops nt base V k) ops o = some false) (hv : V k = undef) : Replay E ops nt base V LP k o
  | load (t : TypeId) (a : Operand) (ad : Addr) (hw : wantedF (envOf ops nt base V k) ops o = some true) (hop : o.op = .load t a)
      (ha : addrOf (evF (envOf ops nt base V k) a) = some ad) (hl : LP k t ad (V k)) : Replay E ops nt base V LP k o
  | pure (hw : wantedF (envOf ops nt base V k) ops o = some true) (hp : pureOp E (evF (envOf ops nt base V k)) o = some (V k)) : Replay E ops nt base V LP k o

section
variable {E : Env} {ρ : Rho} {H : AHeap} {w : World} {ops : Array Oper} {nt : Nat} {tm : Tr Value} {tm' : Array Value} {base V : Nat → Value} {A L : Nat → Bool}

theorem Replay.mono {LP LP' : Nat → TypeId → Addr → Value → Prop} {k : Nat} {o : Oper} (h : Replay E ops nt base V LP k o) (hs : ∀ t a v, LP k t a v → LP' k t a v) : Replay E ops nt base V LP' k o := by
  cases h with
  | skip hw hv => exact .skip hw hv
  | load t a ad hw hop ha hl => exact .load t a ad hw hop ha (hs _ _ _ hl)
  | pure hw hp => exact .pure hw hp

theorem Replay.setV {LP : Nat → TypeId → Addr → Value → Prop} {k i : Nat} {o : Oper} {v : Value} (h : Replay E ops nt base V LP k o) (hki : k ≠ i) (ha : ∀ j, ahead ops k j = true → j ≠ i) :
    Replay E ops nt base (setV V i v) LP k o := by
  have h1 : Den.setV V i v k = V k := by simp [Den.setV, hki]
  have h2 := envOf_setV (nt := nt) (base := base) (V := V) (v := v) ha
  cases h with
  | skip hw hv => exact .skip (h2 ▸ hw) (h1.trans hv)
  | load t a ad hw hop had hl => exact .load t a ad (h2 ▸ hw) hop (h2 ▸ had) (h1 ▸ hl)
  | pure hw hp => exact .pure (h2 ▸ hw) (by rw [h1, h2]; exact hp)

theorem pureOp_defer {av : Operand → Value} {o : Oper} {v : Value} (h : pureOp E av o = some v) : ∀ c, o.op ≠ .defer c := by
  intro c hc
  unfold pureOp at h
  rw [hc] at h
  cases h

/-- Such an operation, done by the model. -/
theorem float_con (hE : E.Ok) (hh : HRel E ρ H w) (D : DBase ρ ops nt tm tm' base V A L) {k : Nat} {o : Oper} (hk : ops[k]? = some o) (hA : A k = true) (hn : L k = false) (hm : Met o L)
    {LP : Nat → TypeId → Addr → Value → Prop} (hLP : ∀ t a v, LP k t a v → loadT E H t a = some v) (hr : Replay E ops nt base V LP k o)
    {fn : FuncId} {rest : List Nat} {K : List Item} {ds : List Deferred} {kd : CallKind} {ro : Option Nat} {cs : List Frame} :
    ∃ v', Go.step E.P (lone ⟨fn, tm', .inRegion ops (k :: rest) :: K, ds, .run, kd, ro⟩ cs w) = .next (lone ⟨fn, putT tm' o.dst v', .inRegion ops rest :: K, ds, .run, kd, ro⟩ cs w) ∧
      DBase ρ ops nt tm (putT tm' o.dst v') base V A (addS L k) := by
  have hrel := D.relOn hk hn hm
  have value : ∀ (v' : Value), wantedF (envOf ops nt base V k) ops o = some true → (∀ c, o.op ≠ .defer c) →
      (execOp (⟨fn, tm', .inRegion ops (k :: rest) :: K, ds, .run, kd, ro⟩ : Frame).eval o).run E.P w = .ok (.value v') w → VRel ρ (V k) v' →
      ∃ v', Go.step E.P (lone ⟨fn, tm', .inRegion ops (k :: rest) :: K, ds, .run, kd, ro⟩ cs w) = .next (lone ⟨fn, putT tm' o.dst v', .inRegion ops rest :: K, ds, .run, kd, ro⟩ cs w) ∧
      DBase ρ ops nt tm (putT tm' o.dst v') base V A (addS L k) := by
    intro v' hw hd hrun hv
    refine ⟨v', step_lone_go ?_, D.conAdd hk hA hn hm hv⟩
    rw [g_op hk (wanted_run hrel hw) (.inr hd), a_value hrun, finish_op, hk]
    rfl
  cases hr with
  | skip hw hv => exact ⟨undef, s_opSkip hk (wanted_run hrel hw), D.conAdd hk hA hn hm (hv ▸ VRel.undef ρ)⟩
  | load t a ad hw hop had hl =>
    have hev := eval_run (fr := ⟨fn, tm', .inRegion ops (k :: rest) :: K, ds, .run, kd, ro⟩) hrel a (by rw [hop]; simp [Op.operands])
    rw [addrOf_inv had] at hev
    obtain ⟨loc, h1, _, h2⟩ := hev.ptr_inv
    obtain ⟨v', h3, h4⟩ := loadT_run hE hh (hLP _ _ _ hl) h1
    refine value v' hw (by rw [hop]; intro c h; cases h) ?_ h4
    unfold execOp
    rw [hop]
    simp only [h2, Instr.loadAt, Instr.sureAddr, Sem.run_bind, Sem.run_pure, Result.andThen_ok, h3]
  | pure hw hp =>
    obtain ⟨v', h1, h2⟩ := pure_run' (w := w) hE (eval_run (fr := ⟨fn, tm', .inRegion ops (k :: rest) :: K, ds, .run, kd, ro⟩) hrel) hp
    exact value v' hw (pureOp_defer hp) h1 h2
end

/-! ### The next operation of the model -/
theorem catchup {E : Env} {ρ : Rho} {H : AHeap} {w : World} {ops : Array Oper} {nt : Nat} {tm : Tr Value} {base V : Nat → Value} {A : Nat → Bool}
    (hE : E.Ok) (hh : HRel E ρ H w) {LP : Nat → TypeId → Addr → Value → Prop} (hLP : ∀ k t a v, LP k t a v → loadT E H t a = some v)
    (hfl : ∀ i o, ops[i]? = some o → isEff o = false → Met o A → A i = true)
    {fn : FuncId} {K : List Item} {ds : List Deferred} {kd : CallKind} {ro : Option Nat} {cs : List Frame} : ∀ (l : List Nat) (tm' : Array Value) (L : Nat → Bool),
    DBase ρ ops nt tm tm' base V A L → Sched ops L l → (∀ i o, ops[i]? = some o → isEff o = true → A i = true → L i = true) →
    (∀ k o, A k = true → L k = false → ops[k]? = some o → Replay E ops nt base V LP k o) →
    ∃ tm2 L2 l2, Steps E.P (lone ⟨fn, tm', .inRegion ops l :: K, ds, .run, kd, ro⟩ cs w) (lone ⟨fn, tm2, .inRegion ops l2 :: K, ds, .run, kd, ro⟩ cs w) ∧
      DBase ρ ops nt tm tm2 base V A L2 ∧ Sched ops L2 l2 ∧ (∀ i o, ops[i]? = some o → isEff o = true → A i = true → L2 i = true) ∧
      (∀ k o, A k = true → L2 k = false → ops[k]? = some o → Replay E ops nt base V LP k o) ∧
      (l2 = [] ∨ ∃ e rest o, l2 = e :: rest ∧ ops[e]? = some o ∧ isEff o = true ∧ A e = false ∧ L2 e = false ∧ Met o L2)
  | [], tm', L, D, hs, he, hr => ⟨tm', L, [], .refl _ _, D, hs, he, hr, .inl rfl⟩
  | k :: rest, tm', L, D, hs, he, hr => by
    cases hs with
    | cons _ _ o _ ho hn hm hs' =>
      cases hf : isEff o with
      | true =>
        refine ⟨tm', L, k :: rest, .refl _ _, D, .cons _ _ o _ ho hn hm hs', he, hr, .inr ⟨k, rest, o, rfl, ho, hf, ?_, hn, hm⟩⟩
        cases hA : A k with
        | false => rfl
        | true => rw [he k o ho hf hA] at hn; cases hn
      | false =>
        have hA := hfl k o ho hf (hm.mono fun j hj => D.sub j hj)
        obtain ⟨v', h1, h2⟩ := float_con (fn := fn) (rest := rest) (K := K) (ds := ds) (kd := kd) (ro := ro) (cs := cs) hE hh D ho hA hn hm (hLP k) (hr k o hA hn ho)
        obtain ⟨tm2, L2, l2, g1, g2, g3, g4, g5, g6⟩ := catchup hE hh hLP hfl (fn := fn) (K := K) (ds := ds) (kd := kd) (ro := ro) (cs := cs) rest _ _ h2 hs'
          (fun i p hi hp hAi => addS_mono (he i p hi hp hAi))
          (fun j p hAj hLj hj => hr j p hAj (by
            cases hL : L j with
            | false => rfl
            | true => rw [addS_mono hL] at hLj; cases hLj) hj)
        exact ⟨tm2, L2, l2, .head h1 g1, g2, g3, g4, g5, g6⟩

end Go.Den

namespace Go.Den

structure PERel (ρ : Rho) (e e' : PanicEntry) : Prop where
  v : VRel ρ e.v e'.v
  recovered : e'.recovered = e.recovered
  goexit : e'.goexit = e.goexit

inductive MRel (ρ : Rho) : FrameMode → FrameMode → Prop
  | run : MRel ρ .run .run
  | returning : MRel ρ .returning .returning
  | panicking (c c' : List PanicEntry) (h : All2 (PERel ρ) c c') : MRel ρ (.panicking c) (.panicking c')

inductive RRel (ρ : Rho) : Option Nat → Option Nat → Prop
  | none : RRel ρ none none
  | some (l : Nat) (loc : Loc) (h : ρ l = some loc) : RRel ρ (some l) (some loc.blk)

structure FBase (ρ : Rho) (fr : AFrame) (fr' : Frame) : Prop where
  fn : fr'.fn = fr.fn
  mode : MRel ρ fr.mode fr'.mode
  kind : fr'.kind = fr.kind
  round : RRel ρ fr.roundOf fr'.roundOf
  defers : All2 (DfRel ρ) fr.defers fr'.defers

structure Plain (ρ : Rho) (fr : AFrame) (fr' : Frame) : Prop where
  base : FBase ρ fr fr'
  tmps : TRel ρ fr.tmps fr.nt fr'.tmps
  todo : Is ρ fr.todo fr'.todo

/-- A frame in a region that draws its order; 'l' is the model's rest of that region. -/
structure InDraw (E : Env) (ρ : Rho) (fr : AFrame) (fr' : Frame) (d : DrawSt) (k : List AItem) (LP : Nat → TypeId → Addr → Value → Prop) (L : Nat → Bool) (l : List Nat) (k' : List Item) (base V : Nat → Value) : Prop where
  fb : FBase ρ fr fr'
  mode : fr.mode = .run
  todo : fr.todo = .draw d :: k
  todo' : fr'.todo = .inRegion d.all l :: k'
  tail : Is ρ k k'
  slots : DBase ρ d.all fr.nt fr.tmps fr'.tmps base V d.done.testBit L
  effs : ∀ i o, d.all[i]? = some o → isEff o = true → d.done.testBit i = true → L i = true
  replay : ∀ i o, d.done.testBit i = true → L i = false → d.all[i]? = some o → Replay E d.all fr.nt base V LP i o

def Watched (d : DrawSt) (k : Nat) (t : TypeId) (a : Addr) (v : Value) : Prop := (k, t, a, v) ∈ d.watch
def Holds (E : Env) (H : AHeap) (d : DrawSt) (k : Nat) (t : TypeId) (a : Addr) (v : Value) : Prop := (k, t, a, v) ∈ d.watch ∧ loadT E H t a = some v

inductive Ready (E : Env) (ρ : Rho) (H : AHeap) (fr : AFrame) (fr' : Frame) : Prop
  | mk (d : DrawSt) (k : List AItem) (L : Nat → Bool) (l : List Nat) (k' : List Item) (base V : Nat → Value) (hc : d.cur = none)
      (h : InDraw E ρ fr fr' d k (Holds E H d) L l k' base V) (hs : Sched d.all L l) : Ready E ρ H fr fr'

inductive Wait (E : Env) (ρ : Rho) (fr : AFrame) (fr' : Frame) : Prop
  | mk (d : DrawSt) (k : List AItem) (L : Nat → Bool) (i : Nat) (o : Oper) (l : List Nat) (k' : List Item) (base V : Nat → Value) (hc : d.cur = some i)
      (h : InDraw E ρ fr fr' d k (Watched d) L (i :: l) k' base V) (ho : d.all[i]? = some o) (hA : d.done.testBit i = false) (hL : L i = false) (hm : Met o L)
      (hs : Sched d.all (addS L i) l) : Wait E ρ fr fr'

inductive TopR (E : Env) (ρ : Rho) (H : AHeap) (fr : AFrame) (fr' : Frame) : Prop
  | plain (h : Plain ρ fr fr') : TopR E ρ H fr fr'
  | ready (h : Ready E ρ H fr fr') : TopR E ρ H fr fr'

inductive CalR (E : Env) (ρ : Rho) (p : Bool) (fr : AFrame) (fr' : Frame) : Prop
  | plain (h : Plain ρ fr fr') : CalR E ρ p fr fr'
  | wait (hp : p = true) (h : Wait E ρ fr fr') : CalR E ρ p fr fr'

def isNormal : CallKind → Bool
  | .normal => true
  | _ => false

inductive Stk (E : Env) (ρ : Rho) (cs0 : List Frame) : CallKind → List AFrame → List Frame → Prop
  | nil (kd : CallKind) : Stk E ρ cs0 kd [] cs0
  | cons (kd : CallKind) (c : AFrame) (c' : Frame) (cs : List AFrame) (cs' : List Frame) (h : CalR E ρ (isNormal kd) c c') (hs : Stk E ρ cs0 c.kind cs cs') : Stk E ρ cs0 kd (c :: cs) (c' :: cs')

structure StR (E : Env) (ρ : Rho) (cs0 : List Frame) (s : St) (fr' : Frame) (cs' : List Frame) (w : World) : Prop where
  top : TopR E ρ s.heap s.top fr'
  stack : Stk E ρ cs0 s.top.kind s.rest cs'
  heap : HRel E ρ s.heap w

section mono
variable {E : Env} {ρ ρ' : Rho} (hle : ρ.Le ρ')
include hle
theorem PERel.mono {e e' : PanicEntry} (h : PERel ρ e e') : PERel ρ' e e' := ⟨h.v.mono hle, h.recovered, h.goexit⟩
theorem MRel.mono {m m' : FrameMode} (h : MRel ρ m m') : MRel ρ' m m' := by
  cases h with
  | run => exact .run
  | returning => exact .returning
  | panicking c c' h => exact .panicking _ _ (h.mono fun _ _ h => h.mono hle)
theorem RRel.mono {a b : Option Nat} (h : RRel ρ a b) : RRel ρ' a b := by
  cases h with
  | none => exact .none
  | some l loc h => exact .some l loc (hle _ _ h)
theorem FBase.mono {fr : AFrame} {fr' : Frame} (h : FBase ρ fr fr') : FBase ρ' fr fr' :=
  ⟨h.fn, h.mode.mono hle, h.kind, h.round.mono hle, h.defers.mono fun _ _ h => h.mono hle⟩
theorem Is.mono {k : List AItem} {k' : List Item} (h : Is ρ k k') : Is ρ' k k' := All2.mono h fun _ _ h => h.mono hle
theorem Plain.mono {fr : AFrame} {fr' : Frame} (h : Plain ρ fr fr') : Plain ρ' fr fr' := ⟨h.base.mono hle, h.tmps.mono hle, Is.mono hle h.todo⟩
theorem InDraw.mono {fr : AFrame} {fr' : Frame} {d : DrawSt} {k : List AItem} {LP : Nat → TypeId → Addr → Value → Prop} {L : Nat → Bool} {l : List Nat} {k' : List Item} {base V : Nat → Value}
    (h : InDraw E ρ fr fr' d k LP L l k' base V) : InDraw E ρ' fr fr' d k LP L l k' base V :=
  ⟨h.fb.mono hle, h.mode, h.todo, h.todo', Is.mono hle h.tail, h.slots.mono hle, h.effs, h.replay⟩
theorem Wait.mono {fr : AFrame} {fr' : Frame} (h : Wait E ρ fr fr') : Wait E ρ' fr fr' := by
  cases h with
  | mk d k L i o l k' base V hc h ho hA hL hm hs => exact .mk d k L i o l k' base V hc (h.mono hle) ho hA hL hm hs
theorem CalR.mono {p : Bool} {fr : AFrame} {fr' : Frame} (h : CalR E ρ p fr fr') : CalR E ρ' p fr fr' := by
  cases h with
  | plain h => exact .plain (h.mono hle)
  | wait hp h => exact .wait hp (h.mono hle)
theorem Stk.mono {cs0 : List Frame} {kd : CallKind} {cs : List AFrame} {cs' : List Frame} (h : Stk E ρ cs0 kd cs cs') : Stk E ρ' cs0 kd cs cs' := by
  induction h with
  | nil => exact .nil _
  | cons kd c c' cs cs' h _ ih => exact .cons kd c c' cs cs' (h.mono hle) ih
end mono

/-- A frame of another kind looks at the same stack, where that waits for nothing. -/
theorem Stk.normal {E : Env} {ρ : Rho} {cs0 : List Frame} {kd : CallKind} {cs : List AFrame} {cs' : List Frame} (h : Stk E ρ cs0 kd cs cs') : Stk E ρ cs0 .normal cs cs' := by
  cases h with
  | nil => exact .nil _
  | cons _ c c' cs cs' h hs =>
    refine .cons .normal c c' cs cs' ?_ hs
    cases h with
    | plain h => exact .plain h
    | wait hp h => exact .wait rfl h

/-! ### Slots -/
section
variable {E : Env} {ρ : Rho}

theorem TRel.slot {t : Tr Value} {n : Nat} {a : Array Value} (h : TRel ρ t n a) (x : Nat) : VRel ρ (slotF t x) (a.getD x undef) := by
  by_cases hx : x < n
  · obtain ⟨v', h1, h2⟩ := h.at_ x hx
    rw [Array.getD_eq_getD_getElem?, h1]; exact h2
  · unfold slotF
    rw [h.out x (by omega), Array.getD_eq_getD_getElem?, Array.getElem?_eq_none (by rw [h.size]; omega)]
    exact VRel.undef ρ

theorem TRel.of_slot {t : Tr Value} {n : Nat} {a : Array Value} (hs : a.size = n) (ho : ∀ i, n ≤ i → t.get i = none) (h : ∀ x, x < n → VRel ρ (slotF t x) (a.getD x undef)) : TRel ρ t n a := by
  refine ⟨hs, fun i hi => ?_, ho⟩
  have := h i hi
  have hlt : i < a.size := by omega
  rw [Array.getD_eq_getD_getElem?, Array.getElem?_eq_getElem hlt] at this
  exact ⟨a[i], Array.getElem?_eq_getElem hlt, this⟩

theorem TRel.put {t : Tr Value} {n : Nat} {a : Array Value} (h : TRel ρ t n a) {v v' : Value} (hv : VRel ρ v v') (d : Option Tmp) : TRel ρ (setTm t n d v) n (putT a d v') := by
  refine .of_slot (by rw [putT_size]; exact h.size) (setTm_out h.out) fun x hx => ?_
  obtain ⟨h1, h2⟩ := slotF_setTm' (tm := t) (nt := n) (v := v) x d
  obtain ⟨g1, g2⟩ := putT_get' (tm' := a) (v := v') h.size x d
  by_cases he : d = some x ∧ x < n
  · rw [h1 he, g1 he]; exact hv
  · rw [h2 he, g2 he]; exact h.slot x

theorem TRel.eval {t : Tr Value} {n : Nat} {fr : Frame} (h : TRel ρ t n fr.tmps) (x : Operand) : VRel ρ (evF (slotF t) x) (fr.eval x) := by
  cases x with
  | tmp t => exact h.slot t
  | const v =>
    simp only [evF, Frame.eval]
    cases hs : scalar v with
    | true => exact scalar_refl hs
    | false => exact .poison _
  | global g => exact .poison _
  | func f => exact VRel.func_of (.func f) .nil .nil

theorem go_eq (fr : AFrame) (t : Tr Value) (todo : List AItem) : fr.go t todo = ⟨fr.fn, t, fr.nt, todo, fr.defers, fr.mode, fr.kind, fr.roundOf⟩ := by
  cases fr; simp only [AFrame.go, forceTr_eq]

theorem FBase.go {fr : AFrame} {fr' : Frame} (h : FBase ρ fr fr') (t : Tr Value) (todo : List AItem) (t' : Array Value) (todo' : List Item) :
    FBase ρ (fr.go t todo) { fr' with tmps := t', todo := todo' } := by
  rw [go_eq]
  exact ⟨h.fn, h.mode, h.kind, h.round, h.defers⟩

/-! ### A value comes back -/
theorem range'_inv {n m : Nat} {i : Nat} {r : List Nat} (h : List.range' n m = i :: r) : i = n ∧ ∃ m', m = m' + 1 ∧ r = List.range' (n + 1) m' := by
  cases m with
  | zero => simp at h
  | succ m =>
    rw [List.range'_succ] at h
    simp only [List.cons.injEq] at h
    exact ⟨h.1.symm, m, rfl, h.2.symm⟩

theorem drop_cons_inv {α : Type} {l : List α} {n : Nat} {o : α} {r : List α} (h : l.drop n = o :: r) : l[n]? = some o ∧ n < l.length ∧ r = l.drop (n + 1) := by
  have h1 : l[n]? = some o := by
    have := List.getElem?_drop (xs := l) (i := n) (j := 0)
    rw [h] at this
    simpa using this.symm
  have h2 : n < l.length := by
    rcases Nat.lt_or_ge n l.length with h | h
    · exact h
    · rw [List.getElem?_eq_none h] at h1; cases h1
  refine ⟨h1, h2, ?_⟩
  have := congrArg List.tail h
  simpa using this.symm

/-- the head of a region in its own order -/
theorem ops_head {all : Array Oper} {n : Nat} {o : Oper} {r : List Oper} (h : all.toList.drop n = o :: r) :
    all[n]? = some o ∧ r = all.toList.drop (n + 1) ∧ List.range' n (all.size - n) = n :: List.range' (n + 1) (all.size - (n + 1)) := by
  obtain ⟨h1, h2, h3⟩ := drop_cons_inv h
  have h2' : n < all.size := by simpa using h2
  refine ⟨by simpa using h1, h3, ?_⟩
  have : all.size - n = (all.size - (n + 1)) + 1 := by omega
  rw [this, List.range'_succ]

theorem testBit_add (n i : Nat) : (n ||| 2 ^ i).testBit = addS n.testBit i := by
  funext j
  unfold addS
  rw [Nat.testBit_or, Nat.testBit_two_pow]
  congr 1
  by_cases h : j = i
  · subst h; simp
  · have h1 : Nat.beq j i = false := by
      cases hb : Nat.beq j i with
      | false => rfl
      | true => exact absurd (beq_inv hb) h
    rw [h1]
    simp; exact fun e => h e.symm

theorem veq_eq : ∀ (n : Nat) (v w : Value), veq n v w = true → v = w := by
  intro n
  induction n with
  | zero => intro v w h; simp [veq] at h
  | succ n ih =>
    have lists : ∀ (a b : List Value), veq.all2 n a b = true → a = b := by
      intro a
      induction a with
      | nil => intro b h; cases b <;> simp_all [veq.all2]
      | cons x a iha =>
        intro b h
        cases b with
        | nil => simp [veq.all2] at h
        | cons y b =>
          simp only [veq.all2, Bool.and_eq_true] at h
          rw [ih x y h.1, iha b h.2]
    intro v w h
    unfold veq at h
    split at h
    all_goals first
      | (simp at h; done)
      | (simp_all; done)
      | (simp only [Bool.and_eq_true, decide_eq_true_eq] at h
         obtain ⟨rfl, h2⟩ := h
         rw [ih _ _ h2])
      | (simp only [Bool.and_eq_true, decide_eq_true_eq] at h
         obtain ⟨⟨rfl, h2⟩, h3⟩ := h
         rw [Array.toList_inj.1 (lists _ _ h2), Array.toList_inj.1 (lists _ _ h3)])
      | rw [Array.toList_inj.1 (lists _ _ h)]

end
end Go.Den

namespace Go.Den

section
variable {E : Env} {ρ : Rho} {H : AHeap} {w : World}

theorem setT_go (fr : AFrame) (d : Option Tmp) (v : Value) : setT fr d v = setTm fr.tmps fr.nt d v := setT_eq fr d v

theorem Met.bits {o : Oper} {n i : Nat} (h : Met o n.testBit) : Met o (n ||| 2 ^ i).testBit := by
  rw [testBit_add]; exact h.mono fun j hj => addS_mono hj

theorem ahead_self {ops : Array Oper} (hb : edgesOk ops = true) (i : Nat) : ∀ j, ahead ops i j = true → j ≠ i := fun j h e => by
  have := ahead_lt hb i i (Nat.le_refl _) j h
  omega

theorem stays_load {x : Nat × TypeId × Addr × Value} (h : stays E H x = true) : loadT E H x.2.1 x.2.2.1 = some x.2.2.2 := by
  unfold stays at h
  split at h
  · rename_i v hv
    rw [hv, veq_eq _ _ _ h]
  · cases h

/-- A value comes back to the frame that waits for it. -/
theorem finish_rel {c : AFrame} {c' : Frame} {v v' : Value} {fr1 : AFrame} (hc : CalR E ρ true c c') (hv : VRel ρ v v') (h : finish E c v H = some fr1) :
    TopR E ρ H fr1 (c'.finish v') ∧ fr1.kind = c.kind := by
  unfold finish at h
  cases hc with
  | plain hp =>
    obtain ⟨hb, ht, hi⟩ := hp
    obtain ⟨fn', tm', todo', ds', m', kd', ro'⟩ := c'
    simp only at ht hi
    split at h
    · rename_i all o rest k htodo
      simp only [Option.some.injEq] at h; subst h
      rw [htodo] at hi
      cases hi with
      | @cons _ y _ k' hx hk =>
        generalize hl : o :: rest = l at hx
        cases hx with
        | ops _ n =>
          obtain ⟨h1, h2, h3⟩ := ops_head hl.symm
          rw [h3, finish_op, h1]
          refine ⟨.plain ⟨hb.go _ _ _ _, ?_, ?_⟩, by rw [go_eq]⟩
          · rw [go_eq, setT_eq]; exact ht.put hv _
          · rw [go_eq, h2]; exact .cons (.ops all (n + 1)) hk
    · rename_i d k htodo
      rw [htodo] at hi
      cases hi with
      | cons hx _ => cases hx
    · rename_i l k htodo
      simp only [Option.some.injEq] at h; subst h
      rw [htodo] at hi
      cases hi with
      | cons hx hk =>
        cases hx with
        | inRangeFunc _ loc hl =>
          refine ⟨.plain ⟨hb.go _ _ _ _, ?_, ?_⟩, by rw [go_eq]⟩
          · rw [go_eq]; exact ht
          · rw [go_eq]; exact .cons (.endRangeFunc _ loc hl) hk
    · rename_i k htodo
      simp only [Option.some.injEq] at h; subst h
      rw [htodo] at hi
      cases hi with
      | cons hx hk =>
        cases hx
        refine ⟨.plain ⟨hb.go _ _ _ _, ?_, ?_⟩, by rw [go_eq]⟩
        · rw [go_eq]; exact ht
        · rw [go_eq]; exact hk
    · cases h
  | wait _ hw =>
    obtain ⟨d, k, L, i, o, l, k', base, V, hcur, hd, ho, hA, hL, hm, hs⟩ := hw
    obtain ⟨fn', tm', todo', ds', m', kd', ro'⟩ := c'
    have ht' := hd.todo'
    simp only at ht'
    subst ht'
    rw [hd.todo] at h
    simp only [hcur, Option.bind_some, Option.map_eq_some_iff] at h
    obtain ⟨d', hd', rfl⟩ := h
    unfold DrawSt.after at hd'
    simp only at hd'
    obtain ⟨hw, hd'⟩ := bif_some hd'
    simp only [Option.some.injEq] at hd'; subst hd'
    rw [finish_op, ho]
    simp only [Option.bind_some]
    have hmA : Met o d.done.testBit := hm.mono fun j hj => hd.slots.sub j hj
    have hself := ahead_self hd.slots.back i
    have D1 := hd.slots.absAdd ho hA hmA v
    have D2 := D1.conAdd ho (addS_same _ _) hL hm (v' := v') (by simp only [setV, if_true]; exact hv)
    refine ⟨.ready (.mk ⟨d.id, d.all, d.done ||| 2 ^ i, none, d.watch.filter fun x => !(((Region.before d.all).getD i 0).testBit x.1)⟩ k (addS L i) l k' base (setV V i v) rfl ⟨?_, ?_, ?_, rfl, hd.tail, ?_, ?_, ?_⟩ hs), by rw [go_eq]⟩
    · exact hd.fb.go _ _ _ _
    · rw [go_eq]; exact hd.mode
    · rw [go_eq]
    · rw [go_eq, setT_eq]
      simp only
      rw [testBit_add]
      have : dstOf d.all i = o.dst := by rw [dstOf_eq, ho]; rfl
      rw [this]
      exact D2
    · intro j p hj hp hdj
      simp only at hj hdj
      rw [testBit_add] at hdj
      rcases addS_cases hdj with h1 | h1
      · exact addS_mono (hd.effs j p hj hp h1)
      · subst h1; exact addS_same _ _
    · intro j p hdj hLj hj
      simp only at hj hdj
      rw [testBit_add] at hdj
      have hLj' : L j = false := by
        cases hx : L j with
        | false => rfl
        | true => rw [addS_mono hx] at hLj; cases hLj
      have hji : j ≠ i := fun e => by
        subst e; rw [addS_same] at hLj; cases hLj
      have hdj' : d.done.testBit j = true := by rw [addS_ne hji] at hdj; exact hdj
      have hr := hd.replay j p hdj' hLj' hj
      rw [go_eq]
      refine Replay.setV (Replay.mono hr fun t a u hl => ?_) hji fun q hq e => ?_
      · have hnb : ((Region.before d.all).getD i 0).testBit j = false := by
          cases hb : ((Region.before d.all).getD i 0).testBit j with
          | false => rfl
          | true =>
            have := met_ahead hd.slots.back hd.slots.clL i i (Nat.le_refl _) o ho hm j hb
            rw [hLj'] at this; cases this
        have hmem : (j, t, a, u) ∈ d.watch.filter fun x => !(((Region.before d.all).getD i 0).testBit x.1) := by
          rw [List.mem_filter]
          exact ⟨hl, by simp only [hnb]; rfl⟩
        exact ⟨hmem, stays_load (allL_iff.1 hw _ hmem)⟩
      · subst e
        have := met_ahead hd.slots.back hd.slots.clA j j (Nat.le_refl _) p hj (hd.slots.clA j p hdj' hj) q hq
        rw [hA] at this; cases this

/-! ### Which operation is next -/
theorem readyA_iff {done : Nat} {o : Oper} : readyA done o = true ↔ Met o done.testBit := by
  unfold readyA Met
  rw [List.all_eq_true]
  constructor
  · intro h e he hb
    have := h e he
    simpa [hb] using this
  · intro h e he
    cases hb : Region.binds .any e with
    | false => simp
    | true => simp [h e he hb]

theorem pickA_some {done : Nat} {eff : Bool} : ∀ {l : List Oper} {i j : Nat} {o : Oper}, pickA done eff l i = some (j, o) →
    ∃ n, j = i + n ∧ l[n]? = some o ∧ done.testBit j = false ∧ isEff o = eff ∧ Met o done.testBit
  | [], _, _, _, h => by simp [pickA] at h
  | p :: l, i, j, o, h => by
    unfold pickA at h
    cases hc : (!done.testBit i && (isEff p == eff) && readyA done p) with
    | true =>
      rw [hc] at h
      simp only [cond_true, Option.some.injEq, Prod.mk.injEq] at h
      obtain ⟨rfl, rfl⟩ := h
      simp only [Bool.and_eq_true, Bool.not_eq_true', beq_iff_eq] at hc
      exact ⟨0, rfl, rfl, hc.1.1, hc.1.2, readyA_iff.1 hc.2⟩
    | false =>
      rw [hc] at h
      simp only [cond_false] at h
      obtain ⟨n, rfl, h2, h3⟩ := pickA_some h
      refine ⟨n + 1, by omega, by simpa using h2, ?_⟩
      exact h3

theorem pickA_none {done : Nat} {eff : Bool} : ∀ {l : List Oper} {i : Nat}, pickA done eff l i = none →
    ∀ (n : Nat) (o : Oper), l[n]? = some o → isEff o = eff → Met o done.testBit → done.testBit (i + n) = true
  | [], _, _, n, o, h, _, _ => by simp at h
  | p :: l, i, h, n, o, hn, he, hm => by
    unfold pickA at h
    cases hc : (!done.testBit i && (isEff p == eff) && readyA done p) with
    | true => rw [hc] at h; simp at h
    | false =>
      rw [hc] at h
      simp only [cond_false] at h
      cases n with
      | zero =>
        simp only [List.getElem?_cons_zero, Option.some.injEq] at hn; subst hn
        cases hd : done.testBit i with
        | true => simp
        | false =>
          have h1 : (isEff p == eff) = true := by simp [he]
          rw [hd, h1, readyA_iff.2 hm] at hc
          cases hc
      | succ n =>
        have := pickA_none h n o (by simpa using hn) he hm
        have e : i.succ + n = i + (n + 1) := by omega
        rw [← e]; exact this

theorem othersBehind_spec {done e : Nat} {bf : Array Nat} : ∀ {l : List Oper} {i : Nat}, othersBehind done bf e l i = true →
    ∀ (n : Nat) (o : Oper), l[n]? = some o → isEff o = true → done.testBit (i + n) = false → i + n ≠ e → (bf.getD (i + n) 0).testBit e = true
  | [], _, _, n, o, h, _, _, _ => by simp at h
  | p :: l, i, h, n, o, hn, he, hd, hne => by
    unfold othersBehind at h
    cases hc : (!(isEff p) || done.testBit i || Nat.beq i e || (bf.getD i 0).testBit e) with
    | false => rw [hc] at h; cases h
    | true =>
      rw [hc] at h
      simp only [cond_true] at h
      cases n with
      | zero =>
        simp only [List.getElem?_cons_zero, Option.some.injEq] at hn; subst hn
        simp only [Nat.add_zero] at hd hne ⊢
        have h2 : Nat.beq i e = false := by
          cases hb : Nat.beq i e with
          | false => rfl
          | true => exact absurd (beq_inv hb) hne
        rw [he, hd, h2] at hc
        simpa using hc
      | succ n =>
        have e1 : i.succ + n = i + (n + 1) := by omega
        rw [← e1]
        exact othersBehind_spec h n o (by simpa using hn) he (by rw [e1]; exact hd) (by rw [e1]; exact hne)

/-! ### An operation that floats -/
theorem drawFloat_rel {fr : AFrame} {fr' : Frame} {d : DrawSt} {k : List AItem} {i : Nat} {o : Oper} {fr1 : AFrame} (hr : Ready E ρ H fr fr') (htodo : fr.todo = .draw d :: k)
    (hp : pickA d.done false d.all.toList 0 = some (i, o)) (h : drawFloat E fr d k i o H = some fr1) : Ready E ρ H fr1 fr' ∧ fr1.kind = fr.kind := by
  obtain ⟨d2, k2, L, l, k', base, V, hc, hd, hs⟩ := hr
  have := hd.todo
  rw [htodo] at this
  simp only [List.cons.injEq, AItem.draw.injEq] at this
  obtain ⟨rfl, rfl⟩ := this
  obtain ⟨n, hin, hn, hA, hf, hm⟩ := pickA_some hp
  rw [Nat.zero_add] at hin; subst hin
  have ho : d.all[i]? = some o := by simpa using hn
  have hL : L i = false := by
    cases hx : L i with
    | false => rfl
    | true => rw [hd.slots.sub i hx] at hA; cases hA
  have hso := hd.slots.sameOn ho hA hm
  have hself := ahead_self hd.slots.back i
  -- what is left to be shown of the new state
  have build : ∀ (v : Value) (w' : List (Nat × TypeId × Addr × Value)), (∀ x ∈ d.watch, x ∈ w') → Replay E d.all fr.nt base (setV V i v) (Holds E H ⟨d.id, d.all, d.done ||| 2 ^ i, d.cur, w'⟩) i o →
      Ready E ρ H (fr.go (setT fr o.dst v) (.draw ⟨d.id, d.all, d.done ||| 2 ^ i, d.cur, w'⟩ :: k)) fr' := by
    intro v w' hw hrep
    refine .mk ⟨d.id, d.all, d.done ||| 2 ^ i, d.cur, w'⟩ k L l k' base (setV V i v) hc ⟨?_, ?_, ?_, hd.todo', hd.tail, ?_, ?_, ?_⟩ hs
    · have := hd.fb.go (setT fr o.dst v) (.draw ⟨d.id, d.all, d.done ||| 2 ^ i, d.cur, w'⟩ :: k) fr'.tmps fr'.todo
      exact this
    · rw [go_eq]; exact hd.mode
    · rw [go_eq]
    · rw [go_eq, setT_eq]
      simp only
      rw [testBit_add]
      exact hd.slots.absAdd ho hA hm v
    · intro j p hj hpe hdj
      simp only at hj hdj
      rw [testBit_add] at hdj
      rcases addS_cases hdj with h1 | h1
      · exact hd.effs j p hj hpe h1
      · subst h1
        rw [ho] at hj; cases hj
        rw [hf] at hpe; cases hpe
    · intro j p hdj hLj hj
      simp only at hj hdj
      rw [testBit_add] at hdj
      rw [go_eq]
      rcases addS_cases hdj with h1 | h1
      · have hji : j ≠ i := fun e => by subst e; rw [hA] at h1; cases h1
        refine Replay.setV (Replay.mono (hd.replay j p h1 hLj hj) fun t a u hl => ⟨hw _ hl.1, hl.2⟩) hji fun q hq e => ?_
        subst e
        have := met_ahead hd.slots.back hd.slots.clA j j (Nat.le_refl _) p hj (hd.slots.clA j p h1 hj) q hq
        rw [hA] at this; cases this
      · subst h1
        rw [ho] at hj; cases hj
        exact hrep
  have henv : ∀ v, envOf d.all fr.nt base (setV V i v) i = envOf d.all fr.nt base V i := fun v => envOf_setV hself
  have hvi : ∀ v, setV V i v i = v := fun v => by simp [setV]
  unfold drawFloat at h
  simp only [Option.bind_eq_some_iff] at h
  obtain ⟨b, hb, h⟩ := h
  rw [wantedA_eq, hso.wanted] at hb
  cases b with
  | false =>
    simp only [cond_false, Option.some.injEq] at h; subst h
    refine ⟨build undef d.watch (fun x hx => hx) (.skip (by rw [henv]; exact hb) (hvi _)), by rw [go_eq]⟩
  | true =>
    simp only [cond_true] at h
    split at h
    · rename_i t a hop
      unfold drawLoad at h
      simp only [Option.bind_eq_some_iff, Option.map_eq_some_iff] at h
      obtain ⟨ad, had, v, hv, rfl⟩ := h
      refine ⟨build v ((i, t, ad, v) :: d.watch) (fun x hx => List.mem_cons_of_mem _ hx) (.load t a ad (by rw [henv]; exact hb) hop ?_ ?_), by rw [go_eq]⟩
      · rw [henv, ← hso.ev a (by rw [hop]; simp [Op.operands]), ← ev_eq]; exact had
      · rw [hvi]; exact ⟨List.mem_cons_self, hv⟩
    · unfold drawPure at h
      simp only [Option.map_eq_some_iff] at h
      obtain ⟨v, hv, rfl⟩ := h
      refine ⟨build v d.watch (fun x hx => hx) (.pure (by rw [henv]; exact hb) ?_), by rw [go_eq]⟩
      rw [henv, hvi, ← pureOp_congr hso.ev, ← ev_eq]; exact hv

/-! ### An operation that acts; the end -/
theorem floats_done {d : DrawSt} (h : pickA d.done false d.all.toList 0 = none) : ∀ i o, d.all[i]? = some o → isEff o = false → Met o d.done.testBit → d.done.testBit i = true := by
  intro i o ho hf hm
  have := pickA_none h i o (by simpa using ho) hf hm
  rwa [Nat.zero_add] at this

theorem drawEff_start (hE : E.Ok) (hh : HRel E ρ H w) {fr : AFrame} {fr' : Frame} {d : DrawSt} {k : List AItem} {i : Nat} {o : Oper} (hr : Ready E ρ H fr fr') (htodo : fr.todo = .draw d :: k)
    (hnone : pickA d.done false d.all.toList 0 = none) (hp : pickA d.done true d.all.toList 0 = some (i, o)) (hob : othersBehind d.done (Region.before d.all) i d.all.toList 0 = true) {cs : List Frame} :
    ∃ fr2 rest k', Steps E.P (lone fr' cs w) (lone fr2 cs w) ∧ Wait E ρ (fr.go fr.tmps (.draw (d.at i) :: k)) fr2 ∧ fr2.todo = .inRegion d.all (i :: rest) :: k' ∧ d.all[i]? = some o ∧ fr2.mode = .run ∧
      RRel ρ fr.roundOf fr2.roundOf ∧ (∀ b, wantedA fr d.all o = some b → Region.wanted o (yielded d.all fr2.tmps) = b) ∧ (∀ x ∈ o.op.operands, VRel ρ (fr.ev x) (fr2.eval x)) := by
  obtain ⟨d2, k2, L, l, k', base, V, hc, hd, hs⟩ := hr
  have := hd.todo
  rw [htodo] at this
  simp only [List.cons.injEq, AItem.draw.injEq] at this
  obtain ⟨rfl, rfl⟩ := this
  obtain ⟨n, hin, hn, hA, hf, hm⟩ := pickA_some hp
  rw [Nat.zero_add] at hin; subst hin
  have ho : d.all[i]? = some o := by simpa using hn
  obtain ⟨fn', tm', todo', ds', m', kd', ro'⟩ := fr'
  have ht' := hd.todo'
  simp only at ht'
  subst ht'
  have hmode : m' = .run := by
    have h1 := hd.fb.mode
    rw [hd.mode] at h1
    simp only at h1
    cases h1; rfl
  subst hmode
  obtain ⟨tm2, L2, l2, g1, g2, g3, g4, g5, g6⟩ := catchup (fn := fn') (K := k') (ds := ds') (kd := kd') (ro := ro') (cs := cs) hE hh (LP := Holds E H d) (fun k t a v hl => hl.2) (floats_done hnone) l tm' L hd.slots hs hd.effs hd.replay
  have hL2 : L2 i = false := by
    cases hx : L2 i with
    | false => rfl
    | true => rw [g2.sub i hx] at hA; cases hA
  rcases g6 with rfl | ⟨e, rest, p, rfl, he, hef, hAe, hLe, hme⟩
  · cases g3 with
    | nil _ hall => rw [hall i (getElem?_lt ho)] at hL2; cases hL2
  · have hei : e = i := by
      by_cases hne : e = i
      · exact hne
      · have h1 := othersBehind_spec hob e p (by simpa using he) hef (by rw [Nat.zero_add]; exact hAe) (by rw [Nat.zero_add]; exact hne)
        rw [Nat.zero_add] at h1
        have := met_ahead g2.back g2.clL e e (Nat.le_refl _) p he hme i h1
        rw [hL2] at this; cases this
    subst hei
    rw [ho] at he; cases he
    have hso := hd.slots.sameOn ho hA hm
    have hrel := g2.relOn ho hLe hme
    cases g3 with
    | cons _ _ _ _ _ _ _ hs2 =>
      refine ⟨_, rest, k', g1, .mk (d.at e) k L2 e o rest k' base V rfl ⟨?_, ?_, ?_, rfl, hd.tail, ?_, g4, ?_⟩ ho hA hLe hme hs2, rfl, ho, rfl, hd.fb.round, ?_, ?_⟩
      · exact hd.fb.go fr.tmps _ tm2 _
      · rw [go_eq]; exact hd.mode
      · rw [go_eq]
      · rw [go_eq]; exact g2
      · intro j q hdj hLj hj
        rw [go_eq]
        exact (g5 j q hdj hLj hj).mono fun t a v hl => hl.1
      · intro b hb
        rw [wantedA_eq, hso.wanted] at hb
        exact wanted_run hrel hb
      · intro x hx
        rw [ev_eq, hso.ev x hx]
        exact eval_run hrel x hx

theorem drawEnd_rel (hE : E.Ok) (hh : HRel E ρ H w) {fr : AFrame} {fr' : Frame} {d : DrawSt} {k : List AItem} (hr : Ready E ρ H fr fr') (htodo : fr.todo = .draw d :: k)
    (hnone : pickA d.done false d.all.toList 0 = none) (hall : d.done = 2 ^ d.all.toList.length - 1) {cs : List Frame} :
    ∃ fr2, Steps E.P (lone fr' cs w) (lone fr2 cs w) ∧ Plain ρ (fr.go fr.tmps k) fr2 := by
  obtain ⟨d2, k2, L, l, k', base, V, hc, hd, hs⟩ := hr
  have := hd.todo
  rw [htodo] at this
  simp only [List.cons.injEq, AItem.draw.injEq] at this
  obtain ⟨rfl, rfl⟩ := this
  obtain ⟨fn', tm', todo', ds', m', kd', ro'⟩ := fr'
  have ht' := hd.todo'
  simp only at ht'
  subst ht'
  have hmode : m' = .run := by
    have h1 := hd.fb.mode
    rw [hd.mode] at h1
    simp only at h1
    cases h1; rfl
  subst hmode
  have hA : ∀ i, i < d.all.size → d.done.testBit i = true := by
    intro i hi
    rw [hall, Nat.testBit_two_pow_sub_one]
    simpa using hi
  obtain ⟨tm2, L2, l2, g1, g2, g3, g4, g5, g6⟩ := catchup (fn := fn') (K := k') (ds := ds') (kd := kd') (ro := ro') (cs := cs) hE hh (LP := Holds E H d) (fun k t a v hl => hl.2) (floats_done hnone) l tm' L hd.slots hs hd.effs hd.replay
  rcases g6 with rfl | ⟨e, rest, p, rfl, he, hef, hAe, hLe, hme⟩
  · cases g3 with
    | nil _ hfull =>
      refine ⟨_, g1.trans (.one s_regionEnd), ⟨?_, ?_, ?_⟩⟩
      · exact hd.fb.go fr.tmps k tm2 k'
      · rw [go_eq]
        refine .of_slot g2.size g2.out fun x hx => ?_
        have e1 : tv d.all fr.nt base V d.done.testBit d.all.size x = tv d.all fr.nt base V L2 d.all.size x :=
          tv_congr _ fun j hj _ => ⟨by rw [hA j hj, hfull j hj], fun _ => rfl⟩
        rw [g2.abs x hx, e1]
        exact g2.con x hx
      · rw [go_eq]; exact hd.tail
  · rw [hA e (getElem?_lt he)] at hAe; cases hAe

end
end Go.Den
