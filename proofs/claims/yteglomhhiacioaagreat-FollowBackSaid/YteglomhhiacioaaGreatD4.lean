/- Sym: what a function comes to, from a state; the rules. -/
import Derived.Test.YteglomhhiacioaaGreatD3
import Derived.IntWalk
import Derived.Laws.Strings
namespace Go.Den

/-- From the beginning of a call: the blocks that are not the call's are as they were, and those that may only be read; the first k numbers stand for what they stood for. -/
structure Kept (k : Nat) (ρ0 : Rho) (w0 : World) (ρ : Rho) (w : World) : Prop where
  os : w.os = w0.os
  tape : w.tape = w0.tape
  output : w.output = w0.output
  size : w0.heap.size ≤ w.heap.size
  old : ∀ b, b < w0.heap.size → (∀ i l, ρ0 i = some l → l.blk = b → l.ro = true) → w.heap[b]? = w0.heap[b]?
  img : ∀ i l, ρ i = some l → (∃ j lj, ρ0 j = some lj ∧ lj.blk = l.blk ∧ lj.ro = l.ro) ∨ w0.heap.size ≤ l.blk
  pin : ∀ i l, i < k → ρ0 i = some l → ρ i = some l

theorem Kept.start {k : Nat} {ρ : Rho} {w : World} : Kept k ρ w ρ w :=
  ⟨rfl, rfl, rfl, Nat.le_refl _, fun _ _ _ => rfl, fun i l hi => .inl ⟨i, l, hi, rfl, rfl⟩, fun _ _ _ h => h⟩

theorem Kept.ext {k : Nat} {ρ0 : Rho} {w0 : World} {ρ ρ1 : Rho} {w w1 : World} (h : Kept k ρ0 w0 ρ w) (x : Ext ρ w ρ1 w1) : Kept k ρ0 w0 ρ1 w1 where
  os := x.os.trans h.os
  tape := x.tape.trans h.tape
  output := x.output.trans h.output
  size := Nat.le_trans h.size x.size
  old b hb hn := by
    rw [x.old b (Nat.lt_of_lt_of_le hb h.size), h.old b hb hn]
    intro i l hi e
    rcases h.img i l hi with ⟨j, lj, h1, h2, h3⟩ | h1
    · rw [← h3]; exact hn j lj h1 (h2.trans e)
    · omega
  img i l hi := by
    rcases x.new i l hi with h1 | h1 | ⟨j, lj, h1, h2, h3⟩
    · exact h.img i l h1
    · exact .inr (Nat.le_trans h.size h1)
    · rcases h.img j lj h1 with ⟨j2, l2, g1, g2, g3⟩ | g1
      · exact .inl ⟨j2, l2, g1, g2.trans h2, g3.trans h3⟩
      · exact .inr (h2 ▸ g1)
  pin i l hi hl := x.le i l (h.pin i l hi hl)

/-- the first k numbers keep their place -/
def pinned (m : Ren) : Nat → Bool
  | 0 => true
  | k + 1 => (match unren m k with | some j => Nat.beq j k | none => false) && pinned m k

theorem pinned_iff {m : Ren} : ∀ {k : Nat}, pinned m k = true → ∀ i, i < k → unren m i = some i
  | 0, _, i, hi => absurd hi (Nat.not_lt_zero _)
  | k + 1, h, i, hi => by
    simp only [pinned, Bool.and_eq_true] at h
    by_cases e : i = k
    · subst e
      cases hu : unren m i with
      | none => rw [hu] at h; cases h.1
      | some j => rw [hu] at h; rw [beq_inv h.1]
    · exact pinned_iff h.2 i (by omega)

theorem Kept.ren {k : Nat} {ρ0 : Rho} {w0 : World} {ρ : Rho} {w : World} (h : Kept k ρ0 w0 ρ w) {m : Ren} (hm : pinned m k = true) : Kept k ρ0 w0 (ρ.ren m) w :=
  ⟨h.os, h.tape, h.output, h.size, h.old, fun j l hj => by
    unfold Rho.ren at hj
    simp only [Option.bind_eq_some_iff] at hj
    obtain ⟨a, _, h2⟩ := hj
    exact h.img a l h2, fun i l hi hl => by
    unfold Rho.ren
    rw [pinned_iff hm i hi]
    exact h.pin i l hi hl⟩

/-- Whatever is related to s comes to an end of which R holds. -/
def Ends (E : Env) (f : FuncId) (k : Nat) (R : Value → AHeap → Prop) (s : St) : Prop :=
  ∀ (ρ0 : Rho) (w0 : World) (ρ : Rho) (cs0 : List Frame) (fr' : Frame) (cs' : List Frame) (w : World), StR E ρ cs0 s fr' cs' w → Kept k ρ0 w0 ρ w →
    ∃ v H ρ1 fr1 w1 v1, R v H ∧ Steps E.P (lone fr' cs' w) (lone fr1 cs0 w1) ∧ fr1.leaving E.P w1 (.returned v1) ∧ fr1.fn = f ∧ VRel ρ1 v v1 ∧ HRel E ρ1 H w1 ∧ Kept k ρ0 w0 ρ1 w1

/-- no state of a run -/
def bad : St := ⟨⟨0, .nil, 0, [], [], .run, .normal, none⟩, [], ⟨0, .nil⟩⟩

/-! ### Objects without an address -/
def isPoison : Value → Bool
  | .chan (some 0) => true
  | _ => false
def flatV (v : Value) : Bool := scalar v || isPoison v
theorem flatV_rel {ρ ρ' : Rho} {v v' : Value} (h : flatV v = true) (r : VRel ρ v v') : VRel ρ' v v' := by
  unfold flatV at h
  rw [Bool.or_eq_true] at h
  rcases h with h | h
  · rw [scalar_rel h r]; exact scalar_refl h
  · unfold isPoison at h
    split at h
    · exact .poison _
    · cases h
def FlatO : AObj → Prop
  | .cells c _ _ _ => allL flatV c = true
  | .strIter _ _ => True
  | _ => False

theorem FlatO.of {c : List Value} {e fz : Nat} {mk : Bool} (h : allL scalar c = true) : FlatO (.cells c e fz mk) := by
  show allL flatV c = true
  rw [allL_iff] at *
  intro x hx
  unfold flatV; rw [h x hx]; rfl

theorem FlatO.rel {E : Env} {ρ ρ' : Rho} {loc : Loc} {o : AObj} {o' : Obj} (h : FlatO o) (hr : ORel E ρ loc o o') : ORel E ρ' loc o o' := by
  cases hr with
  | cells c e fz mk c' fr hs hl he hc hf hm =>
    refine .cells c e fz mk c' fr hs hl he ?_ hf hm
    have h0 := allL_iff.1 (show allL flatV c = true from h)
    clear hl hs hf he hm h
    generalize c'.toList.take c.length = d at hc
    induction hc with
    | nil => exact .nil
    | cons hx _ ih =>
      exact .cons (flatV_rel (h0 _ (by simp)) hx) (ih fun y hy => h0 y (by simp [hy]))
  | strIter => exact .strIter _ _
  | _ => exact absurd h (by simp [FlatO])

/-- the object of a number, under new numbers -/
def mapG (m : Ren) (fl : List Nat) (H : AHeap) (a : Nat) : Option AObj := bif memN fl a then H.obj a else (H.obj a).bind (mapOb m)

def normG (m : Ren) (fl : List Nat) (H : AHeap) : Ren → Tr AObj → Tr AObj
  | [], t => t
  | (a, b) :: l, t => normG m fl H l (t.set b (mapG m fl H a))
def normH2 (m : Ren) (fl : List Nat) (next : Nat) (H : AHeap) : AHeap := ⟨next, normG m fl H m .nil⟩

theorem normG_get {m : Ren} {fl : List Nat} {H : AHeap} {next : Nat} : ∀ {l : Ren} {t : Tr AObj} {j : Nat}, renOk next l = true → (normG m fl H l t).get j = match unren l j with | some a => mapG m fl H a | none => t.get j
  | [], t, j, _ => rfl
  | (a, b) :: l, t, j, hok => by
    simp only [renOk, Bool.and_eq_true] at hok
    rw [normG, normG_get hok.2]
    have e : unren ((a, b) :: l) j = bif Nat.beq b j then some a else unren l j := rfl
    rw [e]
    cases hb : Nat.beq b j with
    | true =>
      have := beq_inv hb; subst this
      have hn : unren l b = none := by
        have := hok.1.1.2
        cases hu : unren l b with
        | none => rfl
        | some x => rw [hu] at this; cases this
      rw [hn]
      simp only [cond_true, Tr.get_set, if_true]
    | false =>
      have hne : ¬ (j = b) := fun e => by subst e; rw [show Nat.beq j j = true by simp] at hb; cases hb
      cases hu : unren l j with
      | some x => simp only [cond_false]
      | none => simp only [cond_false, Tr.get_set, if_neg hne]

theorem mapG_rel {E : Env} {ρ ρ' : Rho} {H : AHeap} {w : World} {m : Ren} {fl : List Nat} {a : Nat} {o : AObj} (hm : ∀ a b, ren m a = some b → ∀ l, ρ a = some l → ρ' b = some l)
    (hfl : ∀ a ∈ fl, ∀ o, H.obj a = some o → FlatO o) (hh : HRel E ρ H w) (h : mapG m fl H a = some o) :
    ∃ o0 loc o', H.obj a = some o0 ∧ ρ a = some loc ∧ w.heap[loc.blk]? = some o' ∧ ORel E ρ' loc o o' := by
  unfold mapG at h
  cases hf : memN fl a with
  | true =>
    rw [hf] at h
    simp only [cond_true] at h
    obtain ⟨loc, o', h1, h2, h3⟩ := hh.live a o h
    exact ⟨o, loc, o', h, h1, h2, (hfl a (memN_iff.1 hf) o h).rel h3⟩
  | false =>
    rw [hf] at h
    simp only [cond_false, Option.bind_eq_some_iff] at h
    obtain ⟨o0, h1, h2⟩ := h
    obtain ⟨loc, o', g1, g2, g3⟩ := hh.live a o0 h1
    exact ⟨o0, loc, o', h1, g1, g2, mapOb_rel hm h2 g3⟩

theorem HRel.norm2 {E : Env} {ρ : Rho} {H : AHeap} {w : World} {m : Ren} {fl : List Nat} {next : Nat} (hh : HRel E ρ H w) (hok : renOk next m = true) (hfl : ∀ a ∈ fl, ∀ o, H.obj a = some o → FlatO o) :
    HRel E (ρ.ren m) (normH2 m fl next H) w := by
  have hobj : ∀ j, (normH2 m fl next H).obj j = match unren m j with | some a => mapG m fl H a | none => none := fun j => by
    unfold normH2 AHeap.obj
    exact normG_get hok
  have live : ∀ j o, (normH2 m fl next H).obj j = some o → ∃ a, unren m j = some a ∧ mapG m fl H a = some o := by
    intro j o h
    rw [hobj] at h
    cases hu : unren m j with
    | none => rw [hu] at h; cases h
    | some a => rw [hu] at h; exact ⟨a, rfl, h⟩
  refine ⟨fun j hj => ?_, fun j o hj => ?_, fun i j o o' li lj h1 h2 h3 h4 hb => ?_, fun j o l hj hl hr => ?_⟩
  · unfold Rho.ren
    cases hu : unren m j with
    | none => rfl
    | some a =>
      have := (Den.ren_of hok hu).2
      have hj : next ≤ j := hj
      omega
  · obtain ⟨a, h1, h2⟩ := live j o hj
    obtain ⟨o0, loc, o', _, g1, g2, g3⟩ := mapG_rel (Rho.ren_of hok) hfl hh h2
    exact ⟨loc, o', by unfold Rho.ren; rw [h1]; exact g1, g2, g3⟩
  · obtain ⟨a, q1, q2⟩ := live i o h1
    obtain ⟨b, p1, p2⟩ := live j o' h2
    obtain ⟨oa, _, _, q3, _⟩ := mapG_rel (Rho.ren_of hok) hfl hh q2
    obtain ⟨ob, _, _, p3, _⟩ := mapG_rel (Rho.ren_of hok) hfl hh p2
    unfold Rho.ren at h3 h4
    rw [q1] at h3
    rw [p1] at h4
    have e := hh.inj a b oa ob li lj q3 p3 h3 h4 hb
    subst e
    have e1 := (Den.ren_of hok q1).1
    have e2 := (Den.ren_of hok p1).1
    rw [e1] at e2
    exact Option.some.inj e2
  · obtain ⟨a, h1, h2⟩ := live j o hj
    unfold Rho.ren at hl
    rw [h1] at hl
    have hl : ρ a = some l := hl
    unfold mapG at h2
    cases hf : memN fl a with
    | true =>
      rw [hf] at h2
      exact hh.ro a o l h2 hl hr
    | false =>
      rw [hf] at h2
      simp only [cond_false, Option.bind_eq_some_iff] at h2
      obtain ⟨o0, h3, h4⟩ := h2
      obtain ⟨c, e, fz, rfl, htop⟩ := hh.ro a o0 l h3 hl hr
      simp only [mapOb, Option.some.injEq] at h4
      exact ⟨_, e, fz, h4.symm, htop⟩

/-! ### Frames under new numbers -/
def mapD (m : Ren) (d : Deferred) : Option Deferred :=
  match d with
  | ⟨.fn (.func f) ⟨c⟩, ⟨a⟩⟩ => some ⟨.fn (.func f) ⟨c.map (mapV m 10)⟩, ⟨a.map (mapV m 10)⟩⟩
  | _ => none
def mapDs (m : Ren) : List Deferred → Option (List Deferred)
  | [] => some []
  | d :: ds => (mapD m d).bind fun d => (mapDs m ds).map (d :: ·)

def normF (m : Ren) (lt : List Nat) (fr : AFrame) : Option AFrame :=
  match fr with
  | ⟨fn, tm, nt, todo, ds, .run, kd, none⟩ => bif allL plainItem todo then (mapDs m ds).map fun ds => ⟨fn, normTm m lt nt tm, nt, todo, ds, .run, kd, none⟩ else none
  | _ => none
def normFs (m : Ren) : List (List Nat) → List AFrame → Option (List AFrame)
  | [], [] => some []
  | lt :: lts, fr :: frs => (normF m lt fr).bind fun fr => (normFs m lts frs).map (fr :: ·)
  | _, _ => none

/-- a state cut down and under new numbers: m: old and new numbers; fl: old numbers of objects without an address; lts: the slots to be kept, frame by frame -/
def normO (m : Ren) (fl : List Nat) (next : Nat) (lt : List Nat) (lts : List (List Nat)) (s : St) : Option St :=
  bif renOk next m then (normF m lt s.top).bind fun fr => (normFs m lts s.rest).map fun rest => ⟨fr, rest, normH2 m fl next s.heap⟩ else none

section
variable {ρ ρ' : Rho} {m : Ren}

theorem Vs.map_ren (hm : ∀ a b, ren m a = some b → ∀ l, ρ a = some l → ρ' b = some l) {l l' : List Value} (h : Vs ρ l l') : Vs ρ' (l.map (mapV m 10)) l' := by
  induction h with
  | nil => exact .nil
  | cons hx _ ih => exact .cons (mapV_rel hm 10 hx) ih

theorem mapD_rel (hm : ∀ a b, ren m a = some b → ∀ l, ρ a = some l → ρ' b = some l) {d d1 d' : Deferred} (h : mapD m d = some d1) (hr : DfRel ρ d d') : DfRel ρ' d1 d' := by
  unfold mapD at h
  split at h
  · rename_i f c a
    simp only [Option.some.injEq] at h; subst h
    obtain ⟨ht, ha⟩ := hr
    obtain ⟨t', a'⟩ := d'
    simp only at ht ha
    cases ht with
    | fn fn fn' c c' hf hc =>
      cases hf
      exact ⟨.fn _ _ _ _ (.func _) (hc.map_ren hm), ha.map_ren hm⟩
  · cases h

theorem mapDs_rel (hm : ∀ a b, ren m a = some b → ∀ l, ρ a = some l → ρ' b = some l) : ∀ {ds ds1 ds' : List Deferred}, mapDs m ds = some ds1 → All2 (DfRel ρ) ds ds' → All2 (DfRel ρ') ds1 ds'
  | [], ds1, ds', h, hr => by
    simp only [mapDs, Option.some.injEq] at h; subst h
    cases hr; exact .nil
  | d :: ds, ds1, ds', h, hr => by
    simp only [mapDs, Option.bind_eq_some_iff, Option.map_eq_some_iff] at h
    obtain ⟨d1, h1, ds2, h2, rfl⟩ := h
    cases hr with
    | cons hx hl => exact .cons (mapD_rel hm h1 hx) (mapDs_rel hm h2 hl)

theorem normF_rel (hm : ∀ a b, ren m a = some b → ∀ l, ρ a = some l → ρ' b = some l) {lt : List Nat} {fr fr1 : AFrame} {fr' : Frame} (h : normF m lt fr = some fr1) (hp : Plain ρ fr fr') :
    Plain ρ' fr1 fr' ∧ fr1.kind = fr.kind ∧ inDraw fr.todo = false := by
  unfold normF at h
  split at h
  · rename_i fn tm nt todo ds kd
    obtain ⟨hc, h⟩ := bif_some h
    simp only [Option.map_eq_some_iff] at h
    obtain ⟨ds1, hd, rfl⟩ := h
    obtain ⟨⟨h1, h2, h3, h4, h5⟩, h6, h7⟩ := hp
    simp only at h1 h2 h3 h4 h5 h6 h7
    refine ⟨⟨⟨h1, ?_, h3, ?_, mapDs_rel hm hd h5⟩, h6.norm hm lt, Is.plainItems h7 hc⟩, rfl, ?_⟩
    · generalize fr'.mode = q at h2 ⊢
      cases h2; exact .run
    · generalize fr'.roundOf = q at h4 ⊢
      cases h4; exact .none
    · cases todo with
      | nil => rfl
      | cons x l =>
        have := allL_iff.1 hc x (by simp)
        cases x <;> first | rfl | cases this
  · cases h

theorem normF_draw {lt : List Nat} {fr fr1 : AFrame} (h : normF m lt fr = some fr1) : inDraw fr.todo = false := by
  unfold normF at h
  split at h
  · rename_i fn tm nt todo ds kd
    obtain ⟨hc, h⟩ := bif_some h
    cases todo with
    | nil => rfl
    | cons x l =>
      have := allL_iff.1 hc x (by simp)
      cases x <;> first | rfl | cases this
  · cases h

theorem normFs_rel {E : Env} {cs0 : List Frame} (hm : ∀ a b, ren m a = some b → ∀ l, ρ a = some l → ρ' b = some l) : ∀ {lts : List (List Nat)} {l l1 : List AFrame} {l' : List Frame} {kd : CallKind}, normFs m lts l = some l1 → Stk E ρ cs0 kd l l' → Stk E ρ' cs0 kd l1 l'
  | lts, [], l1, l', kd, h, hs => by
    cases lts with
    | cons => cases h
    | nil =>
      simp only [normFs, Option.some.injEq] at h; subst h
      cases hs; exact .nil _
  | [], _ :: _, _, _, _, h, _ => by cases h
  | lt :: lts, fr :: frs, l1, l', kd, h, hs => by
    simp only [normFs, Option.bind_eq_some_iff, Option.map_eq_some_iff] at h
    obtain ⟨fr1, h1, frs1, h2, rfl⟩ := h
    cases hs with
    | cons _ _ c' _ cs' hc hs =>
      obtain ⟨g1, g2, _⟩ := normF_rel hm h1 (hc.plain_of (normF_draw h1))
      exact .cons _ _ _ _ _ (.plain g1) (by rw [g2]; exact normFs_rel hm h2 hs)
end

theorem normO_rel {E : Env} {ρ : Rho} {w : World} {cs0 cs' : List Frame} {fr' : Frame} {s s1 : St} {m : Ren} {fl : List Nat} {next : Nat} {lt : List Nat} {lts : List (List Nat)} (hs : StR E ρ cs0 s fr' cs' w)
    (hfl : ∀ a ∈ fl, ∀ o, s.heap.obj a = some o → FlatO o) (h : normO m fl next lt lts s = some s1) : StR E (ρ.ren m) cs0 s1 fr' cs' w := by
  unfold normO at h
  obtain ⟨hc, h⟩ := bif_some h
  simp only [Option.bind_eq_some_iff, Option.map_eq_some_iff] at h
  obtain ⟨fr1, h1, rest1, h2, rfl⟩ := h
  obtain ⟨htop, hstk, hh⟩ := hs
  have hm := Rho.ren_of (ρ := ρ) hc
  have hp : Plain ρ s.top fr' := by
    cases htop with
    | plain hp => exact hp
    | ready hr =>
      obtain ⟨d, k, L, l, k', base, V, hcu, hdr, _⟩ := hr
      have := normF_draw h1
      rw [hdr.todo] at this; cases this
  obtain ⟨g1, g2, _⟩ := normF_rel hm h1 hp
  exact ⟨.plain g1, by simp only [g2]; exact normFs_rel hm h2 hstk, hh.norm2 hc hfl⟩

/-! ### The rules -/
def goS (E : Env) (n : Nat) (s : St) : St := (runTo E n s).getD bad
def normS2 (m : Ren) (fl : List Nat) (next : Nat) (lt : List Nat) (lts : List (List Nat)) (s : St) : St := (normO m fl next lt lts s).getD bad
/-- the top frame's slot, written anew -/
def slS (t : Nat) (v : Value) (s : St) : St :=
  match s with
  | ⟨⟨fn, tm, nt, todo, ds, md, kd, ro⟩, rest, H⟩ => ⟨⟨fn, tm.set t (some v), nt, todo, ds, md, kd, ro⟩, rest, H⟩
/-- an object, written anew -/
def obS (i : Nat) (o : AObj) (s : St) : St :=
  match s with
  | ⟨fr, rest, ⟨n, t⟩⟩ => ⟨fr, rest, ⟨n, t.set i (some o)⟩⟩
/-- behind an operation that comes to a value -/
def opS (E : Env) (v : Value) (H : AHeap) (s : St) : St := ((opFr E s).bind fun p => (finish E p.1 v H).map fun fr => (⟨fr, s.rest, H⟩ : St)).getD bad
def opOk (E : Env) (v : Value) (H : AHeap) (s : St) : Bool := ((opFr E s).bind fun p => finish E p.1 v H).isSome
/-- what the operation comes to that stands next -/
def opN (E : Env) (s : St) : Option ANext := (opFr E s).bind fun p => oper E s.top p.2 s.heap
/-- the call that stands next -/
def callN (E : Env) (s : St) : Option (FuncId × List Value) :=
  match opN E s with
  | some (.enter f args _) => some (f, args)
  | _ => none
def callH (E : Env) (s : St) : Option AHeap :=
  match opN E s with
  | some (.enter _ _ H) => some H
  | _ => none

theorem getD_some {α : Type} {x : Option α} {d : α} (h : x.isSome = true) : x = some (x.getD d) := by
  cases x with
  | none => cases h
  | some y => rfl

section
variable {E : Env} {f : FuncId} {k : Nat} {R : Value → AHeap → Prop} {s : St}

theorem Ends.of_rel {s1 : St} (h : ∀ (ρ : Rho) (cs0 : List Frame) (fr' : Frame) (cs' : List Frame) (w : World), StR E ρ cs0 s fr' cs' w → StR E ρ cs0 s1 fr' cs' w) (q : Ends E f k R s1) : Ends E f k R s :=
  fun ρ0 w0 ρ cs0 fr' cs' w hs hk => q ρ0 w0 ρ cs0 fr' cs' w (h ρ cs0 fr' cs' w hs) hk

theorem Ends.go (G : E.Good) (n : Nat) (h : (runTo E n s).isSome = true) (q : Ends E f k R (goS E n s)) : Ends E f k R s := by
  intro ρ0 w0 ρ cs0 fr' cs' w hs hk
  obtain ⟨ρ1, fr1, cs1, w1, g1, g2, g3⟩ := runTo_sim G n hs (getD_some (d := bad) h)
  obtain ⟨v, H, ρ2, fr2, w2, v2, q1, q2, q3, q4, q5, q6, q7⟩ := q ρ0 w0 ρ1 cs0 fr1 cs1 w1 g2 (hk.ext g3)
  exact ⟨v, H, ρ2, fr2, w2, v2, q1, g1.trans q2, q3, q4, q5, q6, q7⟩

/-- these objects are those, and bear no address -/
def Flats (H : AHeap) : List (Nat × AObj) → Prop
  | [] => True
  | (a, o) :: l => H.obj a = some o ∧ FlatO o ∧ Flats H l
def keysL : List (Nat × AObj) → List Nat
  | [] => []
  | (a, _) :: l => a :: keysL l
theorem Flats.spec {H : AHeap} : ∀ {l : List (Nat × AObj)}, Flats H l → ∀ a ∈ keysL l, ∀ o, H.obj a = some o → FlatO o
  | [], _, a, ha, _, _ => by cases ha
  | (b, ob) :: l, h, a, ha, o, ho => by
    rcases List.mem_cons.1 ha with e | e
    · subst e
      have := h.1
      rw [ho] at this
      cases this
      exact h.2.1
    · exact Flats.spec h.2.2 a e o ho

theorem Ends.norm (m : Ren) (fl : List (Nat × AObj)) (next : Nat) (lt : List Nat) (lts : List (List Nat)) (h : (normO m (keysL fl) next lt lts s).isSome = true) (hp : pinned m k = true)
    (hfl : Flats s.heap fl) (q : Ends E f k R (normS2 m (keysL fl) next lt lts s)) : Ends E f k R s := by
  intro ρ0 w0 ρ cs0 fr' cs' w hs hk
  exact q ρ0 w0 (ρ.ren m) cs0 fr' cs' w (normO_rel hs hfl.spec (getD_some (d := bad) h)) (hk.ren hp)

theorem Ends.to (s1 : St) (h : s = s1) (q : Ends E f k R s1) : Ends E f k R s := by subst h; exact q

theorem Ends.done (G : E.Good) {v : Value} {H : AHeap} (n : Nat) (h : Den.run E n s = some (.done f v H)) (hr : R v H) : Ends E f k R s := by
  intro ρ0 w0 ρ cs0 fr' cs' w hs hk
  have := run_sim G n hs h
  cases this with
  | done _ _ _ ρ1 fr1 w1 v1 hs hl hf hv hh hx => exact ⟨v, H, ρ1, fr1, w1, v1, hr, hs, hl, hf, hv, hh, hk.ext hx⟩

theorem Ends.mono {R' : Value → AHeap → Prop} (q : Ends E f k R s) (h : ∀ v H, R v H → R' v H) : Ends E f k R' s := by
  intro ρ0 w0 ρ cs0 fr' cs' w hs hk
  obtain ⟨v, H, ρ2, fr2, w2, v2, q1, q2⟩ := q ρ0 w0 ρ cs0 fr' cs' w hs hk
  exact ⟨v, H, ρ2, fr2, w2, v2, h _ _ q1, q2⟩

theorem Tr.setF_same {α : Type} : ∀ (n : Nat) (t : Tr α) (i : Nat) (v : α), i < n → t.get i = some v → Tr.setF n t i (some v) = t
  | 0, _, _, _, h, _ => absurd h (Nat.not_lt_zero _)
  | n + 1, .nil, i, v, _, hg => by cases hg
  | n + 1, .node l w r, i, v, h, hg => by
    cases i with
    | zero =>
      have hg : w = some v := hg
      subst hg; rfl
    | succ m =>
      have e : Tr.setF (n + 1) (.node l w r) (m + 1) (some v) = bif (m % 2).beq 0 then .nodeL (Tr.setF n l (m / 2) (some v)) w r else .nodeR l w (Tr.setF n r (m / 2) (some v)) := rfl
      have hg : (bif (m % 2).beq 0 then l.get (m / 2) else r.get (m / 2)) = some v := hg
      rw [e]
      cases hb : (m % 2).beq 0 with
      | true =>
        rw [hb] at hg
        have hg : l.get (m / 2) = some v := hg
        rw [Tr.setF_same n l (m / 2) v (by omega) hg]
        simp only [cond_true, Tr.nodeL_eq]
      | false =>
        rw [hb] at hg
        have hg : r.get (m / 2) = some v := hg
        rw [Tr.setF_same n r (m / 2) v (by omega) hg]
        simp only [cond_false, Tr.nodeR_eq]
theorem Tr.set_same {α : Type} {t : Tr α} {i : Nat} {v : α} (h : t.get i = some v) : t.set i (some v) = t := Tr.setF_same _ _ _ _ (Nat.lt_succ_self _) h

theorem Ends.sl (t : Nat) (u v : Value) (h : s.top.tmps.get t = some u) (e : u = v) (q : Ends E f k R (slS t v s)) : Ends E f k R s := by
  subst e
  have e : slS t u s = s := by
    obtain ⟨⟨fn, tm, nt, todo, ds, md, kd, ro⟩, rest, H⟩ := s
    have h : tm.get t = some u := h
    show (⟨⟨fn, tm.set t (some u), nt, todo, ds, md, kd, ro⟩, rest, H⟩ : St) = _
    rw [Tr.set_same h]
  rw [e] at q; exact q

theorem Ends.ob (i : Nat) (u o : AObj) (h : s.heap.obj i = some u) (e : u = o) (q : Ends E f k R (obS i o s)) : Ends E f k R s := by
  subst e
  have e : obS i u s = s := by
    obtain ⟨fr, rest, ⟨n, t⟩⟩ := s
    have h : t.get i = some u := h
    show (⟨fr, rest, ⟨n, t.set i (some u)⟩⟩ : St) = _
    rw [Tr.set_same h]
  rw [e] at q; exact q

theorem Ends.op (G : E.Good) {v : Value} {H : AHeap} (h : opN E s = some (.value v H)) (ho : opOk E v H s = true) (q : Ends E f k R (opS E v H s)) : Ends E f k R s := by
  unfold opN at h
  unfold opOk at ho
  unfold opS at q
  cases hp : opFr E s with
  | none => rw [hp] at h; cases h
  | some p =>
    obtain ⟨c, o⟩ := p
    rw [hp] at h ho q
    simp only [Option.bind_some] at h ho q
    cases hf : finish E c v H with
    | none => rw [hf] at ho; cases ho
    | some fr1 =>
      rw [hf] at q
      have hstep := step_opFr hp
      rw [h] at hstep
      simp only [Option.bind_some, apply, hf, nextS, Option.map_some] at hstep
      refine Ends.go G 1 (by unfold runTo; rw [hstep]; rfl) ?_
      have e : goS E 1 s = ⟨fr1, s.rest, H⟩ := by unfold goS runTo; rw [hstep]; rfl
      rw [e]; exact q

/-- A call, told. -/
theorem Ends.call (G : E.Good) {g : FuncId} {args : List Value} {H v H1} (hq : callN E s = some (g, args)) (hH : callH E s = some H) (ht : Told E g args H v H1) (ho : opOk E v H1 s = true) (q : Ends E f k R (opS E v H1 s)) : Ends E f k R s := by
  unfold callN at hq
  unfold callH at hH
  unfold opOk at ho
  unfold opS at q
  have hn : opN E s = some (.enter g args H) := by
    split at hq
    · rename_i f' args' H' he
      simp only [Option.some.injEq, Prod.mk.injEq] at hq
      obtain ⟨rfl, rfl⟩ := hq
      rw [he] at hH
      simp only [Option.some.injEq] at hH
      subst hH
      exact he
    · cases hq
  unfold opN at hn
  cases hp : opFr E s with
  | none => rw [hp] at hn; cases hn
  | some p =>
    obtain ⟨c, o⟩ := p
    rw [hp] at hn ho q
    simp only [Option.bind_some] at hn ho q
    cases hf : finish E c v H1 with
    | none => rw [hf] at ho; cases ho
    | some fr1 =>
      rw [hf] at q
      have q : Ends E f k R ⟨fr1, s.rest, H1⟩ := q
      let E' := E.hooked (oneHook g args H v H1)
      have G' : E'.Good := oneHook_good G ht
      have hstep : Den.step E' s = some (.next ⟨fr1, s.rest, H1⟩) := by
        have hp' : opFr E' s = some (c, o) := hp
        have hn' : oper E' s.top o s.heap = some (.enter g args H) := by rw [oper_hook]; exact hn
        have hf' : finish E' c v H1 = some fr1 := by rw [finish_hook]; exact hf
        obtain ⟨r, hr1, hr2⟩ := oneHook_same g args H v H1
        have hr1 : E'.hook g = some r := hr1
        rw [step_opFr hp', hn']
        simp only [Option.bind_some, apply, applyEnter, hr1, hr2, hf', nextS, Option.map_some]
      intro ρ0 w0 ρ cs0 fr' cs' w hs hk
      have := step_sim G' hs.hook hstep
      cases this with
      | next _ ρ1 fr2 cs1 w1 g1 g2 g3 =>
        obtain ⟨v2, H2, ρ2, fr3, w2, v3, q1, q2, q3, q4, q5, q6, q7⟩ := q ρ0 w0 ρ1 cs0 fr2 cs1 w1 g2.unhook (hk.ext g3)
        exact ⟨v2, H2, ρ2, fr3, w2, v3, q1, g1.trans q2, q3, q4, q5, q6, q7⟩

theorem Ends.calls (G : E.Good) {args args' : List Value} {g : AFrame} {H : AHeap} {ρ : Rho} {w : World} (hg : enterF E f args .normal = some g) (q : Ends E f k R ⟨g, [], H⟩)
    (hh : HRel E ρ H w) (ha : Vs ρ args args') :
    Calls E.P f ⟨args'⟩ w fun e w1 => ∃ v H1 ρ1 v1, R v H1 ∧ e = .returned v1 ∧ VRel ρ1 v v1 ∧ HRel E ρ1 H1 w1 ∧ Kept k ρ w ρ1 w1 := by
  intro cs
  obtain ⟨g1, g2⟩ := enterF_rel (ρ := ρ) G.ok ha hg
  obtain ⟨v, H1, ρ1, fr1, w1, v1, q1, q2, q3, q4, q5, q6, q7⟩ := q ρ w ρ cs _ cs w ⟨.plain g1, .nil _, hh⟩ .start
  exact ⟨.returned v1, w1, fr1, ⟨v, H1, ρ1, v1, q1, rfl, q5, q6, q7⟩, q2, q4, q3⟩
end
end Go.Den

namespace Go.Den

/-- From this heap the call returns that, with that heap; the first k numbers stand for the arguments' objects. -/
def Does (E : Env) (f : FuncId) (k : Nat) (args : List Value) (H : AHeap) (v : Value) (H1 : AHeap) : Prop :=
  ∃ g, enterF E f args .normal = some g ∧ Ends E f k (fun v' H' => v' = v ∧ H' = H1) ⟨g, [], H⟩

def newsL (k n : Nat) : Nat → Ren
  | 0 => []
  | c + 1 => (k + c, n + c) :: newsL k n c
def swapL : Ren → Ren
  | [] => []
  | (a, b) :: l => (b, a) :: swapL l
def appR : Ren → Ren → Ren
  | [], r => r
  | p :: l, r => p :: appR l r

/-- the numbers of the callee's objects in the caller's heap -/
def backL (m : Ren) (k next next1 : Nat) : Ren := appR (swapL m) (newsL k next (next1 - k))

theorem ren_swap : ∀ (m : Ren) (i : Nat), ren (swapL m) i = unren m i
  | [], _ => rfl
  | (a, b) :: l, i => by
    show (bif Nat.beq b i then some a else ren (swapL l) i) = (bif Nat.beq b i then some a else unren l i)
    rw [ren_swap l i]
theorem ren_app : ∀ (m r : Ren) (i : Nat), ren (appR m r) i = match ren m i with | some x => some x | none => ren r i
  | [], r, i => rfl
  | (a, b) :: l, r, i => by
    show (bif Nat.beq a i then some b else ren (appR l r) i) = match (bif Nat.beq a i then some b else ren l i) with | some x => some x | none => ren r i
    rw [ren_app l r i]
    cases Nat.beq a i <;> rfl
theorem ren_news (k n : Nat) : ∀ (c i j : Nat), ren (newsL k n c) i = some j → k ≤ i ∧ i < k + c ∧ j = n + (i - k)
  | 0, i, j, h => by cases h
  | c + 1, i, j, h => by
    have h : (bif Nat.beq (k + c) i then some (n + c) else ren (newsL k n c) i) = some j := h
    cases hb : Nat.beq (k + c) i with
    | true =>
      rw [hb] at h
      simp only [cond_true, Option.some.injEq] at h
      have := beq_inv hb
      omega
    | false =>
      rw [hb] at h
      have := ren_news k n c i j h
      omega

/-- the caller's heap behind the call -/
def mergeH (m : Ren) (k : Nat) (fl : List Nat) (H H1 : AHeap) : AHeap :=
  ⟨H.next + (H1.next - k), normG (backL m k H.next H1.next) fl H1 (backL m k H.next H1.next) H.tree⟩

/-- each of the caller's objects is there -/
def liveOk (m : Ren) (fl : List Nat) (H : AHeap) : Bool := allL (fun p => (mapG m fl H p.1).isSome) m

def mergeOk (m : Ren) (k : Nat) (fl : List Nat) (H H1 : AHeap) : Bool := renOk k m && (liveOk m fl H && renOk (H.next + (H1.next - k)) (backL m k H.next H1.next))

theorem unren_mem : ∀ {m : Ren} {a b : Nat}, unren m b = some a → (a, b) ∈ m
  | [], _, _, h => by cases h
  | (x, y) :: l, a, b, h => by
    have h : (bif Nat.beq y b then some x else unren l b) = some a := h
    cases hb : Nat.beq y b with
    | true =>
      rw [hb] at h
      simp only [cond_true, Option.some.injEq] at h
      have := beq_inv hb
      rw [this, h]; simp
    | false =>
      rw [hb] at h
      exact List.mem_cons_of_mem _ (unren_mem h)

theorem Told.of {E : Env} (G : E.Good) {f : FuncId} {k : Nat} {m : Ren} {fl fl' : List (Nat × AObj)} {args : List Value} {H H1 : AHeap} {v : Value} (d : Does E f k (args.map (mapV m 10)) (normH2 m (keysL fl) k H) v H1)
    (hok : mergeOk m k (keysL fl) H H1 = true) (hfl0 : Flats H fl) (hfl1 : Flats H1 fl') :
    Told E f args H (mapV (backL m k H.next H1.next) 10 v) (mergeH m k (keysL fl') H H1) := by
  have hfl := hfl0.spec
  have hfl' := hfl1.spec
  generalize keysL fl = fl at *
  generalize keysL fl' = fl' at *
  intro ρ w args' hh ha
  obtain ⟨g, hg, he⟩ := d
  simp only [mergeOk, Bool.and_eq_true] at hok
  obtain ⟨hm, hlive, hback⟩ := hok
  have hmr := Rho.ren_of (ρ := ρ) hm
  have hhm := hh.norm2 hm hfl
  -- the caller's objects that are handed over
  have hl : ∀ a j, unren m j = some a → ∃ o l o', H.obj a = some o ∧ ρ a = some l ∧ w.heap[l.blk]? = some o' := by
    intro a j hu
    have := allL_iff.1 hlive _ (unren_mem hu)
    cases hg : mapG m fl H a with
    | none => rw [hg] at this; cases this
    | some o =>
      obtain ⟨o0, loc, o', h1, h2, h3, _⟩ := mapG_rel hmr hfl hh hg
      exact ⟨o0, loc, o', h1, h2, h3⟩
  have renD : ∀ j l, (ρ.ren m) j = some l → ∃ a, unren m j = some a ∧ ρ a = some l := by
    intro j l h
    unfold Rho.ren at h
    simp only [Option.bind_eq_some_iff] at h
    exact h
  refine Calls.mono (Ends.calls G hg he hhm (ha.map_ren hmr)) ?_
  rintro e w1 ⟨v0, H0, ρ1, v1, ⟨rfl, rfl⟩, rfl, hv, hh1, hk⟩
  have hlt : ∀ a l, ρ a = some l → a < H.next := by
    intro a l h
    rcases Nat.lt_or_ge a H.next with h1 | h1
    · exact h1
    · rw [hh.fresh a h1] at h; cases h
  let ρ2 : Rho := fun b => if b < H.next then ρ b else ρ1 (k + (b - H.next))
  have hρo : ∀ b, b < H.next → ρ2 b = ρ b := fun b h => by simp [ρ2, h]
  have hρn : ∀ b, ¬ b < H.next → ρ2 b = ρ1 (k + (b - H.next)) := fun b h => by simp [ρ2, h]
  have hbk : ∀ a b, ren (backL m k H.next H0.next) a = some b → unren m a = some b ∨ (unren m a = none ∧ k ≤ a ∧ b = H.next + (a - k)) := by
    intro a b h
    unfold backL at h
    rw [ren_app, ren_swap] at h
    cases hu : unren m a with
    | some x => rw [hu] at h; simp only [Option.some.injEq] at h; left; rw [h]
    | none =>
      rw [hu] at h
      have := ren_news _ _ _ _ _ h
      exact .inr ⟨rfl, this.1, this.2.2⟩
  have hmb : ∀ a b, ren (backL m k H.next H0.next) a = some b → ∀ l, ρ1 a = some l → ρ2 b = some l := by
    intro a b h l hl1
    rcases hbk a b h with h1 | ⟨_, h1, h2⟩
    · obtain ⟨o, lb, o', g1, g2, g3⟩ := hl b a h1
      have hak := (Den.ren_of hm h1).2
      have hr : (ρ.ren m) a = some lb := by unfold Rho.ren; rw [h1]; exact g2
      have := hk.pin a lb hak hr
      rw [hl1] at this
      rw [hρo b (hlt b lb g2), g2, this]
    · rw [hρn b (by omega), show k + (b - H.next) = a by omega]; exact hl1
  have hle : ρ.Le ρ2 := fun i l h => by rw [hρo i (hlt i l h)]; exact h
  have hobj : ∀ b, (mergeH m k fl' H H0).obj b = match unren (backL m k H.next H0.next) b with | some a => mapG (backL m k H.next H0.next) fl' H0 a | none => H.obj b := fun b => by
    unfold mergeH AHeap.obj
    exact normG_get hback
  -- a number that is not handed over
  have hnot : ∀ b, unren (backL m k H.next H0.next) b = none → ∀ j, unren m j ≠ some b := by
    intro b hb j hj
    have : ren (backL m k H.next H0.next) j = some b := by
      unfold backL
      rw [ren_app, ren_swap, hj]
    rw [unren_of hback this] at hb; cases hb
  have hapart : ∀ b o l, unren (backL m k H.next H0.next) b = none → H.obj b = some o → ρ b = some l → ∀ j l', (ρ.ren m) j = some l' → l'.blk ≠ l.blk := by
    intro b o l hb ho hl1 j l' h1 h2
    obtain ⟨a, h3, h4⟩ := renD j l' h1
    obtain ⟨oa, la, _, g1, g2, _⟩ := hl a j h3
    have := hh.inj a b oa o l' l g1 ho h4 hl1 h2
    subst this
    exact hnot a hb j h3
  have caseB : ∀ b o, (mergeH m k fl' H H0).obj b = some o → (∃ a o0 loc o', unren (backL m k H.next H0.next) b = some a ∧ H0.obj a = some o0 ∧ ρ1 a = some loc ∧ ρ2 b = some loc ∧ w1.heap[loc.blk]? = some o' ∧ ORel E ρ2 loc o o') ∨
      (unren (backL m k H.next H0.next) b = none ∧ H.obj b = some o ∧ ∃ loc o', ρ b = some loc ∧ w.heap[loc.blk]? = some o' ∧ ORel E ρ loc o o') := by
    intro b o ho
    rw [hobj] at ho
    cases hu : unren (backL m k H.next H0.next) b with
    | some a =>
      rw [hu] at ho
      obtain ⟨o0, loc, o', h1, h2, h3, h4⟩ := mapG_rel hmb hfl' hh1 ho
      exact .inl ⟨a, o0, loc, o', rfl, h1, h2, hmb a b (Den.ren_of hback hu).1 loc h2, h3, h4⟩
    | none =>
      rw [hu] at ho
      obtain ⟨loc, o', h1, h2, h3⟩ := hh.live b o ho
      exact .inr ⟨rfl, ho, loc, o', h1, h2, h3⟩
  have hH2 : HRel E ρ2 (mergeH m k fl' H H0) w1 := by
    refine ⟨fun b hb => ?_, fun b o ho => ?_, fun i j o o' li lj h1 h2 h3 h4 hb => ?_, fun b o l ho hl2 hr => ?_⟩
    · have hb : H.next + (H0.next - k) ≤ b := hb
      rw [hρn b (by omega)]
      exact hh1.fresh _ (by omega)
    · rcases caseB b o ho with ⟨a, o0, loc, o', h1, h2, h3, h4, h5, h6⟩ | ⟨h1, h2, loc, o', h3, h4, h5⟩
      · exact ⟨loc, o', h4, h5, h6⟩
      · refine ⟨loc, o', hle b loc h3, ?_, h5.mono hle⟩
        rw [hk.old loc.blk (getElem?_lt h4) (fun j l' hj hb => absurd hb (hapart b o loc h1 h2 h3 j l' hj))]; exact h4
    · have apart : ∀ i j o o' li lj, (mergeH m k fl' H H0).obj i = some o → (mergeH m k fl' H H0).obj j = some o' → ρ2 i = some li → ρ2 j = some lj → li.blk = lj.blk →
          (∃ a, unren (backL m k H.next H0.next) i = some a) → unren (backL m k H.next H0.next) j = none → False := by
        rintro i j o o' li lj h1 h2 h3 h4 hb ⟨a, ha1⟩ hj
        rcases caseB i o h1 with ⟨a', o0, loc, ow, q1, q2, q3, q4, q5, q6⟩ | ⟨q1, _⟩
        · rcases caseB j o' h2 with ⟨b', _, _, _, p1, _⟩ | ⟨p1, p2, loc', ow', p3, p4, p5⟩
          · rw [hj] at p1; cases p1
          · rw [h3] at q4; cases q4
            rw [hle j loc' p3] at h4; cases h4
            rcases hk.img a' li q3 with ⟨jd, ld, hd1, hd2, _⟩ | hs
            · exact hapart j o' lj p1 p2 p3 jd ld hd1 (hd2.trans hb)
            · have := getElem?_lt p4; omega
        · rw [q1] at ha1; cases ha1
      cases hu : unren (backL m k H.next H0.next) i with
      | some a =>
        cases hv : unren (backL m k H.next H0.next) j with
        | some b =>
          rcases caseB i o h1 with ⟨a', o0, loc, ow, q1, q2, q3, q4, q5, q6⟩ | ⟨q1, _⟩
          · rcases caseB j o' h2 with ⟨b', o0', loc', ow', p1, p2, p3, p4, p5, p6⟩ | ⟨p1, _⟩
            · rw [h3] at q4; cases q4
              rw [h4] at p4; cases p4
              have e := hh1.inj a' b' o0 o0' li lj q2 p2 q3 p3 hb
              subst e
              have e1 := (Den.ren_of hback q1).1
              have e2 := (Den.ren_of hback p1).1
              rw [e1] at e2
              exact Option.some.inj e2
            · rw [p1] at hv; cases hv
          · rw [q1] at hu; cases hu
        | none => exact (apart i j o o' li lj h1 h2 h3 h4 hb ⟨a, hu⟩ hv).elim
      | none =>
        cases hv : unren (backL m k H.next H0.next) j with
        | some b => exact (apart j i o' o lj li h2 h1 h4 h3 hb.symm ⟨b, hv⟩ hu).elim
        | none =>
          rcases caseB i o h1 with ⟨a', _, _, _, q1, _⟩ | ⟨q1, q2, loc, ow, q3, q4, q5⟩
          · rw [hu] at q1; cases q1
          · rcases caseB j o' h2 with ⟨b', _, _, _, p1, _⟩ | ⟨p1, p2, loc', ow', p3, p4, p5⟩
            · rw [hv] at p1; cases p1
            · rw [hle i loc q3] at h3; cases h3
              rw [hle j loc' p3] at h4; cases h4
              exact hh.inj i j o o' li lj q2 p2 q3 p3 hb
    · rw [hobj] at ho
      cases hu : unren (backL m k H.next H0.next) b with
      | some a =>
        rw [hu] at ho
        have ho : mapG (backL m k H.next H0.next) fl' H0 a = some o := ho
        have hla : ρ1 a = some l := by
          obtain ⟨o0, loc, o', h1, h2, h3, h4⟩ := mapG_rel hmb hfl' hh1 ho
          have := hmb a b (Den.ren_of hback hu).1 loc h2
          rw [hl2] at this; cases this; exact h2
        unfold mapG at ho
        cases hf : memN fl' a with
        | true =>
          rw [hf] at ho
          exact hh1.ro a o l ho hla hr
        | false =>
          rw [hf] at ho
          simp only [cond_false, Option.bind_eq_some_iff] at ho
          obtain ⟨o0, h3, h4⟩ := ho
          obtain ⟨c, e, fz, rfl, htop⟩ := hh1.ro a o0 l h3 hla hr
          simp only [mapOb, Option.some.injEq] at h4
          exact ⟨_, e, fz, h4.symm, htop⟩
      | none =>
        rw [hu] at ho
        have ho : H.obj b = some o := ho
        obtain ⟨loc, o', h1, _, _⟩ := hh.live b o ho
        have := hle b loc h1
        rw [hl2] at this; cases this
        exact hh.ro b o l ho h1 hr
  refine ⟨v1, ρ2, rfl, hH2, ⟨hle, hk.os, hk.tape, hk.output, hk.size, fun b hb hn => hk.old b hb (fun j l hj hb2 => ?_), fun i l hi => ?_⟩, mapV_rel hmb 10 hv⟩
  · obtain ⟨a, _, h4⟩ := renD j l hj
    exact hn a l h4 hb2
  · by_cases hi2 : i < H.next
    · rw [hρo i hi2] at hi; exact .inl hi
    · rw [hρn i hi2] at hi
      rcases hk.img _ l hi with ⟨j, l', h1, h2, h3⟩ | h1
      · obtain ⟨a, _, h4⟩ := renD j l' h1
        exact .inr (.inr ⟨a, l', h4, h2, h3⟩)
      · exact .inr (.inl h1)

theorem Told.eq {E : Env} {f : FuncId} {args : List Value} {H : AHeap} {v v1 : Value} {H1 H2 : AHeap} (t : Told E f args H v H1) (hv : v = v1) (hH : H1 = H2) : Told E f args H v1 H2 := by subst hv; subst hH; exact t

theorem Does.told {E : Env} {f : FuncId} {k : Nat} {args : List Value} {H : AHeap} {v : Value} {H1 : AHeap} (h : ∀ g, enterF E f args .normal = some g → Ends E f k (fun v' H' => v' = v ∧ H' = H1) ⟨g, [], H⟩) (hg : (enterF E f args .normal).isSome = true) : Does E f k args H v H1 := by
  cases he : enterF E f args .normal with
  | none => rw [he] at hg; cases hg
  | some g => exact ⟨g, he, h g he⟩
end Go.Den

namespace Go.Den

/-! ### Places -/
/-- a place in a function's body: at the operation that fills a slot, at a test of a slot, at a loop's head, at the end of the body -/
inductive At where
  | op (f t : Nat)
  | cond (f t : Nat)
  | loop (f : Nat)
  | ret (f : Nat)
  | sto (f k : Nat)
  | pan (f : Nat)

def isDst (t : Nat) : Option Tmp → Bool
  | some d => Nat.beq d t
  | none => false
def isTmp (t : Nat) : Operand → Bool
  | .tmp d => Nat.beq d t
  | _ => false
def drawDst (d : DrawSt) : Option Tmp :=
  match pickA d.done false d.all.toList 0 with
  | some p => p.2.dst
  | none => (pickA d.done true d.all.toList 0).bind fun p => p.2.dst
def drawNone (d : DrawSt) : Bool :=
  match pickA d.done false d.all.toList 0 with
  | some _ => false
  | none => match pickA d.done true d.all.toList 0 with
    | some p => p.2.dst.isNone
    | none => false
def atItems (a : At) (todo : List AItem) : Bool :=
  match a with
  | .op _ t => match todo with
    | .ops _ (o :: _) :: _ => isDst t o.dst
    | .draw d :: _ => isDst t (drawDst d)
    | _ => false
  | .cond _ t => match todo with
    | .code (.cond c _ _) :: _ => isTmp t c
    | _ => false
  | .loop _ => match todo with
    | .code (.loop _) :: _ => true
    | .inLoop _ :: _ => true
    | _ => false
  | .ret _ => match todo with
    | .code .ret :: _ => true
    | [] => true
    | _ => false
  | .sto _ k => match todo with
    | .ops _ (o :: l) :: _ => o.dst.isNone && Nat.beq l.length k
    | .draw d :: _ => drawNone d
    | _ => false
  | .pan _ => false
def At.fn : At → Nat
  | .op f _ => f
  | .cond f _ => f
  | .loop f => f
  | .ret f => f
  | .sto f _ => f
  | .pan f => f
def modePan : FrameMode → Bool
  | .panicking _ => true
  | _ => false
def modeRun : FrameMode → Bool
  | .run => true
  | _ => false
def isAt (a : At) (s : St) : Bool := Nat.beq s.top.fn a.fn && (match a with | .pan _ => modePan s.top.mode && s.top.defers.isEmpty | a => modeRun s.top.mode && atItems a s.top.todo)

/-- on, up to a place -/
def upTo (E : Env) (a : At) : Nat → St → Option St
  | 0, _ => none
  | n + 1, s => bif isAt a s then some s else match step E s with
    | some (.next s) => upTo E a n s
    | _ => none
theorem upTo_runTo {E : Env} {a : At} : ∀ {n : Nat} {s s1 : St}, upTo E a n s = some s1 → ∃ m, runTo E m s = some s1
  | 0, _, _, h => by cases h
  | n + 1, s, s1, h => by
    unfold upTo at h
    cases hi : isAt a s with
    | true => rw [hi] at h; exact ⟨0, h⟩
    | false =>
      rw [hi] at h
      simp only [cond_false] at h
      cases hs : step E s with
      | none => rw [hs] at h; cases h
      | some r =>
        rw [hs] at h
        cases r with
        | next s2 =>
          obtain ⟨m, hm⟩ := upTo_runTo h
          exact ⟨m + 1, by unfold runTo; rw [hs]; exact hm⟩
        | done => cases h
        | panicked => cases h

/-- on to a place: at least k steps -/
def afterAt : At → Nat
  | .loop _ => 1
  | _ => 0
def toO (E : Env) (k : Nat) (a : At) (s : St) : Option St := (runTo E k s).bind fun s => (upTo E a 3000 s).bind (runTo E (afterAt a))
def toS (E : Env) (k : Nat) (a : At) (s : St) : St := (toO E k a s).getD bad

/-! ### States laid out -/
def layT : List (Nat × Value) → Tr Value → Tr Value
  | [], t => t
  | (i, v) :: l, t => layT l (t.set i (some v))
def layH : List (Nat × AObj) → Tr AObj → Tr AObj
  | [], t => t
  | (i, o) :: l, t => layH l (t.set i (some o))
/-- a heap laid out -/
def hp (n : Nat) (l : List (Nat × AObj)) : AHeap := ⟨n, layH l .nil⟩
def reF (l : List (Nat × Value)) (fr : AFrame) : AFrame :=
  match fr with
  | ⟨fn, _, nt, todo, ds, md, kd, ro⟩ => ⟨fn, layT l (poisonT nt), nt, todo, ds, md, kd, ro⟩
def reFs : List (List (Nat × Value)) → List AFrame → List AFrame
  | l :: ls, fr :: frs => reF l fr :: reFs ls frs
  | _, _ => []
/-- the state with other slots and another heap -/
def reS (l : List (Nat × Value)) (ls : List (List (Nat × Value))) (H : AHeap) (s : St) : St :=
  match s with
  | ⟨fr, rest, _⟩ => ⟨reF l fr, reFs ls rest, H⟩

/-- a call's first state -/
def entS (E : Env) (f : FuncId) (args : List Value) (H : AHeap) : St := ⟨(enterF E f args .normal).getD bad.top, [], H⟩

section
variable {E : Env} {f : FuncId} {k : Nat} {R : Value → AHeap → Prop} {s : St}

theorem Does.of {args : List Value} {H : AHeap} {v : Value} {H1 : AHeap} (hg : (enterF E f args .normal).isSome = true) (h : Ends E f k (fun v' H' => v' = v ∧ H' = H1) (entS E f args H)) : Does E f k args H v H1 :=
  ⟨_, getD_some hg, h⟩

theorem Ends.goto (G : E.Good) (n : Nat) (a : At) (h : (toO E n a s).isSome = true) (q : Ends E f k R (toS E n a s)) : Ends E f k R s := by
  have h1 := getD_some (d := bad) h
  have : ∃ m, runTo E m s = some (toS E n a s) := by
    unfold toO at h1
    simp only [Option.bind_eq_some_iff] at h1
    obtain ⟨s1, h2, s2, h3, h4⟩ := h1
    obtain ⟨m, hm⟩ := upTo_runTo h3
    exact ⟨n + (m + afterAt a), runTo_add h2 (runTo_add hm (by rw [h4]; rfl))⟩
  obtain ⟨m, hm⟩ := this
  refine Ends.go G m (by rw [hm]; rfl) ?_
  have : goS E m s = toS E n a s := by unfold goS; rw [hm]; rfl
  rw [this]; exact q

/-! ### Pure operations that are stuck -/
/-- the pure operation that stands next -/
def pureN (E : Env) (s : St) : Option Value := (opFr E s).bind fun p => pureOp E s.top.ev p.2
theorem Ends.pu (G : E.Good) (u : Option Value) (v : Value) (h : pureN E s = u) (e : u = some v) (ho : opOk E v s.heap s = true) (q : Ends E f k R (opS E v s.heap s)) : Ends E f k R s := by
  refine Ends.op G ?_ ho q
  rw [e] at h
  unfold pureN at h
  unfold opN
  cases hp : opFr E s with
  | none => rw [hp] at h; cases h
  | some p =>
    rw [hp] at h
    simp only [Option.bind_some] at h ⊢
    unfold oper
    rw [h]

/-- an operation on memory that is stuck -/
theorem Ends.ef (G : E.Good) (u : AHeap → Option ANext) (v : Value) (H : AHeap) (h : opN E s = u s.heap) (e : u s.heap = some (.value v H)) (ho : opOk E v H s = true) (q : Ends E f k R (opS E v H s)) : Ends E f k R s :=
  Ends.op G (h.trans e) ho q

/-- the pure operation, or the load, that floats next in a region that draws its order -/
def flN (s : St) : Option (Nat × Oper × DrawSt × List AItem) :=
  match s.top.mode, s.top.todo with
  | .run, .draw d :: k => match d.cur with
    | none => (pickA d.done false d.all.toList 0).bind fun p => (wantedA s.top d.all p.2).bind fun b => bif b then some (p.1, p.2, d, k) else none
    | some _ => none
  | _, _ => none
def isLoad : Op → Bool
  | .load _ _ => true
  | _ => false
def fpN (E : Env) (s : St) : Option Value := (flN s).bind fun p => bif isLoad p.2.1.op then none else pureOp E s.top.ev p.2.1
def fpS (v : Value) (s : St) : St := ((flN s).map fun p => (⟨s.top.go (setT s.top p.2.1.dst v) (.draw (p.2.2.1.did p.1) :: p.2.2.2), s.rest, s.heap⟩ : St)).getD bad
/-- the load that floats next: its type, its place -/
def flA (s : St) : Option (TypeId × Addr) :=
  (flN s).bind fun p => match p.2.1.op with
    | .load t a => (addrOf (s.top.ev a)).map fun a => (t, a)
    | _ => none
def flS (t : TypeId) (a : Addr) (v : Value) (s : St) : St := ((flN s).map fun p => (⟨s.top.go (setT s.top p.2.1.dst v) (.draw (p.2.2.1.saw p.1 t a v) :: p.2.2.2), s.rest, s.heap⟩ : St)).getD bad

theorem flN_inv {i : Nat} {o : Oper} {d : DrawSt} {l : List AItem} (h : flN s = some (i, o, d, l)) : s.top.mode = .run ∧ s.top.todo = .draw d :: l ∧ d.cur = none ∧ pickA d.done false d.all.toList 0 = some (i, o) ∧ wantedA s.top d.all o = some true := by
  unfold flN at h
  split at h
  · rename_i d' k' hm ht
    split at h
    · rename_i hc
      simp only [Option.bind_eq_some_iff] at h
      obtain ⟨p, h1, b, h2, h3⟩ := h
      obtain ⟨hb, h3⟩ := bif_some h3
      simp only [Option.some.injEq, Prod.mk.injEq] at h3
      obtain ⟨e1, e2, e3, e4⟩ := h3
      rw [hb] at h2
      obtain ⟨p1, p2⟩ := p
      simp only at e1 e2 e3 e4 h1 h2
      subst e1 e2 e3 e4
      exact ⟨hm, ht, hc, h1, h2⟩
    · cases h
  · cases h

theorem Ends.fp (G : E.Good) (u : Option Value) (v : Value) (h : fpN E s = u) (e : u = some v) (q : Ends E f k R (fpS v s)) : Ends E f k R s := by
  rw [e] at h
  unfold fpN at h
  simp only [Option.bind_eq_some_iff] at h
  obtain ⟨⟨i, o, d, l⟩, hf, h⟩ := h
  obtain ⟨h1, h2, h3, h4, h5⟩ := flN_inv hf
  obtain ⟨hl, h⟩ := bif_none_else h
  have hs : Den.step E s = some (.next (fpS v s)) := by
    unfold fpS
    rw [hf]
    unfold Den.step
    simp only
    rw [h1]
    simp only [stepMode, h2, stepRun, stepItem, drawStep, h3, h4, drawFloat, h5, Option.bind_some, cond_true]
    have hd : drawPure E s.top d l i o = some (s.top.go (setT s.top o.dst v) (.draw (d.did i) :: l)) := by
      unfold drawPure
      simp only at h
      rw [h]; rfl
    split
    · rename_i t a ho
      rw [ho] at hl; cases hl
    · rw [hd]; rfl
  exact Ends.go G 1 (by unfold runTo; rw [hs]; rfl) (by
    have e : goS E 1 s = fpS v s := by unfold goS runTo; rw [hs]; rfl
    rw [e]; exact q)

theorem Ends.fl (G : E.Good) (t : TypeId) (a : Addr) (v : Value) (h : flA s = some (t, a)) (e : loadT E s.heap t a = some v) (q : Ends E f k R (flS t a v s)) : Ends E f k R s := by
  unfold flA at h
  simp only [Option.bind_eq_some_iff] at h
  obtain ⟨⟨i, o, d, l⟩, hf, h⟩ := h
  obtain ⟨h1, h2, h3, h4, h5⟩ := flN_inv hf
  simp only at h
  split at h
  · rename_i t' a' ho
    simp only [Option.map_eq_some_iff, Prod.mk.injEq] at h
    obtain ⟨a2, ha, rfl, rfl⟩ := h
    have hs : Den.step E s = some (.next (flS t' a2 v s)) := by
      unfold flS
      rw [hf]
      unfold Den.step
      simp only
      rw [h1]
      simp only [stepMode, h2, stepRun, stepItem, drawStep, h3, h4, drawFloat, h5, Option.bind_some, cond_true, ho, drawLoad, ha, e, Option.map_some, nextS, Option.getD_some]
    exact Ends.go G 1 (by unfold runTo; rw [hs]; rfl) (by
      have e : goS E 1 s = flS t' a2 v s := by unfold goS runTo; rw [hs]; rfl
      rw [e]; exact q)
  · cases h
end

/-! ### Tests, numbers -/
theorem leI_true {a b : Int} (h : a ≤ b) : leI a b = true := by rw [leI_eq]; simpa using h
theorem leI_false {a b : Int} (h : b < a) : leI a b = false := by rw [leI_eq]; simpa using h
theorem eqI_true {a b : Int} (h : a = b) : eqI a b = true := by rw [eqI_eq]; simpa using h
theorem eqI_false {a b : Int} (h : a ≠ b) : eqI a b = false := by rw [eqI_eq]; simpa using h
theorem wrapF_i64 {n : Int} (h : -9223372036854775808 ≤ n ∧ n ≤ 9223372036854775807) : wrapF .i64 n = n := by
  rw [wrapF_eq]; exact IntWalk.i64_in n h

end Go.Den

namespace Go.Den

/-- a text's value -/
abbrev str (l : List UInt8) : Value := .string ⟨⟨l⟩⟩
abbrev i64 (n : Int) : Value := .int .i64 n
abbrev nat (n : Nat) : Value := .int .i64 (.ofNat n)
abbrev slv (b o n c : Nat) : Value := .slice (some ⟨b, o, none⟩) n c
abbrev ptr (b o : Nat) : Value := .pointer (some ⟨b, o, none⟩)

/-- a place: a name and a number -/
structure PL where
  name : List UInt8
  next : Int

def plC : List PL → List Value
  | [] => []
  | p :: l => str p.name :: i64 p.next :: plC l

theorem plC_length : ∀ (l : List PL), (plC l).length = l.length * 2
  | [] => rfl
  | p :: l => by simp [plC, plC_length l]; omega

theorem plC_append : ∀ (l m : List PL), plC (l ++ m) = plC l ++ plC m
  | [], m => rfl
  | p :: l, m => by simp [plC, plC_append l m]

theorem plC_scalar : ∀ (l : List PL), allL scalar (plC l) = true
  | [] => rfl
  | p :: l => by simp [plC, allL, plC_scalar l, scalar, scalarN]

theorem plC_one : ∀ (l : List PL), allL oneCell (plC l) = true
  | [] => rfl
  | p :: l => by simp [plC, allL, plC_one l, oneCell]

theorem plC_name : ∀ {l : List PL} {i : Nat} {p : PL}, l[i]? = some p → (plC l)[i * 2]? = some (str p.name)
  | [], i, p, h => by simp at h
  | q :: l, 0, p, h => by simp at h; subst h; rfl
  | q :: l, i + 1, p, h => by
    have := plC_name (l := l) (i := i) (p := p) (by simpa using h)
    rw [show (i + 1) * 2 = i * 2 + 1 + 1 by omega]
    simpa [plC] using this
theorem plC_next : ∀ {l : List PL} {i : Nat} {p : PL}, l[i]? = some p → (plC l)[i * 2 + 1]? = some (i64 p.next)
  | [], i, p, h => by simp at h
  | q :: l, 0, p, h => by simp at h; subst h; rfl
  | q :: l, i + 1, p, h => by
    have := plC_next (l := l) (i := i) (p := p) (by simpa using h)
    rw [show (i + 1) * 2 + 1 = i * 2 + 1 + 1 + 1 by omega]
    simpa [plC] using this

/-- behind other cells -/
theorem pre_get {pre c : List Value} {o j : Nat} {v : Value} (ho : pre.length = o) (h : c[j]? = some v) : (pre ++ c)[o + j]? = some v := by
  subst ho
  rw [List.getElem?_append_right (by omega)]
  simpa using h

section
variable {E : Env}

theorem takeN_one {c : List Value} {off : Nat} {v : Value} (h : c[off]? = some v) : takeN (c.drop off) 1 = some [v] := by
  have hlt : off < c.length := by
    rcases Nat.lt_or_ge off c.length with h1 | h1
    · exact h1
    · rw [List.getElem?_eq_none h1] at h; cases h
  rw [List.drop_eq_getElem_cons hlt]
  rw [List.getElem?_eq_getElem hlt] at h
  cases h; simp [takeN]
theorem takeN_two {c : List Value} {off : Nat} {v u : Value} (h : c[off]? = some v) (h2 : c[off + 1]? = some u) : takeN (c.drop off) 2 = some [v, u] := by
  have hlt : off < c.length := by
    rcases Nat.lt_or_ge off c.length with h1 | h1
    · exact h1
    · rw [List.getElem?_eq_none h1] at h; cases h
  have hlt2 : off + 1 < c.length := by
    rcases Nat.lt_or_ge (off + 1) c.length with h1 | h1
    · exact h1
    · rw [List.getElem?_eq_none h1] at h2; cases h2
  rw [List.drop_eq_getElem_cons hlt, List.drop_eq_getElem_cons hlt2]
  rw [List.getElem?_eq_getElem hlt] at h
  rw [List.getElem?_eq_getElem hlt2] at h2
  cases h; cases h2; simp [takeN]

theorem getElem?_le {c : List Value} {off : Nat} {v : Value} (h : c[off]? = some v) : Nat.ble off c.length = true := by
  rcases Nat.lt_or_ge off c.length with h1 | h1
  · exact Nat.ble_eq_true_of_le (by omega)
  · rw [List.getElem?_eq_none h1] at h; cases h

theorem load_cell {H : AHeap} {t b off e fz : Nat} {mk : Bool} {c : List Value} {v : Value} (ha : isAggB E t = some false) (ho : H.obj b = some (.cells c e fz mk)) (h : c[off]? = some v) :
    loadT E H t ⟨b, off, none⟩ = some v := by
  unfold loadT
  rw [ha]
  simp only [Option.bind_some, loadN, ho, cellsOfObj, getElem?_le h, cond_true, takeN_one h, one]
theorem load_two {H : AHeap} {t b off e fz : Nat} {mk : Bool} {c : List Value} {v u : Value} (ha : isAggB E t = some true) (hs : szOf E t = some 2) (ho : H.obj b = some (.cells c e fz mk)) (h : c[off]? = some v) (h2 : c[off + 1]? = some u) :
    loadT E H t ⟨b, off, none⟩ = some (.agg ⟨[v, u]⟩) := by
  unfold loadT
  rw [ha]
  simp only [Option.bind_some, hs, loadN, ho, cellsOfObj, getElem?_le h, cond_true, takeN_two h h2, Option.map_some]

theorem idx_sl {t e sz b o n c i : Nat} (hu : und E t = some (.slice e)) (hs : szOf E e = some sz) (h : i < n) :
    pIndexAddr E t (slv b o n c) (nat i) = some (ptr b (o + i * sz)) := by
  unfold pIndexAddr
  rw [hu]
  have : Nat.blt i n = true := Nat.ble_eq_true_of_le h
  simp only [hs, Option.bind_some, idx, this, cond_true, addP, forceNat]

variable {f : FuncId} {k : Nat} {R : Value → AHeap → Prop} {s : St}

/-- a place of a slice -/
theorem Ends.idx (G : E.Good) (t e sz b o n c i : Nat) (h : pureN E s = pIndexAddr E t (slv b o n c) (nat i)) (hu : und E t = some (.slice e)) (hs : szOf E e = some sz) (hi : i < n)
    (ho : opOk E (ptr b (o + i * sz)) s.heap s = true) (q : Ends E f k R (opS E (ptr b (o + i * sz)) s.heap s)) : Ends E f k R s :=
  Ends.pu G _ _ h (idx_sl hu hs hi) ho q

/-- a cell that is loaded -/
theorem Ends.ld (G : E.Good) (t b off e fz : Nat) (mk : Bool) (c : List Value) (v : Value) (h : opN E s = eLoad E t (ptr b off) s.heap) (ha : isAggB E t = some false) (hob : s.heap.obj b = some (.cells c e fz mk))
    (hv : c[off]? = some v) (ho : opOk E v s.heap s = true) (q : Ends E f k R (opS E v s.heap s)) : Ends E f k R s := by
  refine Ends.op G (h.trans ?_) ho q
  unfold eLoad
  simp only [addrOf, Option.bind_some, load_cell ha hob hv, value1, Option.map_some]
theorem Ends.ld2 (G : E.Good) (t b off e fz : Nat) (mk : Bool) (c : List Value) (v u : Value) (h : opN E s = eLoad E t (ptr b off) s.heap) (ha : isAggB E t = some true) (hs : szOf E t = some 2) (hob : s.heap.obj b = some (.cells c e fz mk))
    (hv : c[off]? = some v) (hv2 : c[off + 1]? = some u) (ho : opOk E (.agg ⟨[v, u]⟩) s.heap s = true) (q : Ends E f k R (opS E (.agg ⟨[v, u]⟩) s.heap s)) : Ends E f k R s := by
  refine Ends.op G (h.trans ?_) ho q
  unfold eLoad
  simp only [addrOf, Option.bind_some, load_two ha hs hob hv hv2, value1, Option.map_some]

/-- the same in a region that draws its order -/
theorem Ends.fidx (G : E.Good) (t e sz b o n c i : Nat) (h : fpN E s = pIndexAddr E t (slv b o n c) (nat i)) (hu : und E t = some (.slice e)) (hs : szOf E e = some sz) (hi : i < n)
    (q : Ends E f k R (fpS (ptr b (o + i * sz)) s)) : Ends E f k R s :=
  Ends.fp G _ _ h (idx_sl hu hs hi) q
theorem Ends.fld (G : E.Good) (t b off e fz : Nat) (mk : Bool) (c : List Value) (v : Value) (h : flA s = some (t, ⟨b, off, none⟩)) (ha : isAggB E t = some false) (hob : s.heap.obj b = some (.cells c e fz mk))
    (hv : c[off]? = some v) (q : Ends E f k R (flS t ⟨b, off, none⟩ v s)) : Ends E f k R s :=
  Ends.fl G t _ v h (load_cell ha hob hv) q
end

/-! ### Tests that are decided -/
theorem lt_true {a b : Nat} (h : a < b) : boolV (!leI (.ofNat b) (.ofNat a)) = .bool true := by rw [leI_false (by simpa using h)]; rfl
theorem lt_false {a b : Nat} (h : b ≤ a) : boolV (!leI (.ofNat b) (.ofNat a)) = .bool false := by rw [leI_true (by simpa using h)]; rfl
theorem succ_i64 {i : Nat} (h : i < 9223372036854775807) : i64 (wrapF .i64 (.ofNat i + 1)) = nat (i + 1) := by
  rw [wrapF_i64 (by constructor <;> simp <;> omega)]; rfl

end Go.Den

namespace Go.Den

theorem mapV_scalar (m : Ren) : ∀ (n j : Nat) (v : Value), n ≤ j → scalarN n v = true → mapV m j v = v := by
  intro n
  induction n with
  | zero => intro j v _ h; simp [scalarN] at h
  | succ n ih =>
    intro j v hj h
    obtain ⟨j, rfl⟩ : ∃ i, j = i + 1 := ⟨j - 1, by omega⟩
    have lists : ∀ l : List Value, allL (scalarN n) l = true → l.map (mapV m j) = l := by
      intro l
      induction l with
      | nil => intro _; rfl
      | cons a l ih2 =>
        intro hl
        have hl := allL_iff.1 hl
        rw [List.map_cons, ih j a (by omega) (hl a (by simp)), ih2 (allL_iff.2 fun x hx => hl x (by simp [hx]))]
    cases v with
    | pointer a => cases a with
      | none => rfl
      | some a => simp [scalarN] at h
    | slice a l c => cases a with
      | none => rfl
      | some a => simp [scalarN] at h
    | map r => cases r with
      | none => rfl
      | some r => simp [scalarN] at h
    | func => simp [scalarN] at h
    | iface t w => simp only [scalarN] at h; simp only [mapV, ih j w (by omega) h]
    | agg cs => simp only [scalarN] at h; simp only [mapV, lists _ h]
    | tuple cs => simp only [scalarN] at h; simp only [mapV, lists _ h]
    | _ => rfl

theorem maps_scalar (m : Ren) : ∀ {l : List Value}, allL scalar l = true → l.map (mapV m 10) = l
  | [], _ => rfl
  | a :: l, h => by
    have h := allL_iff.1 h
    rw [List.map_cons, mapV_scalar m 6 10 a (by omega) (h a (by simp)), maps_scalar m (allL_iff.2 fun x hx => h x (by simp [hx]))]

/-- A call without addresses. -/
theorem Does.told0 {E : Env} (G : E.Good) {f : FuncId} {args : List Value} {v : Value} (d : Does E f 0 args (hp 0 []) v (hp 0 [])) (ha : allL scalar args = true) (hv : scalar v = true) (H : AHeap) : Told E f args H v H := by
  have t := Told.of G (m := []) (fl := []) (fl' := []) (args := args) (H := H) (H1 := hp 0 []) (v := v) (k := 0) (by rw [maps_scalar [] ha]; exact d) rfl trivial trivial
  refine t.eq (mapV_scalar _ 6 10 v (by omega) hv) ?_
  cases H; rfl

section
variable {E : Env} {f : FuncId} {k : Nat} {R : Value → AHeap → Prop} {s : St}

/-- a call without addresses -/
theorem Ends.call0 (G : E.Good) (g : FuncId) (args : List Value) (v : Value) (d : Does E g 0 args (hp 0 []) v (hp 0 [])) (ha : allL scalar args = true) (hv : scalar v = true)
    (hq : callN E s = some (g, args)) (hH : callH E s = some s.heap) (ho : opOk E v s.heap s = true) (q : Ends E f k R (opS E v s.heap s)) : Ends E f k R s :=
  Ends.call G hq hH (d.told0 G ha hv s.heap) ho q

/-- a call: m: the caller's and the callee's numbers -/
theorem Ends.callD (G : E.Good) (g : FuncId) (m : Ren) (j : Nat) (fl fl' : List (Nat × AObj)) (args0 args : List Value) (Hm : AHeap) (v v2 : Value) (H1 : AHeap) (d : Does E g j args Hm v H1)
    (hq : callN E s = some (g, args0)) (hH : callH E s = some s.heap) (ha : args0.map (mapV m 10) = args) (hn : normH2 m (keysL fl) j s.heap = Hm) (hok : mergeOk m j (keysL fl) s.heap H1 = true)
    (hfl : Flats s.heap fl) (hfl' : Flats H1 fl') (hv : mapV (backL m j s.heap.next H1.next) 10 v = v2) (ho : opOk E v2 (mergeH m j (keysL fl') s.heap H1) s = true)
    (q : Ends E f k R (opS E v2 (mergeH m j (keysL fl') s.heap H1) s)) : Ends E f k R s := by
  subst ha; subst hn
  exact Ends.call G hq hH ((Told.of G d hok hfl hfl').eq hv rfl) ho q

/-! ### Ranging over a text -/
theorem next_true {H : AHeap} {r i : Nat} {b : List UInt8} (ho : H.obj r = some (.strIter ⟨⟨b⟩⟩ i)) (hi : i < b.length) :
    value2 (aNextIt (ptr r 0) true H) = some (.value (.tuple ⟨[.bool true, nat i, .int .i32 (Utf8.decode ⟨⟨b⟩⟩ i).1]⟩) (H.put r (some (.strIter ⟨⟨b⟩⟩ (i + (Utf8.decode ⟨⟨b⟩⟩ i).2))))) := by
  have hb : Nat.blt i b.length = true := Nat.ble_eq_true_of_le hi
  unfold aNextIt iterAt
  simp only [ho, Option.map_some, Option.bind_some, strNext, hb, cond_true, value2, forceNat]
theorem next_false {H : AHeap} {r i : Nat} {b : List UInt8} (ho : H.obj r = some (.strIter ⟨⟨b⟩⟩ i)) (hi : b.length ≤ i) :
    value2 (aNextIt (ptr r 0) true H) = some (.value (.tuple ⟨[.bool false]⟩) H) := by
  have hb : Nat.blt i b.length = false := by
    cases h : Nat.blt i b.length with
    | false => rfl
    | true => have := Nat.le_of_ble_eq_true h; omega
  unfold aNextIt iterAt
  simp only [ho, Option.map_some, Option.bind_some, strNext, hb, cond_false, value2]

theorem Ends.nxtT (G : E.Good) (r i : Nat) (b : List UInt8) (h : opN E s = value2 (aNextIt (ptr r 0) true s.heap)) (hob : s.heap.obj r = some (.strIter ⟨⟨b⟩⟩ i)) (hi : i < b.length)
    (ho : opOk E (.tuple ⟨[.bool true, nat i, .int .i32 (Utf8.decode ⟨⟨b⟩⟩ i).1]⟩) (s.heap.put r (some (.strIter ⟨⟨b⟩⟩ (i + (Utf8.decode ⟨⟨b⟩⟩ i).2)))) s = true)
    (q : Ends E f k R (opS E (.tuple ⟨[.bool true, nat i, .int .i32 (Utf8.decode ⟨⟨b⟩⟩ i).1]⟩) (s.heap.put r (some (.strIter ⟨⟨b⟩⟩ (i + (Utf8.decode ⟨⟨b⟩⟩ i).2)))) s)) : Ends E f k R s :=
  Ends.op G (h.trans (next_true hob hi)) ho q
theorem Ends.nxtF (G : E.Good) (r i : Nat) (b : List UInt8) (h : opN E s = value2 (aNextIt (ptr r 0) true s.heap)) (hob : s.heap.obj r = some (.strIter ⟨⟨b⟩⟩ i)) (hi : b.length ≤ i)
    (ho : opOk E (.tuple ⟨[.bool false]⟩) s.heap s = true) (q : Ends E f k R (opS E (.tuple ⟨[.bool false]⟩) s.heap s)) : Ends E f k R s :=
  Ends.op G (h.trans (next_false hob hi)) ho q
end
end Go.Den

namespace Go.Den

theorem takeN_of : ∀ (l : List Value) (n : Nat), n ≤ l.length → takeN l n = some (l.take n)
  | l, 0, _ => by simp [takeN]
  | [], n + 1, h => by simp at h
  | v :: l, n + 1, h => by
    have := takeN_of l n (by simpa using h)
    simp [takeN, this]

theorem splice_of : ∀ (c : List Value) (off : Nat) (vs : List Value), off + vs.length ≤ c.length → splice c off vs = some (c.take off ++ (vs ++ c.drop (off + vs.length)))
  | c, off, [], _ => by
    cases c <;> cases off <;> simp [splice]
  | [], 0, v :: vs, h => by simp at h
  | x :: c, 0, v :: vs, h => by
    have := splice_of c 0 vs (by simpa using h)
    simp only [splice, this, Option.map_some]
    simp
  | [], off + 1, v :: vs, h => by simp at h
  | x :: c, off + 1, v :: vs, h => by
    have := splice_of c off (v :: vs) (by simp at h ⊢; omega)
    simp only [splice, this, Option.map_some]
    simp [show off + 1 + (vs.length + 1) = (off + (vs.length + 1)) + 1 by omega]

theorem loadN_of {H : AHeap} {b off n e fz : Nat} {mk : Bool} {c : List Value} (ho : H.obj b = some (.cells c e fz mk)) (h : off + n ≤ c.length) : loadN H ⟨b, off, none⟩ n = some ((c.drop off).take n) := by
  unfold loadN
  have : Nat.ble off c.length = true := Nat.ble_eq_true_of_le (by omega)
  simp only [ho, cellsOfObj, Option.bind_some, this, cond_true]
  exact takeN_of _ _ (by simp; omega)

theorem bytesV_length : ∀ l : List UInt8, (bytesV l).length = l.length
  | [] => rfl
  | b :: l => by simp [bytesV, bytesV_length l]
theorem bytesV_append : ∀ l m : List UInt8, bytesV (l ++ m) = bytesV l ++ bytesV m
  | [], m => rfl
  | b :: l, m => by simp [bytesV, bytesV_append l m]
theorem bytesV_scalar : ∀ l : List UInt8, allL scalar (bytesV l) = true
  | [] => rfl
  | b :: l => by simp [bytesV, allL, bytesV_scalar l, scalar, scalarN]
theorem bytesV_one : ∀ l : List UInt8, allL oneCell (bytesV l) = true
  | [] => rfl
  | b :: l => by simp [bytesV, allL, bytesV_one l, oneCell]
theorem aBytes_of : ∀ l : List UInt8, aBytes (bytesV l) = some l
  | [] => rfl
  | b :: l => by
    have hb : Nat.blt b.toNat 256 = true := Nat.ble_eq_true_of_le (by have := b.toNat_lt; omega)
    have : byteOfV (.int .u8 (.ofNat b.toNat)) = some b := by
      simp only [byteOfV, hb, cond_true, UInt8.ofNat_toNat]
    simp only [bytesV, aBytes, this, Option.bind_some, aBytes_of l, Option.map_some]

section
variable {E : Env} {H : AHeap}

/-- what is appended: n elements -/
structure AppX (E : Env) (H : AHeap) (st xt : TypeId) (e sz bytes : Nat) (x : Value) (n : Nat) (new : List Value) : Prop where
  us : und E st = some (.slice e)
  hsz : szOf E e = some sz
  hby : bytesOfT E e = some bytes
  zero : ∃ z, zeroOf E e = some z ∧ Nat.beq z.cells.toList.length sz = true
  xd : ∃ xd, und E xt = some xd ∧ isIntD xd = false
  len : lenN x = some n
  first : firstN H sz n x = some new
  size : new.length = n * sz

theorem AppX.run {st xt e sz bytes n : Nat} {x : Value} {new : List Value} (a : AppX E H st xt e sz bytes x n new) (base : Option Addr) (len cap : Nat) :
    aAppend E [st, xt] [.slice base len cap, x] H = appendTo e sz bytes base len cap n new H := by
  obtain ⟨z, hz1, hz2⟩ := a.zero
  obtain ⟨xd, hx1, hx2⟩ := a.xd
  have hs : Nat.beq new.length (n * sz) = true := by rw [a.size]; simp
  unfold aAppend
  simp only [a.us, aAppendE, a.hsz, a.hby, hz1, hz2, hx1, hx2, Option.bind_some, cond_true, appended, a.len, a.first, hs]

theorem fits_append {len n bytes : Nat} (h : (4 * (len + n + 200)) * (bytes + 1) < 281474976710656) : Nat.ble 281474976710656 ((4 * (len + n + 200)) * (bytes + 1)) = false := by
  cases hb : Nat.ble 281474976710656 ((4 * (len + n + 200)) * (bytes + 1)) with
  | false => rfl
  | true => have := Nat.le_of_ble_eq_true hb; omega
theorem beq_zero {n : Nat} (h : n ≠ 0) : Nat.beq n 0 = false := by
  cases n with
  | zero => exact absurd rfl h
  | succ n => rfl

/-- room is left -/
theorem append_room {st xt e sz bytes n b len cap fz : Nat} {mk : Bool} {x : Value} {new c : List Value} (a : AppX E H st xt e sz bytes x n new)
    (hfit : (4 * (len + n + 200)) * (bytes + 1) < 281474976710656) (hn : n ≠ 0) (hcap : len + n ≤ cap) (hc : cap < capU) (ho : H.obj b = some (.cells c e fz mk)) (hfz : fz ≤ len * sz) (hlen : (len + n) * sz ≤ c.length) (h1 : allL oneCell new = true) :
    aAppend E [st, xt] [slv b 0 len cap, x] H = some (slv b 0 (len + n) cap, H.put b (some (.cells (c.take (len * sz) ++ (new ++ c.drop (len * sz + new.length))) e fz mk))) := by
  rw [a.run]
  unfold appendTo
  rw [fits_append hfit, beq_zero hn]
  have hcu : Nat.beq cap capU = false := by
    cases h : Nat.beq cap capU with
    | false => rfl
    | true => have := beq_inv h; omega
  have hcl : Nat.blt cap capU = true := Nat.ble_eq_true_of_le hc
  have hle : Nat.ble (len + n) cap = true := Nat.ble_eq_true_of_le hcap
  have hs := a.size
  rw [Nat.add_mul] at hlen
  have h2 : Nat.ble fz (len * sz) = true := Nat.ble_eq_true_of_le (by omega)
  have h3 : Nat.ble (len * sz) c.length = true := Nat.ble_eq_true_of_le (by omega)
  simp only [cond_false, forceNat, hcu, hcl, cond_true, appendC, hle, storeN, ho, storeIn, Nat.zero_add, h2, h3, h1, Bool.and_true, splice_of c (len * sz) new (by omega), Option.map_some]

/-- a new row -/
theorem append_nil {st xt e sz bytes n : Nat} {x : Value} {new : List Value} (a : AppX E H st xt e sz bytes x n new) (hfit : (4 * (0 + n + 200)) * (bytes + 1) < 281474976710656) (hn : n ≠ 0) :
    aAppend E [st, xt] [.slice none 0 0, x] H = some (.slice (some (newAddr H)) n capU, H.add (.cells new e 0 false)) := by
  rw [a.run]
  unfold appendTo
  rw [fits_append hfit, beq_zero hn]
  have hle : Nat.ble n 0 = false := by
    cases h : Nat.ble n 0 with
    | false => rfl
    | true => have := Nat.le_of_ble_eq_true h; omega
  have h0 : Nat.beq (0 * sz) 0 = true := by rw [Nat.zero_mul]; rfl
  have h1 : Nat.beq 0 capU = false := rfl
  have h2 : Nat.blt 0 capU = true := rfl
  have h3 : Nat.beq 0 0 = true := rfl
  simp only [cond_false, forceNat, h1, h2, h3, cond_true, appendC, Nat.zero_add, hle, appendNew, firstN, Option.map_some, newCells, List.nil_append]

/-- the capacity is not known: the elder row is dead -/
theorem append_new {st xt e sz bytes n b len fz : Nat} {mk : Bool} {x : Value} {new c : List Value} (a : AppX E H st xt e sz bytes x n new)
    (hfit : (4 * (len + n + 200)) * (bytes + 1) < 281474976710656) (hn : n ≠ 0) (ho : H.obj b = some (.cells c e fz mk)) (hfz : fz ≤ len * sz) (hlen : len * sz ≤ c.length) (h1 : allL oneCell new = true) (hz : Nat.beq sz 0 = false) :
    aAppend E [st, xt] [slv b 0 len capU, x] H = some (.slice (some (newAddr H)) (len + n) capU, (H.put b none).add (.cells (c.take (len * sz) ++ new) e fz mk)) := by
  rw [a.run]
  unfold appendTo
  rw [fits_append hfit, beq_zero hn]
  have hu : Nat.beq capU capU = true := rfl
  have he : Nat.beq e e = true := by simp
  have h2 : Nat.ble fz (len * sz) = true := Nat.ble_eq_true_of_le hfz
  simp only [cond_false, forceNat, hu, cond_true, appendU, appendUo, ho, he, h2, h1, hz, Bool.not_false, Bool.and_self, takeN_of c (len * sz) hlen, Option.map_some]

/-- nothing is appended -/
theorem append_zero {st xt e sz bytes len cap : Nat} {base : Option Addr} {x : Value} {new : List Value} (a : AppX E H st xt e sz bytes x 0 new)
    (hfit : (4 * (len + 0 + 200)) * (bytes + 1) < 281474976710656) (hc : len ≤ cap) :
    aAppend E [st, xt] [.slice base len cap, x] H = some (.slice base len cap, H) := by
  rw [a.run]
  unfold appendTo
  have h2 : Nat.ble len cap = true := Nat.ble_eq_true_of_le hc
  have h0 : Nat.beq 0 0 = true := rfl
  have h3 := fits_append (len := len) (n := 0) (bytes := bytes) hfit
  simp only [h3, h0, h2, cond_false, cond_true]

/-- the cells of a row, of a text -/
theorem first_row {sz b o n c2 e fz : Nat} {mk : Bool} {c : List Value} (ho : H.obj b = some (.cells c e fz mk)) (h : o + n * sz ≤ c.length) : firstN H sz n (slv b o n c2) = some ((c.drop o).take (n * sz)) := loadN_of ho h
theorem first_str {sz : Nat} (s : List UInt8) : firstN H sz s.length (str s) = some (bytesV s) := by
  show some (bytesV (s.take s.length)) = _
  rw [List.take_length]

variable {f : FuncId} {k : Nat} {R : Value → AHeap → Prop} {s : St}

theorem Ends.app (G : E.Good) (st xt : Nat) (a x v : Value) (H1 : AHeap) (h : opN E s = value2 (aAppend E [st, xt] [a, x] s.heap)) (e : aAppend E [st, xt] [a, x] s.heap = some (v, H1))
    (ho : opOk E v H1 s = true) (q : Ends E f k R (opS E v H1 s)) : Ends E f k R s :=
  Ends.op G (h.trans (by rw [e]; rfl)) ho q

/-- the same, where the new row's number is reckoned -/
theorem Ends.appE (G : E.Good) (st xt : Nat) (a x v0 v : Value) (H1 : AHeap) (h : opN E s = value2 (aAppend E [st, xt] [a, x] s.heap)) (e : aAppend E [st, xt] [a, x] s.heap = some (v0, H1)) (hv : v0 = v)
    (ho : opOk E v H1 s = true) (q : Ends E f k R (opS E v H1 s)) : Ends E f k R s := by
  subst hv
  exact Ends.op G (h.trans (by rw [e]; rfl)) ho q

/-- a text out of bytes -/
theorem bytes_str {e b n e2 fz : Nat} {mk : Bool} {c : List Value} {l : List UInt8} (hu : und E e = some (.int .u8)) (ho : H.obj b = some (.cells c e2 fz mk)) (hn : n ≤ c.length) (hl : c.take n = bytesV l) :
    bytesStr E e (some ⟨b, 0, none⟩) n H = some (.value (str l) H) := by
  unfold bytesStr
  rw [hu]
  simp only [loadN_of ho (show 0 + n ≤ c.length by omega), Option.bind_some, List.drop_zero, hl, aBytes_of, Option.map_some]

theorem Ends.bst (G : E.Good) (e b n e2 fz : Nat) (mk : Bool) (c : List Value) (l : List UInt8) (h : opN E s = bytesStr E e (some ⟨b, 0, none⟩) n s.heap) (hu : und E e = some (.int .u8)) (hob : s.heap.obj b = some (.cells c e2 fz mk)) (hn : n ≤ c.length) (hl : c.take n = bytesV l)
    (ho : opOk E (str l) s.heap s = true) (q : Ends E f k R (opS E (str l) s.heap s)) : Ends E f k R s :=
  Ends.op G (h.trans (bytes_str hu hob hn hl)) ho q
end
end Go.Den

namespace Go.Den

/-- what is watched still when an operation of a region comes to its value -/
def finW (fr : AFrame) : List (Nat × TypeId × Addr × Value) :=
  match fr.todo with
  | .draw d :: _ => match d.cur with
    | some i => d.watch.filter fun x => !(((Region.before d.all).getD i 0).testBit x.1)
    | none => []
  | _ => []
/-- the frame behind it, whatever is watched -/
def finU (fr : AFrame) (v : Value) : Option AFrame :=
  match fr.todo with
  | .ops all (o :: rest) :: k => some (fr.go (setT fr o.dst v) (.ops all rest :: k))
  | .draw d :: k => d.cur.map fun i => fr.go (setT fr (dstOf d.all i) v) (.draw ⟨d.id, d.all, d.done ||| 2 ^ i, none, d.watch.filter fun x => !(((Region.before d.all).getD i 0).testBit x.1)⟩ :: k)
  | .inRangeFunc l :: k => some (fr.go fr.tmps (.endRangeFunc l :: k))
  | .beginRound :: k => some (fr.go fr.tmps k)
  | _ => none

theorem finish_of {E : Env} {fr fr1 : AFrame} {v : Value} {H : AHeap} (h : finU fr v = some fr1) (hw : allL (stays E H) (finW fr) = true) : finish E fr v H = some fr1 := by
  unfold finU at h
  unfold finW at hw
  unfold finish
  split at h
  · rename_i ht; rw [ht]; exact h
  · rename_i d k ht
    rw [ht] at hw ⊢
    simp only at hw ⊢
    cases hc : d.cur with
    | none => rw [hc] at h; cases h
    | some i =>
      rw [hc] at h hw
      simp only [Option.map_some] at h
      simp only [Option.bind_some, DrawSt.after] at hw ⊢
      rw [hw]
      exact h
  · rename_i ht; rw [ht]; exact h
  · rename_i ht; rw [ht]; exact h
  · cases h

def opSU (E : Env) (v : Value) (H : AHeap) (s : St) : St := ((opFr E s).bind fun p => (finU p.1 v).map fun fr => (⟨fr, s.rest, H⟩ : St)).getD bad
def opOkU (E : Env) (v : Value) (s : St) : Bool := ((opFr E s).bind fun p => finU p.1 v).isSome
def opW (E : Env) (s : St) : List (Nat × TypeId × Addr × Value) := match opFr E s with | some p => finW p.1 | none => []

section
variable {E : Env} {f : FuncId} {k : Nat} {R : Value → AHeap → Prop} {s : St}

theorem opSU_eq {v : Value} {H : AHeap} (ho : opOkU E v s = true) (hw : allL (stays E H) (opW E s) = true) : opOk E v H s = true ∧ opS E v H s = opSU E v H s := by
  unfold opOkU at ho
  unfold opW at hw
  unfold opOk opS opSU
  cases hp : opFr E s with
  | none => rw [hp] at ho; cases ho
  | some p =>
    rw [hp] at ho hw
    simp only [Option.bind_some] at ho hw ⊢
    cases hf : finU p.1 v with
    | none => rw [hf] at ho; cases ho
    | some fr1 => rw [finish_of hf hw]; exact ⟨rfl, rfl⟩

theorem Ends.opW (G : E.Good) {v : Value} {H : AHeap} (ws : List (Nat × TypeId × Addr × Value)) (h : opN E s = some (.value v H)) (hw : Den.opW E s = ws) (hs : allL (stays E H) ws = true) (ho : opOkU E v s = true) (q : Ends E f k R (opSU E v H s)) : Ends E f k R s := by
  subst hw
  obtain ⟨h1, h2⟩ := opSU_eq (H := H) ho hs
  exact Ends.op G h h1 (by rw [h2]; exact q)

theorem Ends.callW (G : E.Good) {g : FuncId} {args : List Value} {H v H1} (ws : List (Nat × TypeId × Addr × Value)) (hq : callN E s = some (g, args)) (hH : callH E s = some H) (ht : Told E g args H v H1) (hw : Den.opW E s = ws) (hs : allL (stays E H1) ws = true)
    (ho : opOkU E v s = true) (q : Ends E f k R (opSU E v H1 s)) : Ends E f k R s := by
  subst hw
  obtain ⟨h1, h2⟩ := opSU_eq (H := H1) ho hs
  exact Ends.call G hq hH ht h1 (by rw [h2]; exact q)

theorem Ends.efW (G : E.Good) (u : AHeap → Option ANext) (v : Value) (F : AHeap → AHeap) (ws : List (Nat × TypeId × Addr × Value)) (h : opN E s = u s.heap) (e : u s.heap = some (.value v (F s.heap))) (hw : Den.opW E s = ws) (hs : allL (stays E (F s.heap)) ws = true)
    (ho : opOkU E v s = true) (q : Ends E f k R (opSU E v (F s.heap) s)) : Ends E f k R s := Ends.opW G ws (h.trans e) hw hs ho q

theorem stays_of {H : AHeap} {j : Nat} {t : TypeId} {a : Addr} {v : Value} (h : loadT E H t a = some v) (hv : veq 10 v v = true) : stays E H (j, t, a, v) = true := by
  unfold stays
  simp only [h, hv]
theorem veq_slice (b o n c : Nat) : veq 10 (slv b o n c) (slv b o n c) = true := by simp [veq]
theorem veq_str (l : List UInt8) : veq 10 (str l) (str l) = true := by simp [veq]
theorem veq_int (n : Int) : veq 10 (i64 n) (i64 n) = true := by simp [veq]
theorem one_stays {H : AHeap} {j : Nat} {t : TypeId} {a : Addr} {v : Value} (h : loadT E H t a = some v) (hv : veq 10 v v = true) : allL (stays E H) [(j, t, a, v)] = true := by
  simp only [allL, stays_of h hv, cond_true]
end

/-- a heap laid out, with dead numbers -/
def layO : List (Nat × Option AObj) → Tr AObj → Tr AObj
  | [], t => t
  | (i, o) :: l, t => layO l (t.set i o)
def hpo (n : Nat) (l : List (Nat × Option AObj)) : AHeap := ⟨n, layO l .nil⟩
end Go.Den

namespace Go.Den

/-- what a pure operation of the model comes to -/
def semV (P : Program) (s : Sem Value) : Option Value := scal (runPure P (s.bind fun a => .pure (.value a)))
theorem semV_pure {P : Program} {v : Value} (h : scalar v = true) : semV P (.pure v) = some v := by
  show scal (some (.value v)) = some v
  simp only [scal, h, cond_true]

section
variable {E : Env} {f : FuncId} {k : Nat} {R : Value → AHeap → Prop} {s : St}

theorem Ends.sem (G : E.Good) (x : Sem Value) (v : Value) (h : pureN E s = semV E.P x) (e : x = .pure v) (hv : scalar v = true) (ho : opOk E v s.heap s = true) (q : Ends E f k R (opS E v s.heap s)) : Ends E f k R s :=
  Ends.pu G _ v h (by rw [e]; exact semV_pure hv) ho q
theorem Ends.fsem (G : E.Good) (x : Sem Value) (v : Value) (h : fpN E s = semV E.P x) (e : x = .pure v) (hv : scalar v = true) (q : Ends E f k R (fpS v s)) : Ends E f k R s :=
  Ends.fp G _ v h (by rw [e]; exact semV_pure hv) q

theorem idx_str {t i : Nat} {l : List UInt8} {b : UInt8} (hu : und E t = some .string) (hb : l[i]? = some b) : pIndex E t (str l) (nat i) = some (.int .u8 (.ofNat b.toNat)) := by
  have hlt : i < l.length := by
    rcases Nat.lt_or_ge i l.length with h1 | h1
    · exact h1
    · rw [List.getElem?_eq_none h1] at hb; cases hb
  have h1 : Nat.blt i l.length = true := Nat.ble_eq_true_of_le hlt
  unfold pIndex
  rw [hu]
  simp only [idx, h1, cond_true, Option.bind_some, byteAt, hb, forceNat]
theorem Ends.sidx (G : E.Good) (t i : Nat) (l : List UInt8) (b : UInt8) (h : pureN E s = pIndex E t (str l) (nat i)) (hu : und E t = some .string) (hb : l[i]? = some b) (ho : opOk E (.int .u8 (.ofNat b.toNat)) s.heap s = true)
    (q : Ends E f k R (opS E (.int .u8 (.ofNat b.toNat)) s.heap s)) : Ends E f k R s :=
  Ends.pu G _ _ h (idx_str hu hb) ho q

/-- a part of a text -/
theorem slice_str {t a b : Nat} {l : List UInt8} (hu : und E t = some .string) (hab : a ≤ b) (hb : b ≤ l.length) : pSlice E t (str l) (some (nat a)) (some (nat b)) none = some (str ((l.take b).drop a)) := by
  have h1 : Nat.ble b l.length = true := Nat.ble_eq_true_of_le hb
  have h2 : Nat.ble a b = true := Nat.ble_eq_true_of_le hab
  unfold pSlice
  simp only [hu, pSliceStr, numLe, h1, cond_true, Option.bind_some, h2, Option.map_some]
end

/-! ### A panic goes through a frame that is in a region that draws its order -/
/-- the state behind it: the frame (without deferred calls) is passed -/
def unwS (s : St) : Option St :=
  match s.top.mode, s.top.defers, s.rest with
  | .panicking ch, [], c :: c2 :: cs => bif c.defers.isEmpty && (!inDraw c2.todo && modeRun c.mode) then some ⟨raise c2 ch, cs, s.heap⟩ else none
  | _, _, _ => none

theorem raised_chain {m : FrameMode} (h : m = .run) (ch : List PanicEntry) : Go.raised m ch = .panicking ch := by subst h; rfl

theorem Ends.unw {E : Env} {f : FuncId} {k : Nat} {R : Value → AHeap → Prop} {s : St} (s1 : St) (h : unwS s = some s1) (q : Ends E f k R s1) : Ends E f k R s := by
  intro ρ0 w0 ρ cs0 fr' cs' w hs hk
  obtain ⟨fr, rest, H⟩ := s
  unfold unwS at h
  simp only at h
  split at h
  · rename_i ch c c2 cs hmode hdef
    obtain ⟨hcond, h⟩ := bif_some h
    simp only [Option.some.injEq] at h; subst h
    simp only [Bool.and_eq_true, Bool.not_eq_true'] at hcond
    obtain ⟨hcd, hc2, hm⟩ := hcond
    have hcd : c.defers = [] := List.isEmpty_iff.1 hcd
    obtain ⟨htop, hstk, hh⟩ := hs
    simp only at htop hstk hh
    have hp : Plain ρ fr fr' := by
      cases htop with
      | plain hp => exact hp
      | ready hr =>
        obtain ⟨d, k, L, l, k', base, V, hcu, hdr, _⟩ := hr
        have := hdr.mode
        rw [hmode] at this; cases this
    cases hstk with
    | cons _ _ c' _ cs1 hcr hs2 =>
      cases hs2 with
      | cons _ _ c2' _ cs2 hcr2 hs3 =>
        have hp2 := hcr2.plain_of hc2
        -- the top frame
        have hm1 := hp.base.mode
        rw [hmode] at hm1
        obtain ⟨ch', hch', hch⟩ : ∃ ch', fr'.mode = .panicking ch' ∧ All2 (PERel ρ) ch ch' := by
          generalize hq : fr'.mode = q at hm1
          cases hm1 with
          | panicking _ ch' h => exact ⟨ch', rfl, h⟩
        have hd1 : fr'.defers = [] := by
          have := hp.base.defers
          rw [hdef] at this
          generalize fr'.defers = q at this ⊢
          cases this; rfl
        have st1 : Steps E.P (lone fr' (c' :: c2' :: cs2) w) (lone (c'.raise ch') (c2' :: cs2) w) := .one (s_panicUp hch' hd1 hp.todo.noCall)
        -- the frame that waits
        have hcm : c.mode = .run := by
          cases hcm : c.mode <;> rw [hcm] at hm <;> first | rfl | cases hm
        have hcm' : c'.mode = .run := by
          have := hcr.base.mode
          rw [hcm] at this
          generalize c'.mode = q at this ⊢
          cases this; rfl
        have hd2 : c'.defers = [] := by
          have := hcr.base.defers
          rw [hcd] at this
          generalize c'.defers = q at this ⊢
          cases this; rfl
        have hnc : ∀ d b r s2, c'.todo.head? ≠ some (.call d b r s2) := by
          cases hcr with
          | plain hpc => exact hpc.todo.noCall
          | wait _ hwt =>
            cases hwt with
            | mk d k L i o l k' base V hc hd ho hA hL hm2 hs =>
              intro d' b r s2
              rw [hd.todo']; simp
        have st2 : Steps E.P (lone (c'.raise ch') (c2' :: cs2) w) (lone (c2'.raise ch') cs2 w) := by
          refine .one (s_panicUp ?_ ?_ ?_)
          · unfold Frame.raise; rw [hcm']
          · unfold Frame.raise; rw [hcm']; exact hd2
          · intro d b r s2
            unfold Frame.raise; rw [hcm']; exact hnc d b r s2
        have hs1 : StR E ρ cs0 ⟨raise c2 ch, cs, H⟩ (c2'.raise ch') cs2 w := by
          refine ⟨.plain (hp2.raise hch), ?_, hh⟩
          simp only [Den.raise, withMode_eq]
          exact hs3
        obtain ⟨v, H2, ρ2, fr2, w2, v2, q1, q2, q3, q4, q5, q6, q7⟩ := q ρ0 w0 ρ cs0 _ _ w hs1 hk
        exact ⟨v, H2, ρ2, fr2, w2, v2, q1, (st1.trans st2).trans q2, q3, q4, q5, q6, q7⟩
  · cases h

def unwD (s : St) : St := (unwS s).getD bad
theorem Ends.unwind {E : Env} {f : FuncId} {k : Nat} {R : Value → AHeap → Prop} {s : St} (h : (unwS s).isSome = true) (q : Ends E f k R (unwD s)) : Ends E f k R s :=
  Ends.unw _ (getD_some h) q

section
variable {E : Env} {f : FuncId} {k : Nat} {R : Value → AHeap → Prop} {s : St}
def doneV (E : Env) (n : Nat) (s : St) : Option (FuncId × Value) :=
  match Den.run E n s with
  | some (.done f v _) => some (f, v)
  | _ => none
/-- the end, whatever the heap -/
theorem Ends.doneR (G : E.Good) {v : Value} (n : Nat) (h : doneV E n s = some (f, v)) (hr : ∀ H, R v H) : Ends E f k R s := by
  unfold doneV at h
  split at h
  · rename_i f' v' H he
    simp only [Option.some.injEq, Prod.mk.injEq] at h
    obtain ⟨rfl, rfl⟩ := h
    exact Ends.done G n he (hr H)
  · cases h

/-- an append in a region that draws its order -/
theorem Ends.appW (G : E.Good) (st xt : Nat) (a x v0 v : Value) (H1 : AHeap) (ws : List (Nat × TypeId × Addr × Value)) (h : opN E s = value2 (aAppend E [st, xt] [a, x] s.heap)) (e : aAppend E [st, xt] [a, x] s.heap = some (v0, H1)) (hv : v0 = v)
    (hw : Den.opW E s = ws) (hs : allL (stays E H1) ws = true) (ho : opOkU E v s = true) (q : Ends E f k R (opSU E v H1 s)) : Ends E f k R s := by
  subst hv
  exact Ends.opW G ws (h.trans (by rw [e]; rfl)) hw hs ho q

/-- a call by contract in a region that draws its order -/
theorem Ends.callDW (G : E.Good) (g : FuncId) (m : Ren) (j : Nat) (fl fl' : List (Nat × AObj)) (args0 args : List Value) (Hm : AHeap) (v v2 : Value) (H1 : AHeap) (ws : List (Nat × TypeId × Addr × Value)) (d : Does E g j args Hm v H1)
    (hq : callN E s = some (g, args0)) (hH : callH E s = some s.heap) (ha : args0.map (mapV m 10) = args) (hn : normH2 m (keysL fl) j s.heap = Hm) (hok : mergeOk m j (keysL fl) s.heap H1 = true)
    (hfl : Flats s.heap fl) (hfl' : Flats H1 fl') (hv : mapV (backL m j s.heap.next H1.next) 10 v = v2) (hw : Den.opW E s = ws) (hs : allL (stays E (mergeH m j (keysL fl') s.heap H1)) ws = true) (ho : opOkU E v2 s = true)
    (q : Ends E f k R (opSU E v2 (mergeH m j (keysL fl') s.heap H1) s)) : Ends E f k R s := by
  subst ha; subst hn
  exact Ends.callW G ws hq hH ((Told.of G d hok hfl hfl').eq hv rfl) hw hs ho q
end

theorem shift_left (a : Int) (k : IntKind) (n : Nat) : Op.shift .shl .i64 a k (.ofNat n) = .pure (.int .i64 (IntKind.wrap .i64 (a * 2 ^ (min n 64)))) := by
  unfold Op.shift
  rw [if_neg (by simp)]
  rfl
end Go.Den
