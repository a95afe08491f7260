/-
One operation of the plain machine, calls aside, is the model's.
Renaming blocks: what is related stays related; what a call is handed, and what it hands back.
-/
import Derived.Test.YtpgdfpcihamldaaGreatDoorK05
namespace Go.Pm
open Go Go.MapKept

structure EnvOk (E : Env) : Prop where
  ty : TyOk E.P E.ty
  eq : EqOk E.P E.ty
  func : ∀ f fn, E.func f = some fn → E.P.funcs[f]? = some fn ∧ fn.body.isSome = true ∧ (fn.name == "runtime.NumGoroutine") = false
  mixed : E.P.follows .mixedOrders = true
  glob : ∀ g cs, E.glob g = some cs → cs.all AV.pure = true

def GlobOk (E : Env) (G : Gh) (w : World) : Prop := ∀ g cs, E.glob g = some cs → PubAt G w g 0 cs
def TRel (G : Gh) (w : World) (T : Tm) (tmps : Array Value) : Prop := ∀ t v, T.get t = some v → t < tmps.size ∧ Rel G w v (tmps.getD t undef)
def DRel (G : Gh) (w : World) : List (FuncId × List AV) → List Deferred → Prop
  | [], ds => ds = []
  | (f, as) :: l, ds => ∃ d ds' cap, ds = d :: ds' ∧ d.target = .fn (.func f) cap ∧ RelL G w as (d.args ++ cap).toList ∧ DRel G w l ds'
structure StRel (E : Env) (N0 : Nat) (F : Nat → Prop) (G : Gh) (w : World) (st : St) (a : Act) : Prop where
  heap : HRel N0 F G w st.heap
  tm : TRel G w st.tm a.tmps
  n : a.tmps.size = st.n
  defers : DRel G w st.defers a.defers
  glob : GlobOk E G w

variable {E : Env} {G : Gh} {w : World} {N0 : Nat} {F : Nat → Prop}

theorem GlobOk.ext {G' : Gh} {w' : World} (h : Ext G w G' w') (k : GlobOk E G w) : GlobOk E G' w' := fun g cs hg => (k g cs hg).ext h
theorem TRel.ext {G' : Gh} {w' : World} (h : Ext G w G' w') {T : Tm} {tmps : Array Value} (k : TRel G w T tmps) : TRel G' w' T tmps := fun t v ht => ⟨(k t v ht).1, (k t v ht).2.ext h⟩
theorem DRel.ext {G' : Gh} {w' : World} (h : Ext G w G' w') : ∀ {l : List (FuncId × List AV)} {ds : List Deferred}, DRel G w l ds → DRel G' w' l ds
  | [], _, k => k
  | (_, _) :: _, _, ⟨d, ds', cap, e, k1, k2, k3⟩ => ⟨d, ds', cap, e, k1, k2.ext h, k3.ext h⟩
theorem TRel.put {T : Tm} {tmps : Array Value} (k : TRel G w T tmps) {d : Tmp} {v : AV} {V : Value} (hd : d < tmps.size) (hv : Rel G w v V) : TRel G w (T.put d v) (tmps.setIfInBounds d V) := by
  intro t u ht
  rw [Tm.get_put] at ht
  cases hb : Nat.beq d t with
  | true =>
    have : d = t := Nat.eq_of_beq_eq_true hb
    subst this
    simp at ht; subst ht
    exact ⟨by simpa using hd, by simpa [Array.getD, hd] using hv⟩
  | false =>
    have hne : d ≠ t := Nat.ne_of_beq_eq_false hb
    simp [hb] at ht
    obtain ⟨h1, h2⟩ := k t u ht
    refine ⟨by simpa using h1, ?_⟩
    have : (tmps.setIfInBounds d V).getD t undef = tmps.getD t undef := by
      simp [Array.getElem?_setIfInBounds_ne hne]
    rw [this]; exact h2
theorem undef_rel : Rel G w undefA undef := ⟨#[], rfl, rfl⟩
/-- A value laid into a slot. -/
theorem StRel.put {st st' : St} {a : Act} (h : StRel E N0 F G w st a) {G' : Gh} {w' : World} (ext : Ext G w G' w') {H' : List ABlk} (hH : HRel N0 F G' w' H') {v : AV} {V : Value} (hv : Rel G' w' v V) {dst : Option Tmp}
    (hp : st.put dst v H' = some st') : StRel E N0 F G' w' st' (a.put dst V) := by
  cases dst with
  | none =>
    simp [St.put] at hp; subst hp
    exact ⟨hH, h.tm.ext ext, h.n, h.defers.ext ext, h.glob.ext ext⟩
  | some d =>
    have hp' : bc (Nat.ble (d + 1) st.n) (some (⟨st.tm.put d v, H', st.n, st.defers⟩ : St)) none = some st' := hp
    obtain ⟨hb, hp'⟩ := bc_some hp'
    simp at hp'; subst hp'
    have hd : d < a.tmps.size := by rw [h.n]; exact Nat.le_of_ble_eq_true hb
    exact ⟨hH, (h.tm.ext ext).put hd hv, by simp [Act.put, h.n], h.defers.ext ext, h.glob.ext ext⟩
theorem ev_sound (hE : EnvOk E) {st : St} {a : Act} (h : StRel E N0 F G w st a) {x : Operand} {v : AV} (hv : ev E st.tm x = some v) : Rel G w v (a.eval x) := by
  cases x with
  | tmp t => exact (h.tm t v hv).2
  | const c => exact ofVal_rel hv G w
  | global g =>
    obtain ⟨cs, h1, h2⟩ := ob_some_iff (show ob (E.glob g) (fun cs => some (.eptr cs)) = some v from hv)
    simp at h2; subst h2
    exact ⟨g, 0, rfl, hE.glob g cs h1, h.glob g cs h1⟩
  | func f =>
    have : (AV.func f [] []) = v := by simpa [ev, evFunc] using hv
    subst this
    exact ⟨#[], #[], rfl, rfl, rfl⟩
theorem vals_sound (hE : EnvOk E) {st : St} {a : Act} (h : StRel E N0 F G w st a) : ∀ {xs : List Operand} {vs : List AV}, vals (ev E st.tm) xs = some vs → RelL G w vs (xs.map a.eval)
  | [], vs, hv => by
    have : ([] : List AV) = vs := by simpa [vals] using hv
    subst this; rfl
  | x :: xs, vs, hv => by
    have hv' : ob (ev E st.tm x) (fun v => ob (vals (ev E st.tm) xs) fun l => some (v :: l)) = some vs := hv
    obtain ⟨v, h1, hv'⟩ := ob_some_iff hv'
    obtain ⟨l, h2, hv'⟩ := ob_some_iff hv'
    simp at hv'; subst hv'
    exact ⟨_, _, rfl, ev_sound hE h h1, vals_sound hE h h2⟩
theorem parts_sound (hE : EnvOk E) {st : St} {a : Act} (h : StRel E N0 F G w st a) : ∀ {xs : List (Nat × Operand)} {vs : List (Nat × AV)}, parts (ev E st.tm) xs = some vs → RelPs G w vs (xs.map fun (i, x) => (i, a.eval x))
  | [], vs, hv => by
    have : ([] : List (Nat × AV)) = vs := by simpa [parts] using hv
    subst this; rfl
  | (i, x) :: xs, vs, hv => by
    have hv' : ob (ev E st.tm x) (fun v => ob (parts (ev E st.tm) xs) fun l => some ((i, v) :: l)) = some vs := hv
    obtain ⟨v, h1, hv'⟩ := ob_some_iff hv'
    obtain ⟨l, h2, hv'⟩ := ob_some_iff hv'
    simp at hv'; subst hv'
    exact ⟨_, _, rfl, ev_sound hE h h1, parts_sound hE h h2⟩
theorem optV_sound (hE : EnvOk E) {st : St} {a : Act} (h : StRel E N0 F G w st a) (x : Option Operand) : ORel G w (optV (ev E st.tm) x) (x.map a.eval) := by
  cases x with
  | none => trivial
  | some x =>
    simp only [optV, Option.map_some]
    cases hv : ev E st.tm x with
    | none => trivial
    | some v => exact ev_sound hE h hv

/-- What an operation that is no call comes to. -/
def Does (E : Env) (N0 : Nat) (F : Nat → Prop) (G : Gh) (w : World) (v : AV) (H' : List ABlk) (s : Sem Next) : Prop :=
  ∃ nx w' G' V, s.run E.P w = .ok nx w' ∧ (nx = .value V ∨ (nx = .skip ∧ V = undef)) ∧ HRel N0 F G' w' H' ∧ Ext G w G' w' ∧ Step N0 F G.m w G'.m w' ∧ Rel G' w' v V
theorem does_read {H : List ABlk} (hH : HRel N0 F G w H) {v : AV} {s : Sem Value} {V : Value} (h : s.run E.P w = .ok V w) (hv : Rel G w v V) : Does E N0 F G w v H (do pure (.value (← s))) :=
  ⟨.value V, w, G, V, by simp [h], .inl rfl, hH, Ext.refl _ _, Step.refl _ _, hv⟩
theorem does_make {H' : List ABlk} {v : AV} {s : Sem Value} {V : Value} {w' : World} {G' : Gh} (h : s.run E.P w = .ok V w') (hH : HRel N0 F G' w' H') (e : Ext G w G' w') (k : Step N0 F G.m w G'.m w') (hv : Rel G' w' v V) : Does E N0 F G w v H' (do pure (.value (← s))) :=
  ⟨.value V, w', G', V, by simp [h], .inl rfl, hH, e, k, hv⟩
theorem does_unit {H' : List ABlk} {s : Sem Unit} {w' : World} (h : s.run E.P w = .ok () w') (hH : HRel N0 F G w' H') (e : Ext G w G w') (k : Step N0 F G.m w G.m w') : Does E N0 F G w undefA H' (do s; pure .skip) :=
  ⟨.skip, w', G, undef, by simp [h], .inr ⟨rfl, rfl⟩, hH, e, k, undef_rel⟩
theorem okV_some {H H' : List ABlk} {x : Option AV} {v : AV} (h : okV H x = some (v, H')) : x = some v ∧ H' = H := by
  obtain ⟨y, h1, h2⟩ := ob_some_iff h
  simp at h2; exact ⟨by rw [h1, h2.1], h2.2.symm⟩
theorem okH_some {H' : List ABlk} {x : Option (List ABlk)} {v : AV} (h : okH x = some (v, H')) : x = some H' ∧ v = undefA := by
  obtain ⟨y, h1, h2⟩ := ob_some_iff h
  simp at h2; exact ⟨by rw [h1, h2.2], h2.1.symm⟩
theorem vals_array {xs : Array Operand} {a : Act} : (xs.map a.eval).toList = xs.toList.map a.eval := by simp

/-- The operations that are laid out by 'sDone'. -/
theorem done_sound (hE : EnvOk E) {st : St} {a : Act} (h : StRel E N0 F G w st a) {op : Op} {r : OpR} {v : AV} {H' : List ABlk} (hr : r = some (v, H'))
    (hop : match op with
      | .move x => r = okV st.heap (ev E st.tm x)
      | .assign x => r = okV st.heap (ev E st.tm x)
      | .pick c x y => r = oPick (ev E st.tm) st.heap c x y
      | .alloc e => r = oAlloc E.ty st.heap e
      | .box _ x => r = oBox (ev E st.tm) st.heap x
      | .build t ps => r = oBuild E.ty (ev E st.tm) st.heap t ps
      | .buildSlice t n ps => r = oBuildSlice E.ty (ev E st.tm) st.heap t n ps
      | .insert t m k x => r = oUpdate E.ty (ev E st.tm) st.heap t m k x
      | .load t x => r = oLoad E.ty (ev E st.tm) st.heap t x
      | .store t x y => r = oStore E.ty (ev E st.tm) st.heap t x y
      | .nilCheck x => r = oNil (ev E st.tm) st.heap x
      | .binOp op t x y _ => r = oBin E.ty (ev E st.tm) st.heap op t x y
      | .unOp op _ x => r = oUn (ev E st.tm) st.heap op x
      | .convert s d x => r = oConv E.ty (ev E st.tm) st.heap s d x
      | .makeInterface t x => r = oIface E.ty (ev E st.tm) st.heap t x
      | .makeFunc fn first caps => r = oFunc (ev E st.tm) st.heap fn first caps
      | .makeMap _ q => r = oMap st.heap q
      | .slice t x lo hi mx => r = oSlice E.ty (ev E st.tm) st.heap t x lo hi mx
      | .fieldAddr s x f => r = oFieldAddr E.ty (ev E st.tm) st.heap s x f
      | .field t x f => r = oField E.ty (ev E st.tm) st.heap t x f
      | .indexAddr t x i => r = oIndexAddr E.ty (ev E st.tm) st.heap t x i
      | .index t x i => r = oIndex E.ty (ev E st.tm) st.heap t x i
      | .lookup t m k ok => r = oLookup E.ty (ev E st.tm) st.heap t m k ok
      | .mapUpdate t m k x => r = oUpdate E.ty (ev E st.tm) st.heap t m k x
      | .typeAssert x _ t ok => r = oAssert E.ty (ev E st.tm) st.heap x t ok
      | .extract t i => r = oExtract (ev E st.tm) st.heap t i
      | .call c => ∃ b, c.callee = .builtin b ∧ r = oBuiltin E.ty st.heap b c.argTypes.toList (vals (ev E st.tm) c.args.toList)
      | _ => False) (dst : Option Tmp) (ty : TypeId) (pos : String) (after : Array Edge) (guard : Option (Nat × Bool)) :
    Does E N0 F G w v H' (execOp a.eval { dst, op, type := ty, pos, after, guard }) := by
  have hT := hE.ty
  have hH := h.heap
  subst hr
  cases op <;> simp only at hop
  case move x =>
    obtain ⟨h1, rfl⟩ := okV_some hop.symm
    exact ⟨_, w, G, a.eval x, by simp [execOp], .inl rfl, hH, Ext.refl _ _, Step.refl _ _, ev_sound hE h h1⟩
  case assign x =>
    obtain ⟨h1, rfl⟩ := okV_some hop.symm
    exact ⟨_, w, G, a.eval x, by simp [execOp], .inl rfl, hH, Ext.refl _ _, Step.refl _ _, ev_sound hE h h1⟩
  case pick c x y =>
    have hop := hop.symm
    unfold oPick at hop
    split at hop
    · rename_i t hc
      obtain ⟨h1, rfl⟩ := okV_some hop
      have kc := ev_sound hE h hc
      have kc : a.eval c = .bool t := kc
      cases t with
      | true => exact ⟨_, w, G, a.eval x, by simp [execOp, kc, asBool], .inl rfl, hH, Ext.refl _ _, Step.refl _ _, ev_sound hE h h1⟩
      | false => exact ⟨_, w, G, a.eval y, by simp [execOp, kc, asBool], .inl rfl, hH, Ext.refl _ _, Step.refl _ _, ev_sound hE h h1⟩
    · simp at hop
  case alloc e =>
    obtain ⟨V, w', G', k1, k2, k3, k4, k5⟩ := alloc_sound hT hH hop.symm
    exact does_make k1 k2 k3 k4 k5
  case box e x =>
    have hop := hop.symm
    unfold oBox at hop
    split at hop
    · rename_i x' hx
      simp at hop; obtain ⟨rfl, rfl⟩ := hop
      obtain ⟨V, w', G', k1, k2, k3, k4, k5⟩ := box_sound (P := E.P) (e := e) hH (ev_sound hE h hx)
      exact does_make k1 k2 k3 k4 k5
    · simp at hop
  case build t ps =>
    have hop := hop.symm
    unfold oBuild at hop
    split at hop
    · rename_i ps' hps
      obtain ⟨h1, rfl⟩ := okV_some hop
      obtain ⟨V, k1, k2⟩ := buildA_sound (w := w) (vs := ps.map fun (i, x) => (i, a.eval x)) hT h1 (by simpa using parts_sound hE h hps)
      exact does_read hH k1 k2
    · simp at hop
  case buildSlice t n ps =>
    have hop := hop.symm
    unfold oBuildSlice at hop
    split at hop
    · rename_i ps' hps
      obtain ⟨h1, rfl⟩ := okV_some hop
      obtain ⟨V, w', G', k1, k2, k3, k4, k5⟩ := buildSliceA_sound (vs := ps.map fun (i, x) => (i, a.eval x)) hT hH h1 (by simpa using parts_sound hE h hps)
      exact does_make k1 k2 k3 k4 k5
    · simp at hop
  case insert t m k x =>
    have hop := hop.symm
    unfold oUpdate at hop
    split at hop
    · rename_i m' k' x' hm hk hx
      obtain ⟨h1, rfl⟩ := okH_some hop
      obtain ⟨w', k1, k2, k3, k4⟩ := mapUpdateA_sound hT hH h1 (ev_sound hE h hm) (ev_sound hE h hk) (ev_sound hE h hx)
      exact does_unit k1 k2 k3 k4
    · simp at hop
  case mapUpdate t m k x =>
    have hop := hop.symm
    unfold oUpdate at hop
    split at hop
    · rename_i m' k' x' hm hk hx
      obtain ⟨h1, rfl⟩ := okH_some hop
      obtain ⟨w', k1, k2, k3, k4⟩ := mapUpdateA_sound hT hH h1 (ev_sound hE h hm) (ev_sound hE h hk) (ev_sound hE h hx)
      exact does_unit k1 k2 k3 k4
    · simp at hop
  case load t x =>
    have hop := hop.symm
    unfold oLoad at hop
    split at hop
    · rename_i x' hx
      obtain ⟨h1, rfl⟩ := okV_some hop
      obtain ⟨V, k1, k2⟩ := loadA_sound hT hH h1 (ev_sound hE h hx)
      exact does_read hH k1 k2
    · simp at hop
  case store t x y =>
    have hop := hop.symm
    unfold oStore at hop
    split at hop
    · rename_i x' y' hx hy
      obtain ⟨h1, rfl⟩ := okH_some hop
      obtain ⟨w', k1, k2, k3, k4⟩ := storeA_sound hT hH h1 (ev_sound hE h hy) (ev_sound hE h hx)
      exact does_unit k1 k2 k3 k4
    · simp at hop
  case nilCheck x =>
    have hop := hop.symm
    unfold oNil at hop
    split at hop
    · rename_i r o hx
      simp at hop; obtain ⟨rfl, rfl⟩ := hop
      have k := ev_sound hE h hx
      have k' := k
      obtain ⟨_, e⟩ := k
      exact ⟨.value (a.eval x), w, G, a.eval x, by simp [execOp, e], .inl rfl, hH, Ext.refl _ _, Step.refl _ _, k'⟩
    · rename_i cs hx
      simp at hop; obtain ⟨rfl, rfl⟩ := hop
      have k := ev_sound hE h hx
      have k' := k
      obtain ⟨_, _, e, _⟩ := k
      exact ⟨.value (a.eval x), w, G, a.eval x, by simp [execOp, e], .inl rfl, hH, Ext.refl _ _, Step.refl _ _, k'⟩
    · rename_i f p q hx
      simp at hop; obtain ⟨rfl, rfl⟩ := hop
      have k := ev_sound hE h hx
      have k' := k
      obtain ⟨_, _, e, _⟩ := k
      exact ⟨.value (a.eval x), w, G, a.eval x, by simp [execOp, e], .inl rfl, hH, Ext.refl _ _, Step.refl _ _, k'⟩
    · simp at hop
  case binOp op t x y t' =>
    have hop := hop.symm
    unfold oBin at hop
    split at hop
    · rename_i x' y' hx hy
      obtain ⟨h1, rfl⟩ := okV_some hop
      obtain ⟨V, k1, k2⟩ := binA_sound hT hE.eq h1 (ev_sound hE h hx) (ev_sound hE h hy)
      exact does_read hH k1 k2
    · simp at hop
  case unOp op t x =>
    have hop := hop.symm
    unfold oUn at hop
    split at hop
    · rename_i x' hx
      obtain ⟨h1, rfl⟩ := okV_some hop
      obtain ⟨V, k1, k2⟩ := unA_sound (P := E.P) h1 (ev_sound hE h hx)
      exact does_read hH k1 k2
    · simp at hop
  case convert s d x =>
    have hop := hop.symm
    unfold oConv at hop
    split at hop
    · rename_i x' hx
      by_cases hsd : ∃ e, descT E.ty s = some .string ∧ descT E.ty d = some (.slice e)
      · obtain ⟨e, hs, hd⟩ := hsd
        have kx := ev_sound hE h hx
        unfold convertA at hop
        rw [hs, hd] at hop
        cases x' with
        | str b =>
          simp only at hop
          split at hop
          · rename_i he hsz
            simp at hop; obtain ⟨rfl, rfl⟩ := hop
            have kx : a.eval x = .string ⟨⟨b⟩⟩ := kx
            obtain ⟨V, w', G', k1, k2, k3, k4, k5⟩ := toBytes_sound hT hH hs hd he (x := b)
            rw [← kx] at k1
            exact does_make k1 k2 k3 k4 k5
          · simp at hop
        | _ => simp at hop
      · obtain ⟨rfl, V, k1, k2⟩ := convertA_sound hT hH hop (ev_sound hE h hx) (fun e q => hsd ⟨e, q⟩)
        exact does_read hH k1 k2
    · simp at hop
  case makeInterface t x =>
    have hop := hop.symm
    unfold oIface at hop
    split at hop
    · rename_i x' d hx hd
      split at hop
      · simp at hop
      · rename_i hne
        simp at hop; obtain ⟨rfl, rfl⟩ := hop
        refine does_read (V := .iface t (a.eval x)) hH ?_ ⟨_, rfl, ev_sound hE h hx⟩
        simp only [Instr.makeInterface, Sem.run_bind, run_desc hT hd, Result.andThen_ok]
        all_goals first
          | rfl
          | (split
             · rename_i ms _; exact absurd rfl (hne ms)
             · rfl)
    · simp at hop
  case makeFunc fn first caps =>
    have hop := hop.symm
    unfold oFunc at hop
    split at hop
    · split at hop
      · rename_i p q hp hq
        simp at hop; obtain ⟨rfl, rfl⟩ := hop
        refine does_read (V := .func (.func _) (first.map a.eval) (caps.map a.eval)) hH rfl ⟨_, _, rfl, ?_, ?_⟩
        · rw [vals_array]; exact vals_sound hE h hp
        · rw [vals_array]; exact vals_sound hE h hq
      · simp at hop
    · simp at hop
  case makeMap t q =>
    obtain ⟨V, w', G', k1, k2, k3, k4, k5⟩ := makeMap_sound (P := E.P) (t := t) hH hop.symm a.eval
    exact does_make k1 k2 k3 k4 k5
  case slice t x lo hi mx =>
    have hop := hop.symm
    unfold oSlice at hop
    split at hop
    · rename_i x' hx
      obtain ⟨h1, rfl⟩ := okV_some hop
      obtain ⟨V, k1, k2⟩ := sliceA_sound hT h1 (ev_sound hE h hx) (optV_sound hE h lo) (optV_sound hE h hi) (optV_sound hE h mx)
      exact does_read hH k1 k2
    · simp at hop
  case fieldAddr s x f =>
    have hop := hop.symm
    unfold oFieldAddr at hop
    split at hop
    · rename_i x' o hx ho
      obtain ⟨h1, rfl⟩ := okV_some hop
      obtain ⟨b, off, e, k⟩ := addA_sound h1 (ev_sound hE h hx)
      refine does_read hH (V := .pointer (some ⟨b, off + o, none⟩)) ?_ k
      rw [e]; exact fieldOff_sound hT ho w b off
    · simp at hop
  case field t x f =>
    have hop := hop.symm
    unfold oField at hop
    split at hop
    · rename_i cs fs hx hd
      split at hop
      · rename_i fd hf
        obtain ⟨h1, rfl⟩ := okV_some hop
        have kx := ev_sound hE h hx
        obtain ⟨xs, e, kxs⟩ := kx
        obtain ⟨V, k1, k2⟩ := part_sound (P := E.P) hT h1 kxs w
        refine does_read hH (V := V) ?_ k2
        simp [Instr.field, run_desc hT hd, hf, e, asAgg, k1]
      · simp at hop
    · simp at hop
  case indexAddr t x i =>
    have hop := hop.symm
    unfold oIndexAddr at hop
    split at hop
    · rename_i x' k' i' hx hi
      obtain ⟨h1, rfl⟩ := okV_some hop
      have ki : a.eval i = .int k' i' := ev_sound hE h hi
      obtain ⟨V, k1, k2⟩ := indexAddrA_sound (k := k') hT h1 (ev_sound hE h hx)
      rw [← ki] at k1
      exact does_read hH k1 k2
    · simp at hop
  case index t x i =>
    have hop := hop.symm
    unfold oIndex at hop
    split at hop
    · rename_i x' k' i' hx hi
      obtain ⟨h1, rfl⟩ := okV_some hop
      have ki : a.eval i = .int k' i' := ev_sound hE h hi
      obtain ⟨V, k1, k2⟩ := indexA_sound (k := k') hT h1 (ev_sound hE h hx)
      rw [← ki] at k1
      exact does_read hH k1 k2
    · simp at hop
  case lookup t m k ok =>
    have hop := hop.symm
    unfold oLookup at hop
    split at hop
    · rename_i m' k' hm hk
      obtain ⟨h1, rfl⟩ := okV_some hop
      obtain ⟨V, k1, k2⟩ := lookupA_sound hT hH h1 (ev_sound hE h hm) (ev_sound hE h hk)
      exact does_read hH k1 k2
    · simp at hop
  case typeAssert x xt t ok =>
    have hop := hop.symm
    unfold oAssert at hop
    split at hop
    · rename_i u x' d hx hd
      split at hop
      · simp at hop
      · rename_i hne
        obtain ⟨hb, hop⟩ := bc_some hop
        simp at hop; obtain ⟨rfl, rfl⟩ := hop
        have : u = t := Nat.eq_of_beq_eq_true hb
        subst this
        have kx := ev_sound hE h hx
        obtain ⟨X, e, kX⟩ := kx
        refine does_read hH (V := if ok then .tuple #[X, .bool true] else X) ?_ ?_
        · simp only [Instr.typeAssert, Sem.run_bind, run_desc hT hd, Result.andThen_ok, e]
          cases d <;> first
            | (rename_i ms; exact absurd rfl (hne ms))
            | simp
        · cases ok
          · exact kX
          · exact tuple2_rel kX rfl
    · simp at hop
  case extract t i =>
    have hop := hop.symm
    unfold oExtract at hop
    split at hop
    · rename_i vs ht
      obtain ⟨h1, rfl⟩ := okV_some hop
      have kt := ev_sound hE h ht
      obtain ⟨xs, e, kx⟩ := kt
      obtain ⟨V, k1, k2⟩ := kx.get h1
      refine does_read hH (V := V) ?_ k2
      have : xs[i]? = some V := by simpa using k1
      simp [Instr.extract, e, this]
    · simp at hop
  case call c =>
    obtain ⟨b, hb, hop⟩ := hop
    have hop := hop.symm
    unfold oBuiltin at hop
    split at hop
    · simp at hop
    · rename_i as has
      have kas := vals_sound hE h has
      rw [← vals_array] at kas
      obtain ⟨consts, key⟩ : ∃ consts, execOp a.eval { dst, op := .call c, type := ty, pos, after, guard } = builtin b c.argTypes ty consts (c.args.map a.eval) :=
        ⟨_, by simp only [execOp, resolve, hb, pure_bind, invoke]; rfl⟩
      rw [key]
      split at hop
      · -- len
        unfold oLen at hop
        split at hop
        · rename_i t ts x xs ht
          obtain ⟨h1, rfl⟩ := okV_some hop
          obtain ⟨X, Xs, e, k1, k2⟩ := kas
          have a1 : c.argTypes[0]? = some t := by
            have : c.argTypes.toList[0]? = some t := by rw [ht]; rfl
            rwa [Array.getElem?_toList] at this
          have a2 : (c.args.map a.eval)[0]? = some X := by
            have : (c.args.map a.eval).toList[0]? = some X := by rw [e]; rfl
            rwa [Array.getElem?_toList] at this
          obtain ⟨V, q1, q2⟩ := lenA_sound (P := E.P) hT hH h1 k1 c.argTypes (c.args.map a.eval) ty a1 a2
          exact does_read hH q1 q2
        · simp at hop
      · obtain ⟨h1, rfl⟩ := okV_some hop
        obtain ⟨V, q1, q2⟩ := minmax_sound (P := E.P) h1 kas c.argTypes ty
        exact does_read hH (by simpa using q1) q2
      · obtain ⟨h1, rfl⟩ := okV_some hop
        obtain ⟨V, q1, q2⟩ := minmax_sound (P := E.P) h1 kas c.argTypes ty
        exact does_read hH (by simpa using q1) q2
      · unfold oAppend at hop
        split at hop
        · rename_i t1 t2 s x ht
          obtain ⟨S, Ss, e1, k1, X, Xs, e2, k2, e3⟩ := kas
          subst e2; subst e3
          obtain ⟨V, w', G', q1, q2, q3, q4, q5⟩ := appendA_sound (ty := ty) hT hH hop k1 k2
          have ea : c.args.map a.eval = #[S, X] := Array.toList_inj.1 (by rw [e1])
          have et : c.argTypes = #[t1, t2] := Array.toList_inj.1 (by rw [ht])
          rw [← ea, ← et] at q1
          exact does_make q1 q2 q3 q4 q5
        · simp at hop
      · simp at hop
end Go.Pm
namespace Go.Pm
open Go Go.MapKept

variable {G G' : Gh} {w : World}

mutual
theorem Rel.ofPure (hm : ∀ B, G.m B ≤ G'.m B) : ∀ (x : AV) (v : Value), x.pure = true → Rel G w x v → Rel G' w x v
  | .bool _, _, _, k => k
  | .int _ _, _, _, k => k
  | .str _, _, _, k => k
  | .nilp, _, _, k => k
  | .nilmap, _, _, k => k
  | .nilFunc, _, _, k => k
  | .nilIface, _, _, k => k
  | .slice t n cs, _, h, ⟨a, cap, e, hc, p, k, tk⟩ => ⟨a, cap, e, hc, p, k.imp id fun ⟨b, o, ea, k⟩ => ⟨b, o, ea, PubAt.ofPure hm b cs o p k⟩, by
      cases t with
      | own r => simp [AV.pure] at h
      | none => trivial
      | exact => exact tk
      | nil => exact tk⟩
  | .func f [] [], _, _, ⟨x, y, e, k1, k2⟩ => ⟨x, y, e, k1, k2⟩
  | .func f (_ :: _) _, _, h, _ => by simp [AV.pure] at h
  | .func f [] (_ :: _), _, h, _ => by simp [AV.pure] at h
  | .ref _ _, _, h, _ => by simp [AV.pure] at h
  | .eptr _, _, h, _ => by simp [AV.pure] at h
  | .vslice _ _ _, _, h, _ => by simp [AV.pure] at h
  | .map _, _, h, _ => by simp [AV.pure] at h
  | .iface _ _, _, h, _ => by simp [AV.pure] at h
  | .agg _, _, h, _ => by simp [AV.pure] at h
  | .tuple _, _, h, _ => by simp [AV.pure] at h
theorem PubAt.ofPure (hm : ∀ B, G.m B ≤ G'.m B) (b : Nat) : ∀ (cs : List AV) (o : Nat), cs.all AV.pure = true → PubAt G w b o cs → PubAt G' w b o cs
  | [], _, _, _ => trivial
  | c :: cs, o, h, ⟨h1, ⟨x, hx, k⟩, r⟩ => by
    simp only [List.all_cons, Bool.and_eq_true] at h
    exact ⟨Nat.lt_of_lt_of_le h1 (hm b), ⟨x, hx, Rel.ofPure hm c x h.1 k⟩, PubAt.ofPure hm b cs (o + 1) h.2 r⟩
end
def RenOk (ρ : Nat → Option Nat) (G G' : Gh) : Prop := ∀ i j, ρ i = some j → i < G.n → j < G'.n ∧ G'.β j = G.β i ∧ G'.cur j = G.cur i

mutual
theorem Rel.ren {ρ : Nat → Option Nat} (hm : ∀ B, G.m B ≤ G'.m B) (hρ : RenOk ρ G G') : ∀ (x y : AV) (v : Value), x.ren ρ = some y → Rel G w x v → Rel G' w y v
  | .ref r o, y, v, h, ⟨hr, e⟩ => by
    simp only [AV.ren] at h
    split at h
    · rename_i j hj
      simp at h; subst h
      obtain ⟨h1, h2, h3⟩ := hρ r j hj hr
      exact ⟨h1, by rw [h2]; exact e⟩
    · simp at h
  | .vslice r o n, y, v, h, ⟨hr, cap, hc, e⟩ => by
    simp only [AV.ren] at h
    split at h
    · rename_i j hj
      simp at h; subst h
      obtain ⟨h1, h2, h3⟩ := hρ r j hj hr
      exact ⟨h1, cap, hc, by rw [h2]; exact e⟩
    · simp at h
  | .map r, y, v, h, ⟨hr, e⟩ => by
    simp only [AV.ren] at h
    split at h
    · rename_i j hj
      simp at h; subst h
      obtain ⟨h1, h2, h3⟩ := hρ r j hj hr
      exact ⟨h1, by rw [h2]; exact e⟩
    · simp at h
  | .slice t n cs, y, v, h, ⟨a, cap, e, hc, p, k, tk⟩ => by
    have kk : cs = [] ∨ ∃ b o, a = some ⟨b, o, none⟩ ∧ PubAt G' w b o cs := by
      rcases k with k | ⟨b, o, ea, k⟩
      · exact .inl k
      · exact .inr ⟨b, o, ea, PubAt.ofPure hm b cs o p k⟩
    cases t with
    | own r =>
      simp only [AV.ren] at h
      split at h
      · rename_i j hj
        simp at h; subst h
        obtain ⟨hr, hn, he⟩ := tk
        obtain ⟨h1, h2, h3⟩ := hρ r j hj hr
        exact ⟨a, cap, e, hc, p, kk, h1, by rw [h3]; exact hn, by rw [h3]; exact he⟩
      · simp at h
    | none => simp only [AV.ren, Option.some.injEq] at h; subst h; exact ⟨a, cap, e, hc, p, kk, trivial⟩
    | exact => simp only [AV.ren, Option.some.injEq] at h; subst h; exact ⟨a, cap, e, hc, p, kk, tk⟩
    | nil => simp only [AV.ren, Option.some.injEq] at h; subst h; exact ⟨a, cap, e, hc, p, kk, tk⟩
  | .func f a b, y, v, h, ⟨x1, x2, e, k1, k2⟩ => by
    simp only [AV.ren] at h
    split at h
    · rename_i a' b' ha hb
      simp at h; subst h
      exact ⟨x1, x2, e, RelL.ren hm hρ a a' _ ha k1, RelL.ren hm hρ b b' _ hb k2⟩
    · simp at h
  | .iface t a, y, v, h, ⟨x, e, k⟩ => by
    simp only [AV.ren] at h
    split at h
    · rename_i a' ha
      simp at h; subst h
      exact ⟨x, e, Rel.ren hm hρ a a' x ha k⟩
    · simp at h
  | .agg cs, y, v, h, ⟨xs, e, k⟩ => by
    simp only [AV.ren] at h
    split at h
    · rename_i cs' hc
      simp at h; subst h
      exact ⟨xs, e, RelL.ren hm hρ cs cs' _ hc k⟩
    · simp at h
  | .tuple cs, y, v, h, ⟨xs, e, k⟩ => by
    simp only [AV.ren] at h
    split at h
    · rename_i cs' hc
      simp at h; subst h
      exact ⟨xs, e, RelL.ren hm hρ cs cs' _ hc k⟩
    · simp at h
  | .eptr cs, y, v, h, ⟨b, o, e, p, k⟩ => by
    simp only [AV.ren, Option.some.injEq] at h; subst h
    exact ⟨b, o, e, p, PubAt.ofPure hm b cs o p k⟩
  | .bool _, y, v, h, k => by simp only [AV.ren, Option.some.injEq] at h; subst h; exact k
  | .int _ _, y, v, h, k => by simp only [AV.ren, Option.some.injEq] at h; subst h; exact k
  | .str _, y, v, h, k => by simp only [AV.ren, Option.some.injEq] at h; subst h; exact k
  | .nilp, y, v, h, k => by simp only [AV.ren, Option.some.injEq] at h; subst h; exact k
  | .nilmap, y, v, h, k => by simp only [AV.ren, Option.some.injEq] at h; subst h; exact k
  | .nilFunc, y, v, h, k => by simp only [AV.ren, Option.some.injEq] at h; subst h; exact k
  | .nilIface, y, v, h, k => by simp only [AV.ren, Option.some.injEq] at h; subst h; exact k
theorem RelL.ren {ρ : Nat → Option Nat} (hm : ∀ B, G.m B ≤ G'.m B) (hρ : RenOk ρ G G') : ∀ (xs ys : List AV) (vs : List Value), renL ρ xs = some ys → RelL G w xs vs → RelL G' w ys vs
  | [], ys, vs, h, k => by simp [renL] at h; subst h; exact k
  | x :: xs, ys, vs, h, ⟨v, vs', e, k1, k2⟩ => by
    simp only [renL] at h
    split at h
    · rename_i y ys' hy hys
      simp at h; subst h
      exact ⟨v, vs', e, Rel.ren hm hρ x y v hy k1, RelL.ren hm hρ xs ys' vs' hys k2⟩
    · simp at h
end
theorem RelL.of_renE {ρ : Nat → Option Nat} (hm : ∀ B, G.m B ≤ G'.m B) (hρ : RenOk ρ G G') : ∀ (xs ys : List (AV × AV)) (l : List MapEntry), renE ρ xs = some ys → RelE G w xs l → RelE G' w ys l
  | [], ys, l, h, k => by simp [renE] at h; subst h; exact k
  | (a, b) :: xs, ys, l, h, ⟨e, l', he, k1, k2, k3⟩ => by
    simp only [renE] at h
    split at h
    · rename_i a' b' ys' ha hb hys
      simp at h; subst h
      exact ⟨e, l', he, Rel.ren hm hρ a a' _ ha k1, Rel.ren hm hρ b b' _ hb k2, RelL.of_renE hm hρ xs ys' l' hys k3⟩
    · simp at h
theorem renL_length {ρ : Nat → Option Nat} : ∀ {xs ys : List AV}, renL ρ xs = some ys → ys.length = xs.length
  | [], ys, h => by simp [renL] at h; subst h; rfl
  | x :: xs, ys, h => by
    simp only [renL] at h
    split at h
    · rename_i y ys' hy hys
      simp at h; subst h
      simp [renL_length hys]
    · simp at h
theorem BRel.ren {ρ : Nat → Option Nat} (hm : G'.m = G.m) (hρ : RenOk ρ G G') {i j : Nat} {b b' : ABlk} (h : b.ren ρ = some b') (hβ : G'.β j = G.β i) (hc : G'.cur j = G.cur i) (k : BRel G w i b) : BRel G' w j b' ∧ loc G' j b' = loc G i b := by
  have hm' : ∀ B, G.m B ≤ G'.m B := fun B => by rw [hm]; exact Nat.le_refl _
  cases b with
  | cells xs =>
    simp only [ABlk.ren] at h
    split at h
    · rename_i ys hys
      simp at h; subst h
      obtain ⟨k0, c, E, fr, k1, k2, vs, rest, k3, k4⟩ := k
      refine ⟨⟨by rw [hβ, hm]; exact k0, c, E, fr, by rw [hβ]; exact k1, by rw [renL_length hys]; exact k2, vs, rest, k3, RelL.ren hm' hρ xs ys vs hys k4⟩, hβ⟩
    · simp at h
  | owner n sz =>
    simp only [ABlk.ren, Option.some.injEq] at h; subst h
    obtain ⟨off, cap, B, c, E, fr, e, k1, k2, k3⟩ := k
    exact ⟨⟨off, cap, B, c, E, fr, by rw [hc]; exact e, k1, by rw [hm]; exact k2, k3⟩, by simp [loc, hc]⟩
  | map es =>
    simp only [ABlk.ren] at h
    split at h
    · rename_i ys hys
      simp at h; subst h
      obtain ⟨k0, ents, clock, k1, k2⟩ := k
      exact ⟨⟨by rw [hβ, hm]; exact k0, ents, clock, by rw [hβ]; exact k1, RelL.of_renE hm' hρ es ys _ hys k2⟩, hβ⟩
    · simp at h

/-! ### lists of blocks -/
theorem has_iff (L : List Nat) (r : Nat) : has L r = true ↔ r ∈ L := by
  induction L with
  | nil => simp [has]
  | cons x l ih =>
    simp only [has, bc_eq]
    split
    · rename_i h; have := Nat.eq_of_beq_eq_true h; simp [this]
    · rename_i h
      have : x ≠ r := fun e => h (by subst e; simp)
      rw [ih]; simp [Ne.symm this]
theorem idx_some : ∀ {L : List Nat} {r i : Nat}, idx L r = some i → L[i]? = some r
  | [], _, _, h => by simp [idx] at h
  | x :: l, r, i, h => by
    simp only [idx, bc_eq] at h
    split at h
    · rename_i hb; simp at h; subst h; simp [Nat.eq_of_beq_eq_true hb]
    · split at h
      · rename_i j hj; simp at h; subst h; simpa using idx_some hj
      · simp at h
theorem idx_of_get : ∀ {L : List Nat} {i r : Nat}, L.Nodup → L[i]? = some r → idx L r = some i
  | [], _, _, _, h => by simp at h
  | x :: l, 0, r, _, h => by simp at h; subst h; simp [idx, bc_eq]
  | x :: l, i + 1, r, hn, h => by
    simp at h
    have hx : x ≠ r := by
      intro e; subst e
      exact (List.nodup_cons.1 hn).1 (List.mem_of_getElem? h)
    have hb : Nat.beq x r = false := by
      cases hb : Nat.beq x r with
      | false => rfl
      | true => exact absurd (Nat.eq_of_beq_eq_true hb) hx
    simp [idx, bc_eq, hb, idx_of_get (List.nodup_cons.1 hn).2 h]
theorem idx_none {L : List Nat} {r : Nat} (h : idx L r = none) : r ∉ L := by
  intro hm
  obtain ⟨i, hi⟩ := List.mem_iff_getElem?.1 hm
  induction L generalizing i with
  | nil => simp at hm
  | cons x l ih =>
    simp only [idx, bc_eq] at h
    split at h
    · simp at h
    · rename_i hb
      split at h
      · simp at h
      · rename_i hn
        rcases List.mem_cons.1 hm with e | e
        · exact hb (by simp [e])
        · obtain ⟨j, hj⟩ := List.mem_iff_getElem?.1 e
          exact ih hn e j hj
theorem addNew_grows : ∀ (rs L : List Nat), L.Nodup → (addNew L rs).Nodup ∧ ∃ M, addNew L rs = L ++ M
  | [], L, h => ⟨h, [], by simp [addNew]⟩
  | r :: rs, L, h => by
    simp only [addNew]
    cases hb : has L r with
    | true => simpa using addNew_grows rs L h
    | false =>
      have hr : r ∉ L := fun hm => by rw [(has_iff L r).2 hm] at hb; cases hb
      have hn : (L ++ [r]).Nodup := by
        rw [List.nodup_append]
        exact ⟨h, by simp, fun a ha b hb => by simp at hb; subst hb; exact fun e => hr (e ▸ ha)⟩
      obtain ⟨h1, M, h2⟩ := addNew_grows rs (L ++ [r]) hn
      exact ⟨h1, r :: M, by simp only [bc_false]; rw [h2]; simp⟩
theorem close_grows (H : List ABlk) : ∀ (k : Nat) (L : List Nat) (i : Nat), L.Nodup → (close H k L i).Nodup ∧ ∃ M, close H k L i = L ++ M
  | 0, L, _, h => ⟨h, [], by simp [close]⟩
  | k + 1, L, i, h => by
    simp only [close]
    split
    · exact ⟨h, [], by simp⟩
    · split
      · exact ⟨h, [], by simp⟩
      · rename_i b _
        obtain ⟨h1, M, h2⟩ := addNew_grows b.refs L h
        obtain ⟨h3, M', h4⟩ := close_grows H k (addNew L b.refs) (i + 1) h1
        exact ⟨h3, M ++ M', by rw [h4, h2]; simp⟩
theorem upTo_eq (n : Nat) : upTo n = List.range n := by
  induction n with
  | zero => rfl
  | succ n ih => simp [upTo, ih, List.range_succ]
theorem pickB_get {ρ : Nat → Option Nat} {H : List ABlk} : ∀ {L : List Nat} {bs : List ABlk}, pickB ρ H L = some bs → bs.length = L.length ∧ ∀ i b, nth bs i = some b → ∃ r b0, L[i]? = some r ∧ nth H r = some b0 ∧ b0.ren ρ = some b
  | [], bs, h => by simp [pickB] at h; subst h; exact ⟨rfl, fun i b hb => by simp at hb⟩
  | r :: L, bs, h => by
    simp only [pickB] at h
    split at h
    · rename_i b0 hb0
      split at h
      · rename_i b bs' hb hbs
        simp at h; subst h
        obtain ⟨h1, h2⟩ := pickB_get hbs
        refine ⟨by simp [h1], fun i c hc => ?_⟩
        cases i with
        | zero => simp at hc; subst hc; exact ⟨r, b0, rfl, hb0, hb⟩
        | succ i => simp at hc; simpa using h2 i c hc
      · simp at h
    · simp at h
end Go.Pm
