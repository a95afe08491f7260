/-
Composites, new slices, append, maps written: what they make and change.
append, maps written, a text as bytes.
Maps written, a text as bytes; then one operation as a whole.
-/
import Derived.Test.YtpgdfpcihamldaaGreatDoorK04
import Derived.Deep.Upon
namespace Go.Pm
open Go Go.MapKept

variable {P : Program} {T : Ty} {G : Gh} {w : World} {N0 : Nat} {F : Nat → Prop} {H : List ABlk}

theorem RelL.whole {xs : List AV} {c : Array Value} (h : RelL G w xs c.toList) : RelP G w xs c := ⟨c.toList, [], by simp, h⟩
theorem alloc_sound (hT : TyOk P T) (hH : HRel N0 F G w H) {e : TypeId} {z : AV} {H' : List ABlk} (h : oAlloc T H e = some (z, H')) :
    ∃ V w' G', (Instr.alloc e true (.tuple #[])).run P w = .ok V w' ∧ HRel N0 F G' w' H' ∧ Ext G w G' w' ∧ Step N0 F G.m w G'.m w' ∧ Rel G' w' z V := by
  unfold oAlloc at h
  split at h
  · rename_i x hz
    simp at h; obtain ⟨rfl, rfl⟩ := h
    obtain ⟨v, hv, k⟩ := run_zero hT hz w
    obtain ⟨G', k1, k2, k3, k4, _⟩ := hH.newCells (k G w).cells.whole (fr := (0, 0)) (E := e) (by intro j _ _; simp) (w' := { w with heap := w.heap.push (.cells v.cells e) }) rfl rfl rfl rfl
    exact ⟨_, _, G', by simp [Instr.alloc, hv, newVar, newRow], k1, k2, k3, k4⟩
  · simp at h
theorem box_sound (hH : HRel N0 F G w H) {e : TypeId} {x : AV} {X : Value} (hx : Rel G w x X) :
    ∃ V w' G', (Instr.box e X).run P w = .ok V w' ∧ HRel N0 F G' w' (H ++ [.cells x.cells]) ∧ Ext G w G' w' ∧ Step N0 F G.m w G'.m w' ∧ Rel G' w' (.ref H.length 0) V := by
  obtain ⟨G', k1, k2, k3, k4, _⟩ := hH.newCells hx.cells.whole (fr := (0, 0)) (E := e) (by intro j _ _; simp) (w' := { w with heap := w.heap.push (.cells X.cells e) }) rfl rfl rfl rfl
  exact ⟨_, _, G', by simp [Instr.box, newVar, newRow], k1, k2, k3, k4⟩
theorem makeMap_sound (hH : HRel N0 F G w H) {t : TypeId} {z : AV} {H' : List ABlk} {r : Option Operand} (h : oMap H r = some (z, H')) (ρ : Operand → Value) :
    ∃ V w' G', (Instr.makeMap t (r.map ρ)).run P w = .ok V w' ∧ HRel N0 F G' w' H' ∧ Ext G w G' w' ∧ Step N0 F G.m w G'.m w' ∧ Rel G' w' z V := by
  unfold oMap at h
  split at h
  · simp at h; obtain ⟨rfl, rfl⟩ := h
    obtain ⟨G', k1, k2, k3, k4⟩ := hH.newMap (w' := { w with heap := w.heap.push (.map #[] 0) }) rfl rfl rfl rfl
    exact ⟨_, _, G', by simp [Instr.makeMap], k1, k2, k3, k4⟩
  · simp at h

/-! ### composites -/
theorem fold_set (ys : List Value) : ∀ (c : Array Value) (off k : Nat), off + k + ys.length ≤ c.size →
    ((ys.zipIdx k).foldl (fun cs p => cs.setIfInBounds (off + p.2) p.1) c).toList = c.toList.take (off + k) ++ ys ++ c.toList.drop (off + k + ys.length) := by
  induction ys with
  | nil => intro c off k _; simp
  | cons y ys ih =>
    intro c off k h
    simp at h
    rw [List.zipIdx_cons, List.foldl_cons, ih _ _ _ (by simp; omega)]
    simp only [Array.toList_setIfInBounds]
    have ho : off + k < c.toList.length := by simp; omega
    rw [show off + (k + 1) = off + k + 1 by omega, List.take_set, List.drop_set_of_lt (by omega)]
    have e1 : (c.toList.take (off + k + 1)).set (off + k) y = c.toList.take (off + k) ++ [y] := by
      rw [List.take_succ_eq_append_getElem ho, List.set_append_right _ _ (by simp; omega)]
      have hom : min (off + k) c.size = off + k := Nat.min_eq_left (by omega)
      simp [hom]
    rw [e1]
    simp [Nat.add_assoc, Nat.add_comm 1]
theorem fold_setA (ys : Array Value) (c : Array Value) (off : Nat) (h : off + ys.size ≤ c.size) :
    (ys.zipIdx.foldl (fun cs (p : Value × Nat) => cs.setIfInBounds (off + p.2) p.1) c).toList = c.toList.take off ++ ys.toList ++ c.toList.drop (off + ys.size) := by
  rw [← Array.foldl_toList, Array.toList_zipIdx]
  have := fold_set ys.toList c off 0 (by simpa using h)
  simpa using this
def RelPs (G : Gh) (w : World) : List (Nat × AV) → List (Nat × Value) → Prop
  | [], vs => vs = []
  | (i, x) :: l, vs => ∃ v vs', vs = (i, v) :: vs' ∧ Rel G w x v ∧ RelPs G w l vs'
theorem fillA_sound {place : Nat → Option (Nat × Nat)} : ∀ {ps : List (Nat × AV)} {vs : List (Nat × Value)} {cells out : List AV} {c : Array Value}, fillA place cells ps = some out → RelPs G w ps vs → RelL G w cells c.toList →
    ∃ c', Instr.fill place c vs = some c' ∧ RelL G w out c'.toList
  | [], vs, cells, out, c, h, hp, hc => by
    cases hp
    simp [fillA] at h; subst h
    exact ⟨c, rfl, hc⟩
  | (i, x) :: l, vs, cells, out, c, h, ⟨v, vs', e, k1, k2⟩, hc => by
    subst e
    unfold fillA at h
    split at h
    · simp at h
    · rename_i off sz hp
      obtain ⟨hb, h⟩ := bc_some h
      simp only [Bool.and_eq_true] at hb
      have h1 : x.cells.length = sz := Nat.eq_of_beq_eq_true hb.1
      have h2 : off + sz ≤ cells.length := Nat.le_of_ble_eq_true hb.2
      have kx := k1.cells
      have hl := kx.length
      have hl2 := hc.length
      simp at hl hl2
      have hf := fold_setA v.cells c off (by omega)
      have rel : RelL G w (writeAt cells off x.cells) (v.cells.zipIdx.foldl (fun cs (p : Value × Nat) => cs.setIfInBounds (off + p.2) p.1) c).toList := by
        rw [hf, writeAt_eq _ _ _ (by omega), hl]
        exact ((hc.take off).append kx).append (hc.drop _)
      obtain ⟨c', q1, q2⟩ := fillA_sound h k2 rel
      refine ⟨c', ?_, q2⟩
      have hn : ¬ (v.cells.size ≠ sz || decide (off + v.cells.size > c.size)) = true := by simp; omega
      simp only [Instr.fill, hp]
      rw [if_neg hn]
      exact q1
theorem run_mapM_ok {α β : Type} (f : α → Sem β) (g : α → β) (w : World) : ∀ (xs : List α), (∀ x ∈ xs, (f x).run P w = .ok (g x) w) → (xs.mapM f).run P w = .ok (xs.map g) w
  | [], _ => by simp
  | x :: xs, h => by
    simp only [List.mapM_cons, Sem.run_bind, h x (.head _), Result.andThen_ok, run_mapM_ok f g w xs (fun y hy => h y (.tail _ hy)), Sem.run_pure, List.map_cons]
theorem run_mapMA_ok {α β : Type} (f : α → Sem β) (g : α → β) (w : World) (xs : Array α) (h : ∀ x ∈ xs.toList, (f x).run P w = .ok (g x) w) : (xs.mapM f).run P w = .ok (xs.map g) w := by
  rw [Array.mapM_eq_mapM_toList]
  simp only [Sem.run_map, run_mapM_ok f g w xs.toList h, Result.andThen_ok]
  congr 1
  apply Array.ext'; simp
theorem buildA_sound (hT : TyOk P T) {t : TypeId} {ps : List (Nat × AV)} {vs : Array (Nat × Value)} {z : AV} (h : buildA T t ps = some z) (hp : RelPs G w ps vs.toList) :
    ∃ V, (Instr.build t vs).run P w = .ok V w ∧ Rel G w z V := by
  unfold buildA at h
  split at h
  · rename_i z0 fs hz hd
    obtain ⟨hall, h⟩ := bc_some h
    obtain ⟨Z, hZ, kZ⟩ := run_zero hT hz w
    split at h
    · rename_i cs hcs
      simp at h; subst h
      let g : Field → Nat × Nat := fun f => (f.offset, (sizeT T f.type).getD 0)
      have hpl : (fs.mapM fun f => do pure (f.offset, ← sizeOf f.type) : Sem (Array (Nat × Nat))).run P w = .ok (fs.map g) w := by
        refine run_mapMA_ok _ g w fs (fun f hf => ?_)
        have : (sizeT T f.type).isSome = true := List.all_eq_true.1 hall f hf
        cases hs : sizeT T f.type with
        | none => simp [hs] at this
        | some n => simp [run_size hT hs, g, hs]
      have pl : placesA T fs = fun i => (fs.map g)[i]? := by
        funext i
        unfold placesA
        cases hf : fs[i]? with
        | none => simp [hf]
        | some f =>
          have hm : f ∈ fs.toList := by simpa using Array.mem_of_getElem? hf
          have : (sizeT T f.type).isSome = true := List.all_eq_true.1 hall f hm
          cases hs : sizeT T f.type with
          | none => simp [hs] at this
          | some n => simp [hf, g, hs]
      rw [pl] at hcs
      obtain ⟨c', q1, q2⟩ := fillA_sound hcs hp (kZ G w).cells
      refine ⟨.agg c', ?_, c', rfl, q2.freeze⟩
      simp only [Instr.build, Sem.run_bind, hZ, Result.andThen_ok, run_desc hT hd, hpl]
      rw [show (fun x => (fs.map g)[x]?) = ((fs.map g)[·]?) from rfl] at q1
      simp only [q1, Sem.run_pure]
    · simp at h
  · rename_i z0 n e hz hd
    obtain ⟨Z, hZ, kZ⟩ := run_zero hT hz w
    split at h
    · rename_i sz hs
      split at h
      · rename_i cs hcs
        simp at h; subst h
        obtain ⟨c', q1, q2⟩ := fillA_sound hcs hp (kZ G w).cells
        refine ⟨.agg c', ?_, c', rfl, q2.freeze⟩
        simp only [Instr.build, Sem.run_bind, hZ, Result.andThen_ok, run_desc hT hd, run_size hT hs, q1, Sem.run_pure]
      · simp at h
    · simp at h
  · simp at h
theorem rep_rel {z : List AV} {zs : Array Value} (h : RelL G w z zs.toList) : ∀ n, RelL G w (rep n z) (List.replicate n zs.toList).flatten
  | 0 => by simp [rep, RelL]
  | n + 1 => by simp only [rep, List.replicate_succ, List.flatten_cons]; exact h.append (rep_rel h n)
theorem range_zero (zs : Array Value) (n : Nat) (h : 0 < zs.size) : ((Array.range (n * zs.size)).map (fun i => zs[i % zs.size]!)).toList = (List.replicate n zs.toList).flatten := by
  apply List.ext_getElem?
  intro i
  have hl : ((List.replicate n zs.toList).flatten).length = n * zs.size := by simp
  by_cases hi : i < n * zs.size
  · have e1 : ((List.replicate n zs.toList).flatten)[i]? = zs.toList[i % zs.size]? := by
      clear hl
      induction n generalizing i with
      | zero => omega
      | succ n ih =>
        rw [List.replicate_succ, List.flatten_cons]
        by_cases q : i < zs.size
        · rw [List.getElem?_append_left (by simpa using q), Nat.mod_eq_of_lt q]
        · rw [List.getElem?_append_right (by simp; omega)]
          have hlt : i - zs.size < n * zs.size := by rw [Nat.succ_mul] at hi; omega
          have := ih (i - zs.size) hlt
          simp only [Array.length_toList]
          rw [this]
          congr 1
          exact (Nat.mod_eq_sub_mod (by omega)).symm
    rw [e1]
    have hm : i % zs.size < zs.size := Nat.mod_lt _ h
    simp [hi, hm]
  · rw [List.getElem?_eq_none (by simpa using Nat.le_of_not_lt hi), List.getElem?_eq_none (by omega)]
/-- A new row of cells that stay as they are. -/
theorem HRel.newRow (h : HRel N0 F G w H) {xs : List AV} {c : Array Value} {E : TypeId} (hr : RelL G w xs c.toList) {w' : World} (hw : w'.heap = w.heap.push (.cells c E (0, 0)))
    (os : w'.os = w.os) (tape : w'.tape = w.tape) (output : w'.output = w.output) :
    ∃ G', HRel N0 F G' w' H ∧ Ext G w G' w' ∧ Step N0 F G.m w G'.m w' ∧ PubAt G' w' w.heap.size 0 xs := by
  let G' : Gh := ⟨G.n, G.β, G.cur, upd G.m w.heap.size c.size⟩
  have hsz : w'.heap.size = w.heap.size + 1 := by rw [hw]; simp
  have hm : ∀ B, G.m B ≤ upd G.m w.heap.size c.size B := by
    intro B
    by_cases e : B = w.heap.size
    · subst e; simp [h.fresh _ (Nat.le_refl _)]
    · rw [upd_ne _ _ e]; exact Nat.le_refl _
  have ext : Ext G w G' w' := ext_of h (Nat.le_refl _) (fun _ _ => rfl) (fun _ _ => .inl rfl) hm (fun B hB _ => by rw [hw]; exact push_old w _ hB)
  have := h.zero (G' := G') (w' := w') ext rfl (by omega) os tape output (fun B hB => by
      show upd G.m w.heap.size c.size B = 0
      rw [upd_ne _ _ (by omega)]; exact h.fresh B (by omega))
    (fun _ _ => rfl) (fun B hB => ⟨by rw [hw]; exact push_old w _ hB, upd_ne _ _ (by omega)⟩)
  refine ⟨G', this.1, ext, this.2, PubAt.mk (hr.ext ext) ?_ (fun j v hj => ?_)⟩
  · have := hr.length
    simp only [Array.length_toList] at this
    show 0 + xs.length ≤ upd G.m w.heap.size c.size w.heap.size
    simp; omega
  · rw [cell_of_block (by rw [hw]; exact push_new w _)]
    simpa using hj
theorem buildSliceA_sound (hT : TyOk P T) (hH : HRel N0 F G w H) {t : TypeId} {n : Nat} {ps : List (Nat × AV)} {vs : Array (Nat × Value)} {z : AV} (h : buildSliceA T t n ps = some z) (hp : RelPs G w ps vs.toList) :
    ∃ V w' G', (Instr.buildSlice t n vs).run P w = .ok V w' ∧ HRel N0 F G' w' H ∧ Ext G w G' w' ∧ Step N0 F G.m w G'.m w' ∧ Rel G' w' z V := by
  unfold buildSliceA at h
  split at h
  · rename_i e hd
    split at h
    · rename_i sz z0 hs hz
      obtain ⟨hc, h⟩ := bc_some h
      simp only [Bool.and_eq_true, Bool.not_eq_true'] at hc
      obtain ⟨⟨hc1, hc2⟩, hc3⟩ := hc
      have hc1 : z0.cells.length = sz := Nat.eq_of_beq_eq_true hc1
      have hc2 : n * sz ≤ 65536 := Nat.le_of_ble_eq_true hc2
      have hc3 : sz ≠ 0 := Nat.ne_of_beq_eq_false hc3
      split at h
      · rename_i cs hcs
        obtain ⟨hpure, h⟩ := bc_some h
        simp at h; subst h
        obtain ⟨Z, hZ, kZ⟩ := run_zero hT hz w
        have kz := (kZ G w).cells
        have hzl := kz.length
        simp only [Array.length_toList] at hzl
        have kr := rep_rel kz n
        rw [← range_zero Z.cells n (by omega), ← hzl, hc1] at kr
        obtain ⟨c', q1, q2⟩ := fillA_sound hcs hp kr
        obtain ⟨G', k1, k2, k3, k4⟩ := hH.newRow (E := e) q2.freeze (w' := { w with heap := w.heap.push (.cells c' e) }) rfl rfl rfl rfl
        refine ⟨.slice (some ⟨w.heap.size, 0, none⟩) n n, _, G', ?_, k1, k2, k3, _, _, rfl, Nat.le_refl _, hpure, .inr ⟨_, _, rfl, k4⟩, rfl⟩
        have h24 : ¬ (n * sz > 2 ^ 24) := by omega
        have e1 : Z.cells.size = sz := by omega
        simp only [Instr.buildSlice, Sem.run_bind, run_desc hT hd, Result.andThen_ok, run_size hT hs]
        rw [if_neg h24]
        by_cases hn : n * sz = 0
        · have hn0 : n = 0 := by
            rcases Nat.mul_eq_zero.1 hn with k | k
            · exact k
            · exact absurd k hc3
          subst hn0
          simp only [Nat.zero_mul] at q1 ⊢
          have r0 : ∀ f : Nat → Value, Array.map f (Array.range 0) = #[] := fun f => by simp
          rw [r0] at q1
          simp only [if_true, Sem.run_bind, Sem.run_pure, Result.andThen_ok, r0, q1]
          simp [newRow]
        · simp only [hn, if_false, Sem.run_bind, hZ, Result.andThen_ok, Sem.run_pure]
          rw [e1]
          simp only [q1]
          simp [newRow]
      · simp at h
    · simp at h
  · simp at h
end Go.Pm
namespace Go.Pm
open Go Go.MapKept

variable {P : Program} {T : Ty} {G : Gh} {w : World} {N0 : Nat} {F : Nat → Prop} {H : List ABlk}

theorem pure_flat {x : AV} (h : x.pure = true) : x.flat = true := by cases x <;> simp_all [AV.pure, AV.flat]
theorem freeze_flat (x : AV) : x.freeze.flat = x.flat := by
  cases x with
  | slice t n cs => cases t <;> rfl
  | _ => rfl
theorem all_flat {ys : List AV} (h : ys.all AV.pure = true) : ys.all AV.flat = true := by
  simp only [List.all_eq_true] at h ⊢
  exact fun x hx => pure_flat (h x hx)
theorem toCells_rel (s : List UInt8) : RelL G w (toCells s) (byteCells ⟨⟨s⟩⟩) := by
  unfold toCells byteCells
  simp only []
  induction s with
  | nil => rfl
  | cons b s ih => exact ⟨_, _, rfl, rfl, ih⟩
theorem seqT_kind (hT : TyOk P T) {t : TypeId} (h : seqT T t = true) : (∃ e, P.underlying t = some (.slice e)) ∨ P.underlying t = some .string := by
  unfold seqT at h
  split at h
  · rename_i e hd
    obtain ⟨i, hi, hid⟩ := descT_some hd
    have hu := hT.desc _ _ hi; rw [hid] at hu
    exact .inl ⟨e, hu⟩
  · rename_i hd
    obtain ⟨i, hi, hid⟩ := descT_some hd
    have hu := hT.desc _ _ hi; rw [hid] at hu
    exact .inr hu
  · simp at h
theorem Src.mk' {size n : Nat} {tx : TypeId} {x : Value} {news : List Value} (hk : (∃ e', P.underlying tx = some (.slice e')) ∨ P.underlying tx = some .string) (hl : ∀ w' : World, (Builtin.lenOf x).run P w' = .ok n w')
    (hc : (Builtin.firstCells size n x).run P w = .ok news.toArray w) (hd : (Builtin.firstCells size n x).run P w.drew = .ok news.toArray w.drew) (hn : news.length = n * size) (h1 : ∀ u ∈ news, u.oneCell' = true) : Src P size tx x n news w :=
  ⟨hk, hl, hc, hd, hn, h1⟩
theorem moreOf_src (hT : TyOk P T) (hH : HRel N0 F G w H) {t2 : TypeId} {sz k : Nat} {x : AV} {X : Value} {ys : List AV} (h : moreOf H sz x = some (k, ys)) (hx : Rel G w x X) (hs : seqT T t2 = true)
    (hl : ys.length = k * sz) (hsz : 1 ≤ sz) (hp : (ys.map AV.freeze).all AV.pure = true) : ∃ news, Src P sz t2 X k news w ∧ RelL G w ys news := by
  have hkind := seqT_kind hT hs
  have hflat : ∀ {news : List Value}, RelL G w ys news → ∀ u ∈ news, u.oneCell' = true := by
    intro news hr
    refine (hr.freeze).flat_one ?_
    exact all_flat hp
  unfold moreOf at h
  split at h
  · rename_i tk k' cs
    simp at h; obtain ⟨rfl, rfl⟩ := h
    obtain ⟨a, cap, rfl, _, _, hk, _⟩ := hx
    rcases hk with rfl | ⟨b, o, rfl, hk⟩
    · have hk0 : k' = 0 := by
        rcases Nat.mul_eq_zero.1 (show k' * sz = 0 by simpa using hl.symm) with q | q
        · exact q
        · omega
      subst hk0
      cases a with
      | none => exact ⟨[], Src.mk' hkind (fun _ => rfl) (run_firstCells_none w sz 0 0 cap) (run_firstCells_none w.drew sz 0 0 cap) (by simp) (fun _ h => by cases h), rfl⟩
      | some a => exact ⟨[], Src.mk' hkind (fun _ => rfl) (run_firstCells_some w sz 0 a 0 cap [] (by simp) (fun _ _ h => by simp at h)) (run_firstCells_some w.drew sz 0 a 0 cap [] (by simp) (fun _ _ h => by simp at h)) (by simp) (fun _ h => by cases h), rfl⟩
    · obtain ⟨vs, k1, k2⟩ := hk.list
      have hvl : vs.length = k' * sz := by rw [← k1.length]; exact hl
      refine ⟨vs, Src.mk' hkind (fun _ => rfl) (run_firstCells_some w sz k' _ k' cap vs hvl (fun j u hj => by rw [add_plain]; exact k2 j u hj))
        (run_firstCells_some w.drew sz k' _ k' cap vs hvl (fun j u hj => by rw [add_plain]; exact k2 j u hj)) hvl (hflat k1), k1⟩
  · rename_i s
    obtain ⟨hb, h⟩ := bc_some h
    simp at h; obtain ⟨rfl, rfl⟩ := h
    have : sz = 1 := Nat.eq_of_beq_eq_true hb
    subst this
    obtain rfl := hx
    have hbl : (byteCells ⟨⟨s⟩⟩).length = s.length * 1 := by rw [byteCells_length, Nat.mul_one]; rfl
    exact ⟨byteCells ⟨⟨s⟩⟩, Src.mk' hkind (fun _ => rfl) (firstCells_string ⟨⟨s⟩⟩ w) (firstCells_string ⟨⟨s⟩⟩ w.drew) hbl (hflat (toCells_rel s)), toCells_rel s⟩
  · rename_i r off k'
    split at h
    · rename_i xs hb
      obtain ⟨hle, h⟩ := bc_some h
      simp at h; obtain ⟨rfl, rfl⟩ := h
      obtain ⟨_, cap, _, rfl⟩ := hx
      obtain ⟨_, c, E, fr, q1, q2, q3⟩ := hH.blk r _ hb
      obtain ⟨vs, q4, q5⟩ := q3.from off
      have k1 := q4.take (k' * sz)
      have hvl : (vs.take (k' * sz)).length = k' * sz := by rw [← k1.length]; exact hl
      have hcell : ∀ j u, (vs.take (k' * sz))[j]? = some u → w.cell? ((⟨G.β r, off, none⟩ : Addr).add j) = some u := by
        intro j u hj
        rw [add_plain, cell_of_block q1]
        rw [List.getElem?_take] at hj
        split at hj
        · exact q5 j u hj
        · simp at hj
      exact ⟨vs.take (k' * sz), Src.mk' hkind (fun _ => rfl) (run_firstCells_some w sz k' _ k' cap _ hvl hcell) (run_firstCells_some w.drew sz k' _ k' cap _ hvl hcell) hvl (hflat k1), k1⟩
    · simp at h
  · simp at h
theorem grown_ge (w : World) (need old : Nat) (e : TypeId) : need ≤ grownCap w need old e := by
  unfold grownCap
  simp [Question.cut]
theorem drew_heap (w : World) : w.drew.heap = w.heap := rfl
theorem growA_sound (hT : TyOk P T) (hH : HRel N0 F G w H) {e t1 t2 : TypeId} {sz by_ n k : Nat} {z0 : AV} {tok : Tok} {cs ys : List AV} {z : AV} {S X : Value} {H' : List ABlk} {news : List Value}
    (hd : descT T t1 = some (.slice e)) (hsz : sizeT T e = some sz) (hby : bytesT T e = some by_) (hz : zeroT T e = some z0) (hzl : z0.cells.length = sz) (h1 : 1 ≤ sz) (hcl : cs.length = n * sz) (hyl : ys.length = k * sz)
    (hbd : (n + k) * (by_ + 1) ≤ 35184372088832) (hpure : ys.all AV.pure = true) (hS : Rel G w (.slice tok n cs) S) (hsrc : Src P sz t2 X k news w) (hys : RelL G w ys news)
    (h : growA H sz (.slice tok n cs) tok n cs k ys = some (z, H')) (ty : TypeId) :
    ∃ V w' G', (Builtin.append_ #[t1, t2] ty #[S, X]).run P w = .ok V w' ∧ HRel N0 F G' w' H' ∧ Ext G w G' w' ∧ Step N0 F G.m w G'.m w' ∧ Rel G' w' z V := by
  obtain ⟨ti, hti, hid⟩ := descT_some hd
  have ht : P.underlying t1 = some (.slice e) := by have := hT.desc _ _ hti; rw [hid] at this; exact this
  obtain ⟨i, hi, his⟩ := sizeT_some hsz
  obtain ⟨inf, hinf, hs2, hb2, hz2⟩ := hT.info e i hi
  have hbytes : inf.bytes = by_ := by
    unfold bytesT at hby; rw [hi] at hby; simp at hby; omega
  have hsize : inf.size = sz := by omega
  obtain ⟨Z, hZ, hZ2⟩ := hz2 z0 (by unfold zeroT at hz; rw [hi] at hz; exact hz)
  have kZ := (ofVal_rel hZ2 G w).cells
  have hZl : Z.cells.size = sz := by have := kZ.length; simp at this; omega
  rw [← hsize] at hsrc
  have hnl : news.length = k * sz := by rw [← hys.length]; exact hyl
  have hS' := hS
  obtain ⟨a, cap, hSe, hncap, hcp, hck, htok⟩ := hS
  subst hSe
  unfold growA at h
  rw [bc_eq] at h
  split at h
  · -- nothing is appended
    rename_i hk
    have hk : k = 0 := Nat.eq_of_beq_eq_true hk
    subst hk
    simp at h; obtain ⟨rfl, rfl⟩ := h
    have : news = [] := List.eq_nil_of_length_eq_zero (by omega)
    subst this
    exact ⟨_, w, G, run_append_nothing w t1 t2 ty e inf ht hinf a n cap hncap X hsrc, hH, Ext.refl _ _, Step.refl _ _, hS'⟩
  · rename_i hk0
    have hk0 : k ≠ 0 := fun e => hk0 (by rw [e]; rfl)
    -- the cells that are there
    obtain ⟨olds, ho1, ho2⟩ : ∃ olds : List Value, RelL G w cs olds ∧ ∀ j v, olds[j]? = some v → ∃ b o, a = some ⟨b, o, none⟩ ∧ w.cell? ⟨b, o + j, none⟩ = some v := by
      rcases hck with rfl | ⟨b, o, rfl, hk⟩
      · exact ⟨[], rfl, fun _ _ h => by simp at h⟩
      · obtain ⟨vs, k1, k2⟩ := hk.list
        exact ⟨vs, k1, fun j v hj => ⟨b, o, rfl, k2 j v hj⟩⟩
    have hol : olds.length = n * sz := by rw [← ho1.length]; exact hcl
    have hold : (Builtin.firstCells inf.size n (.slice a n cap)).run P w.drew = .ok olds.toArray w.drew := by
      cases a with
      | none =>
        have : olds = [] := by
          cases olds with
          | nil => rfl
          | cons v vs => obtain ⟨b, o, q, _⟩ := ho2 0 v rfl; cases q
        subst this
        have hn0 : n = 0 := by
          rcases Nat.mul_eq_zero.1 (show n * sz = 0 by simpa using hol.symm) with q | q
          · exact q
          · omega
        subst hn0
        exact run_firstCells_none w.drew inf.size 0 0 cap
      | some ad => exact run_firstCells_some w.drew inf.size n ad n cap olds (by rw [hsize]; exact hol) (fun j u hj => by
          obtain ⟨b, o, q, hc⟩ := ho2 j u hj
          simp at q; subst q
          rw [add_plain]; exact hc)
    have hfit : cap < n + k → Builtin.nextslicecap (n + k) cap * inf.bytes ≤ 281474976710656 := by
      intro hg
      have h2 := nextslicecap_le hg
      rw [hbytes]
      have : Builtin.nextslicecap (n + k) cap * by_ ≤ 2 * (n + k) * by_ := Nat.mul_le_mul_right _ h2
      have : 2 * (n + k) * by_ = 2 * ((n + k) * by_) := Nat.mul_assoc _ _ _
      have : (n + k) * by_ ≤ (n + k) * (by_ + 1) := Nat.mul_le_mul_left _ (Nat.le_succ _)
      omega
    have h63 : ((n + k : Nat) : Int) ≤ 9223372036854775807 := by
      have : (n + k) * 1 ≤ (n + k) * (by_ + 1) := Nat.mul_le_mul_left _ (by omega)
      omega
    -- a new row
    have fresh : cap < n + k → ∃ (g : Nat) (c : Array Value), (Builtin.append_ #[t1, t2] ty #[.slice a n cap, X]).run P w = .ok (.slice (some ⟨w.heap.size, 0, none⟩) (n + k) g) (w.drew.alloc (.cells c e)) ∧ n + k ≤ g ∧
        0 + g * sz ≤ c.size ∧ ∃ rest, c.toList = (olds ++ news) ++ rest := by
      intro hg
      have := run_append_grow_src (P := P) w t1 t2 ty e inf Z ht hinf hZ a n cap olds hold X k news hsrc hg h63 (hfit hg)
      refine ⟨_, _, this, grown_ge w (n + k) cap e, ?_, (Builtin.zeroCells Z.cells (grownCap w (n + k) cap e - (n + k))).toList, ?_⟩
      · have := grown_ge w (n + k) cap e
        simp [Builtin.zeroCells, hZl, hol, hnl]
        rw [← Nat.add_mul, ← Nat.add_mul]
        exact Nat.mul_le_mul_right _ (by omega)
      · rw [Array.toList_append]
    have grow : cap < n + k → ∀ (r : Nat), (r < G.n ∧ (∃ b, nth H r = some b) ∧ vlen (G.cur r) < n + k ∧ H' = setNth H r (.owner (n + k) sz) ∨ r = G.n ∧ H' = H ++ [.owner (n + k) sz]) → z = .slice (.own r) (n + k) (cs ++ ys) →
        ∃ V w' G', (Builtin.append_ #[t1, t2] ty #[.slice a n cap, X]).run P w = .ok V w' ∧ HRel N0 F G' w' H' ∧ Ext G w G' w' ∧ Step N0 F G.m w G'.m w' ∧ Rel G' w' z V := by
      intro hg r hr hze
      obtain ⟨g, c, hrun, hgk, hgc, rest, hrest⟩ := fresh hg
      let V : Value := .slice (some ⟨w.heap.size, 0, none⟩) (n + k) g
      let G' : Gh := ⟨max G.n (r + 1), G.β, upd G.cur r V, upd G.m w.heap.size ((n + k) * sz)⟩
      have hw : (w.drew.alloc (.cells c e)).heap = w.heap.push (.cells c e (0, 0)) := rfl
      have hwsz : (w.drew.alloc (.cells c e)).heap.size = w.heap.size + 1 := by rw [hw]; simp
      have hm : ∀ B, G.m B ≤ upd G.m w.heap.size ((n + k) * sz) B := by
        intro B
        by_cases q : B = w.heap.size
        · subst q; rw [hH.fresh _ (Nat.le_refl _)]; exact Nat.zero_le _
        · rw [upd_ne _ _ q]; exact Nat.le_refl _
      have ext : Ext G w G' (w.drew.alloc (.cells c e)) := by
        refine ext_of hH (Nat.le_max_left _ _) (fun _ _ => rfl) (fun r' hr' => ?_) hm (fun B hB _ => by rw [hw]; exact push_old w _ hB)
        by_cases q : r' = r
        · subst q
          right
          rcases hr with ⟨_, _, hv, _⟩ | ⟨q, _⟩
          · show vlen (G.cur r') < vlen (upd G.cur r' V r'); simpa [V, vlen] using hv
          · omega
        · left; exact upd_ne _ _ q
      have hpub : PubAt G' (w.drew.alloc (.cells c e)) w.heap.size 0 (cs ++ ys) := by
        refine PubAt.mk (((ho1.append hys)).ext ext) ?_ (fun j v hj => ?_)
        · show 0 + (cs ++ ys).length ≤ upd G.m w.heap.size ((n + k) * sz) w.heap.size
          simp [hcl, hyl, Nat.add_mul]
        · rw [cell_of_block (by rw [hw]; exact push_new w _)]
          have : (c.toList)[0 + j]? = some v := by
            rw [hrest, Nat.zero_add, List.getElem?_append_left (List.getElem?_eq_some_iff.1 hj).1]; exact hj
          simpa using this
      have hlen' : H'.length = max G.n (r + 1) := by
        rcases hr with ⟨q1, _, _, q2⟩ | ⟨q1, q2⟩
        · rw [q2, setNth_length, ← hH.len]; omega
        · rw [q2]; simp [← hH.len]; omega
      have hn0 : nth H' r = some (.owner (n + k) sz) := by
        rcases hr with ⟨q1, ⟨b, hb⟩, _, q2⟩ | ⟨q1, q2⟩
        · rw [q2]; exact (nth_setNth H r r _ _ (nth_lt hb)).2 (.inr ⟨rfl, rfl⟩)
        · rw [q2, q1, hH.len, nth_eq]; simp
      have := hH.one (G' := G') (H' := H') (r0 := r) (b0 := .owner (n + k) sz) ext hlen'.symm (by omega) rfl rfl rfl
        (fun B hB => by
          show upd G.m w.heap.size ((n + k) * sz) B = 0
          rw [upd_ne _ _ (by omega)]; exact hH.fresh B (by omega))
        hn0
        (fun r' b hne hb => by
          refine ⟨?_, upd_ne _ _ hne⟩
          rcases hr with ⟨q1, ⟨b', hb'⟩, _, q2⟩ | ⟨q1, q2⟩
          · rw [q2] at hb
            rcases (nth_setNth H r r' _ _ (nth_lt hb')).1 hb with ⟨_, k⟩ | ⟨k, _⟩
            · exact k
            · exact absurd k hne
          · rw [q2] at hb
            rcases (nth_append H _ r' b).1 hb with k | ⟨k, _⟩
            · exact k
            · rw [q1, hH.len] at hne; exact absurd k hne)
        ⟨0, g, w.heap.size, c, e, (0, 0), by show upd G.cur r V r = _; simp [V], by rw [hw]; exact push_new w _, by show upd G.m w.heap.size ((n + k) * sz) w.heap.size = _; simp, hgk, hgc, fun j _ _ => by simp⟩
        (.inr (by show w.heap.size ≤ ownBlk (upd G.cur r V r); simp [V, ownBlk]))
        (fun B hB _ => ⟨by rw [hw]; exact push_old w _ hB, upd_ne _ _ (by omega)⟩)
      refine ⟨V, _, G', hrun, this.1, ext, this.2, ?_⟩
      rw [hze]
      refine ⟨_, _, rfl, hgk, ?_, .inr ⟨_, _, rfl, hpub⟩, ?_, ?_, ?_⟩
      · simp [List.all_append, hcp, hpure]
      · show r < max G.n (r + 1); omega
      · show n + k ≤ vlen (upd G.cur r V r); simp [V, vlen]
      · intro _; show V = upd G.cur r V r; simp
    cases tok with
    | none => simp at h
    | exact =>
      simp at h; obtain ⟨rfl, rfl⟩ := h
      simp only [TokRel] at htok
      have hgt : cap < n + k := by clear grow fresh hfit; omega
      exact grow hgt G.n (.inr ⟨rfl, rfl⟩) (by rw [hH.len])
    | nil =>
      simp at h; obtain ⟨rfl, rfl⟩ := h
      simp only [TokRel] at htok
      simp at htok
      have hgt : cap < n + k := by clear grow fresh hfit; omega
      exact grow hgt G.n (.inr ⟨rfl, rfl⟩) (by rw [hH.len])
    | own r =>
      simp only [TokRel] at htok
      obtain ⟨hr, hrn, hrv⟩ := htok
      simp only at h
      split at h
      · rename_i m z' hb
        obtain ⟨hc, h⟩ := bc_some h
        simp only [Bool.and_eq_true] at hc
        have hm : m = n := Nat.eq_of_beq_eq_true hc.1
        have hz' : z' = sz := Nat.eq_of_beq_eq_true hc.2
        subst hm; subst hz'
        simp at h; obtain ⟨rfl, rfl⟩ := h
        obtain ⟨off, cap', B, c, E, fr, hcur, hBc, hmB, hmc, hcc, hfr⟩ := hH.blk r _ hb
        have hV := hrv (by rw [hcur]; rfl)
        rw [hcur] at hV
        simp at hV
        obtain ⟨rfl, rfl⟩ := hV
        by_cases hroom : m + k ≤ cap
        · -- in its place
          clear grow fresh hfit
          have hmul : m * z' + k * z' ≤ cap * z' := by rw [← Nat.add_mul]; exact Nat.mul_le_mul_right _ hroom
          have hrun := run_append_room_src (P := P) w t1 t2 ty e inf ht hinf B off m cap X k news hsrc hroom
            (fun j hj => by
              rw [cell_of_block hBc, hsize]
              simp; omega)
            (fun j hj => by rw [hsize]; exact frozen_of hBc (hfr _ (by omega) (by omega)))
          rw [hsize] at hrun
          obtain ⟨c', q1, q2, q3, q4, q5, q6, q7⟩ := heap_setCells news (off + m * z') w B c E fr hBc (by omega)
          let V : Value := .slice (some ⟨B, off, none⟩) (m + k) cap
          let G' : Gh := ⟨G.n, G.β, upd G.cur r V, upd G.m B (off + (m + k) * z')⟩
          have hBlt : B < w.heap.size := (Array.getElem?_eq_some_iff.1 hBc).1
          have hadd : (m + k) * z' = m * z' + k * z' := Nat.add_mul _ _ _
          have hmm : ∀ B', G.m B' ≤ upd G.m B (off + (m + k) * z') B' := by
            intro B'
            by_cases q : B' = B
            · subst q; simp; omega
            · rw [upd_ne _ _ q]; exact Nat.le_refl _
          have ext : Ext G w G' (w.setCells B (off + m * z') news) := by
            refine ⟨Nat.le_refl _, fun _ _ => rfl, fun r' hr' => ?_, hmm, fun B' j hj => ?_⟩
            · by_cases q : r' = r
              · subst q; right; show vlen (G.cur r') < vlen (upd G.cur r' V r'); rw [hcur]; simp [V, vlen]; omega
              · left; exact upd_ne _ _ q
            · refine World.cell?_setCells_out B news _ w _ (fun e _ => ?_)
              simp only at e; subst e
              left; show j < off + m * z'; omega
          have hpub : PubAt G' (w.setCells B (off + m * z') news) B off (cs ++ ys) := by
            refine PubAt.append ?_ ?_
            · rcases hck with rfl | ⟨b, o, q, hk⟩
              · trivial
              · simp at q; obtain ⟨rfl, rfl⟩ := q; exact hk.ext ext
            · rw [hcl]
              refine PubAt.mk (hys.ext ext) ?_ (fun j v hj => ?_)
              · show off + m * z' + ys.length ≤ upd G.m B (off + (m + k) * z') B
                simp; omega
              · rw [cell_of_block q1]
                have hjl := (List.getElem?_eq_some_iff.1 hj).1
                have hcl2 : c.toList.length = c.size := by simp
                have : c'.toList[off + m * z' + j]? = some v := by
                  rw [q2, List.append_assoc, List.getElem?_append_right (by simp; omega)]
                  have e1 : off + m * z' + j - (c.toList.take (off + m * z')).length = j := by simp; omega
                  rw [e1, List.getElem?_append_left hjl]; exact hj
                simpa using this
          have hc's : c'.size = c.size := by
            rw [← Array.length_toList, q2]; simp; omega
          have := hH.one (G' := G') (H' := setNth H r (.owner (m + k) z')) (r0 := r) (b0 := .owner (m + k) z') ext (by rw [setNth_length]; exact hH.len) (by omega) q5 q6 q7
            (fun B' hB' => by
              show upd G.m B (off + (m + k) * z') B' = 0
              rw [upd_ne _ _ (by omega)]; exact hH.fresh B' (by omega))
            ((nth_setNth H r r _ _ (nth_lt hb)).2 (.inr ⟨rfl, rfl⟩))
            (fun r' b' hne hb' => by
              rcases (nth_setNth H r r' _ _ (nth_lt hb)).1 hb' with ⟨_, k⟩ | ⟨k, _⟩
              · exact ⟨k, upd_ne _ _ hne⟩
              · exact absurd k hne)
            ⟨off, cap, B, c', E, fr, by show upd G.cur r V r = _; simp [V], q1, by show upd G.m B (off + (m + k) * z') B = _; simp, hroom, by omega, fun j h1 h2 => hfr j (by omega) h2⟩
            (.inl ⟨_, hb, by show ownBlk (upd G.cur r V r) = ownBlk (G.cur r); rw [hcur]; simp [V, ownBlk]⟩)
            (fun B' hB' hne => by
              have : B' ≠ B := by have := hne _ hb; simpa [loc, hcur, ownBlk] using this
              exact ⟨q3 B' this, upd_ne _ _ this⟩)
          refine ⟨V, _, G', hrun, this.1, ext, this.2, _, _, rfl, hroom, by simp [List.all_append, hcp, hpure], .inr ⟨_, _, rfl, hpub⟩, hr, ?_, ?_⟩
          · show m + k ≤ vlen (upd G.cur r V r); simp [V, vlen]
          · intro _; show V = upd G.cur r V r; simp
        · have hgt : cap < m + k := by clear grow fresh hfit; omega
          exact grow hgt r (.inl ⟨hr, ⟨_, hb⟩, by rw [hcur]; simp [vlen]; exact Nat.pos_of_ne_zero hk0, rfl⟩) rfl
      · simp at h
theorem appendA_sound (hT : TyOk P T) (hH : HRel N0 F G w H) {t1 t2 ty : TypeId} {s x z : AV} {S X : Value} {H' : List ABlk} (h : appendA T H t1 t2 s x = some (z, H')) (hS : Rel G w s S) (hX : Rel G w x X) :
    ∃ V w' G', (Builtin.append_ #[t1, t2] ty #[S, X]).run P w = .ok V w' ∧ HRel N0 F G' w' H' ∧ Ext G w G' w' ∧ Step N0 F G.m w G'.m w' ∧ Rel G' w' z V := by
  unfold appendA at h
  split at h
  · rename_i e tok n cs hd
    obtain ⟨sz, hsz, h⟩ := ob_some_iff h
    obtain ⟨by_, hby, h⟩ := ob_some_iff h
    obtain ⟨z0, hz, h⟩ := ob_some_iff h
    obtain ⟨⟨k, ys⟩, hmo, h⟩ := ob_some_iff h
    obtain ⟨hc, h⟩ := bc_some h
    simp only [Bool.and_eq_true] at hc
    obtain ⟨⟨⟨⟨⟨⟨c1, c2⟩, c3⟩, c4⟩, c5⟩, c6⟩, c7⟩ := hc
    have c2 : 1 ≤ sz := Nat.le_of_ble_eq_true c2
    have c5 : ys.length = k * sz := Nat.eq_of_beq_eq_true c5
    obtain ⟨news, hsrc, hys⟩ := moreOf_src hT hH hmo hX c1 c5 c2 c7
    exact growA_sound hT hH hd hsz hby hz (Nat.eq_of_beq_eq_true c3) c2 (Nat.eq_of_beq_eq_true c4) (by simpa using c5) (Nat.le_of_ble_eq_true c6) c7 hS hsrc hys.freeze h ty
  · simp at h
end Go.Pm
namespace Go.Pm
open Go Go.MapKept

variable {P : Program} {T : Ty} {G : Gh} {w : World} {N0 : Nat} {F : Nat → Prop} {H : List ABlk}

theorem sameNow_eq {d : TypeDesc} {A B : Value} (h : Instr.sameNow d A B = some true) : A = B := by
  unfold Instr.sameNow at h
  split at h
  · split at h
    · rename_i e; simp at h; subst e; subst h; rfl
    · simp at h
  · simp at h; rename_i a b
    rw [(bytes_beq a b).1 h]
  · simp at h; subst h; rfl
  · simp at h
theorem updateA_sound {d : TypeDesc} {k v : AV} {K V : Value} (hd : KeyDesc d k) (hk : Rel G w k K) (hv : Rel G w v V) : ∀ {es es' : List (AV × AV)} {l : List MapEntry} (i clock : Nat), updateA k v es = some es' → RelE G w es l →
    (Instr.findNow d K l i = some none ∧ RelE G w es' (l ++ [{ key := K, val := V, born := clock }])) ∨
    ∃ j e, Instr.findNow d K l i = some (some (i + j, e.val)) ∧ l[j]? = some e ∧ e.key = K ∧ RelE G w es' (l.modify j fun e => { e with key := K, val := V })
  | [], es', l, i, clock, h, hr => by
    cases hr
    simp [updateA] at h; subst h
    exact .inl ⟨rfl, _, _, rfl, hk, hv, rfl⟩
  | (x, u) :: es, es', l, i, clock, h, ⟨e, l', he, k1, k2, k3⟩ => by
    subst he
    simp only [updateA] at h
    split at h
    · rename_i hs
      simp at h; subst h
      have hn := sameCell_now hs hd hk k1
      exact .inr ⟨0, e, by simp [Instr.findNow, hn], rfl, (sameNow_eq hn).symm, _, _, rfl, hk, hv, k3⟩
    · rename_i hs
      have hn := sameCell_now hs hd hk k1
      split at h
      · rename_i es'' hu
        simp at h; subst h
        rcases updateA_sound hd hk hv (i + 1) clock hu k3 with ⟨q1, q2⟩ | ⟨j, e', q1, q2, q3, q4⟩
        · exact .inl ⟨by simp [Instr.findNow, hn, q1], _, _, rfl, k1, k2, q2⟩
        · refine .inr ⟨j + 1, e', by simp [Instr.findNow, hn, q1]; omega, by simpa using q2, q3, ?_⟩
          simp only [List.modify_succ_cons]
          exact ⟨_, _, rfl, k1, k2, q4⟩
      · simp at h
    · simp at h
theorem mapUpdateA_sound (hT : TyOk P T) (hH : HRel N0 F G w H) {t : TypeId} {m k v : AV} {M K V : Value} {H' : List ABlk} (h : mapUpdateA T H t m k v = some H') (hm : Rel G w m M) (hk : Rel G w k K) (hv : Rel G w v V) :
    ∃ w', (Instr.mapUpdate t M K V).run P w = .ok () w' ∧ HRel N0 F G w' H' ∧ Ext G w G w' ∧ Step N0 F G.m w G.m w' := by
  unfold mapUpdateA at h
  split at h
  · rename_i kt e r hd
    obtain ⟨_, rfl⟩ := hm
    split at h
    · rename_i es hb
      obtain ⟨hko, h⟩ := bc_some h
      obtain ⟨d, hkd, hkk⟩ := keyOk_desc hko
      obtain ⟨i, hi, hid⟩ := descT_some hkd
      have hu := hT.desc _ _ hi
      rw [hid] at hu
      have hik := hkk.isKey hk
      split at h
      · rename_i es' hup
        simp at h; subst h
        obtain ⟨km, ents, clock, q1, q2⟩ := hH.blk r _ hb
        have fin : ∀ (o : Array MapEntry) (cl : Nat), RelE G w es' o.toList → ∀ w', w' = { w with heap := w.heap.setIfInBounds (G.β r) (.map o cl) } →
            HRel N0 F G w' (setNth H r (.map es')) ∧ Ext G w G w' ∧ Step N0 F G.m w G.m w' := by
          intro o cl ho w' hw
          have hs := Go.MapKept.heap_set (o' := .map o cl) q1
          have hwh : w'.heap = w.heap.setIfInBounds (G.β r) (.map o cl) := by rw [hw]
          have hother : ∀ B, B ≠ G.β r → w'.heap[B]? = w.heap[B]? := fun B hB => by rw [hwh]; exact hs.2 B hB
          have ext : Ext G w G w' := by
            refine ⟨Nat.le_refl _, fun _ _ => rfl, fun _ _ => .inl rfl, fun _ => Nat.le_refl _, fun B j hj => ?_⟩
            simp only [World.cell?, hother B (fun e => by subst e; omega)]
          have := hH.one (G' := G) (w' := w') (H' := setNth H r (.map es')) (r0 := r) (b0 := .map es') ext (by rw [setNth_length]; exact hH.len) (by rw [hwh]; simp) (by rw [hw]) (by rw [hw]) (by rw [hw])
            (fun B hB => hH.fresh B (by rw [hwh] at hB; simpa using hB)) ((nth_setNth H r r _ _ (nth_lt hb)).2 (.inr ⟨rfl, rfl⟩))
            (fun r' b' hne hb' => by
              rcases (nth_setNth H r r' _ _ (nth_lt hb)).1 hb' with ⟨_, k⟩ | ⟨k, _⟩
              · exact ⟨k, rfl⟩
              · exact absurd k hne)
            ⟨km, o, cl, by rw [hwh]; exact hs.1, ho.ext ext⟩ (.inl ⟨_, hb, rfl⟩)
            (fun B _ hne => ⟨hother B (hne _ hb), rfl⟩)
          exact ⟨this.1, ext, this.2⟩
        have hv' : Rel G w v.freeze.freezeIn V := hv.freeze.freezeIn
        rcases updateA_sound hkk hk hv' 0 clock hup q2 with ⟨g1, g2⟩ | ⟨j, e', g1, g2, g3, g4⟩
        · refine ⟨_, ?_, fin (ents.push { key := K, val := V, born := clock }) (clock + 1) (by simpa using g2) _ rfl⟩
          simp only [Instr.mapUpdate, Sem.run_bind, run_desc hT hd, Result.andThen_ok, Go.MapKept.run_getObj_map q1, Go.MapKept.run_checkKey hu hik, Go.MapKept.run_findKey hu g1, Go.MapKept.run_setObj_map _ q1]
        · refine ⟨_, ?_, fin (ents.modify j fun e => { e with key := K, val := V }) clock (by simpa using g4) _ rfl⟩
          have hj : ents[0 + j]? = some e' := by simpa using g2
          have hkey : ((ents[0 + j]?).map (·.key)).getD K = K := by rw [hj]; simpa using g3
          simp only [Instr.mapUpdate, Sem.run_bind, run_desc hT hd, Result.andThen_ok, Go.MapKept.run_getObj_map q1, Go.MapKept.run_checkKey hu hik, Go.MapKept.run_findKey hu g1, hkey, Go.MapKept.run_keyThatStays hik, Go.MapKept.run_setObj_map _ q1]
          simp
      · simp at h
    · simp at h
  · simp at h
/-- A text as bytes: a new variable. -/
theorem toBytes_sound (hT : TyOk P T) (hH : HRel N0 F G w H) {s d e : TypeId} {x : List UInt8} (hs : descT T s = some .string) (hd : descT T d = some (.slice e)) (he : descT T e = some (.int .u8)) :
    ∃ V w' G', (convert s d (.string ⟨⟨x⟩⟩)).run P w = .ok V w' ∧ HRel N0 F G' w' (H ++ [.cells (toCells x)]) ∧ Ext G w G' w' ∧ Step N0 F G.m w G'.m w' ∧ Rel G' w' (.vslice H.length 0 x.length) V := by
  have hsz : (⟨⟨x⟩⟩ : ByteArray).size = x.length := rfl
  let q : Question := .appendCap x.length 0 e
  let cap := q.cut (w.tape w.drawn q)
  have hcap : x.length ≤ cap := by simp [cap, q, Question.cut]
  let c : Array Value := ((⟨⟨x⟩⟩ : ByteArray).data.map fun b => Value.int .u8 b.toNat) ++ Array.replicate (cap - x.length) (.int .u8 0)
  have hc : c.toList = byteCells ⟨⟨x⟩⟩ ++ List.replicate (cap - x.length) (Value.int .u8 0) := by simp [c, byteCells]
  have hcs : c.size = cap := by
    rw [← Array.length_toList, hc]
    simp [byteCells]; omega
  let w1 : World := { w with drawn := w.drawn + 1 }
  let w2 : World := { w1 with heap := w1.heap.push (.cells c e) }
  let w3 := w2.freeze { block := w.heap.size, off := cap } 1
  have hw3 : w3.heap = w.heap.push (.cells c e (cap, cap + 1)) := by
    apply Array.ext_getElem?
    intro i
    simp only [w3, World.freeze, w2, w1]
    simp only [Nat.one_ne_zero, if_false, Array.getElem?_modify]
    by_cases hi : w.heap.size = i
    · subst hi; simp
    · simp only [hi, if_false]
      simp [Array.getElem?_push, Ne.symm hi]
  obtain ⟨G', k1, k2, k3, k4, k5, k6⟩ := hH.newCells (xs := toCells x) (c := c) (E := e) (fr := (cap, cap + 1)) ⟨_, _, hc, toCells_rel x⟩
    (by intro j _ hj; simp [toCells] at hj; simp; omega) (w' := w3) hw3 (by simp [w3, World.freeze, w2, w1]) (by simp [w3, World.freeze, w2, w1]) (by simp [w3, World.freeze, w2, w1])
  refine ⟨.slice (some ⟨w.heap.size, 0, none⟩) x.length cap, w3, G', ?_, k1, k2, k3, by rw [k6]; omega, cap, hcap, by rw [k5]⟩
  have hshape : w2.shape? w.heap.size = some (e, cap) := by simp [World.shape?, w2, w1, hcs]
  have key : (markStringish ⟨w.heap.size, 0, none⟩).run P w2 = .ok () w3 := by
    simp [markStringish, hshape, w3]
  simp only [convert, Sem.run_bind, run_desc hT hs, run_desc hT hd, Result.andThen_ok, run_desc hT he, Conv.stringToBytes, hsz, run_choose, Question.forced, Bool.false_eq_true, if_false, newRow, run_newObj, Sem.run_pure]
  refine Eq.trans (congrArg (fun r => Result.andThen r _) key) ?_
  rfl
end Go.Pm
