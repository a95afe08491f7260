/-
A call with the blocks alone that its arguments lead to; the head of a loop's round.
Code of the plain machine is the model's: operations one behind the other, branches, loops, whole functions. (Regions that draw their order: the text ahead of this one's use.)
-/
import Derived.Test.YtpgdfpcihamldaaGreatDoorK06
import Derived.LoopN
import Derived.Defers
namespace Go.Pm
open Go Go.MapKept

variable {E : Env} {G : Gh} {w : World} {N0 : Nat} {F : Nat → Prop} {H : List ABlk}

def EndRel (G : Gh) (w : World) : End → Ending → Prop
  | .ret v, .returned V => Rel G w v V
  | .panic v, .panicked chain => ∃ V, chain = [{ v := V, recovered := false }] ∧ Rel G w v V
  | _, _ => False
def foot (G : Gh) (H : List ABlk) : Nat → Prop := fun B => ∃ r b, nth H r = some b ∧ loc G r b = B
/-- A call of it enters a body of Go. -/
def Enters (P : Program) (f : FuncId) : Prop := ∃ fn, P.funcs[f]? = some fn ∧ fn.body.isSome = true ∧ (fn.name == "runtime.NumGoroutine") = false
/-- What a call comes to, it comes to in the model. -/
def Good (E : Env) (call : CallT) : Prop := ∀ f args H e H1, call f args H = some (e, H1) → Enters E.P f ∧ ∀ G w vs, HRel w.heap.size (foot G H) G w H → GlobOk E G w → RelL G w args vs →
  Calls E.P f vs.toArray w fun en w' => ∃ G', HRel w.heap.size (foot G H) G' w' H1 ∧ Ext G w G' w' ∧ Step w.heap.size (foot G H) G.m w G'.m w' ∧ EndRel G' w' e en

/-- Some blocks, under other numbers. -/
def pickG (G : Gh) (L : List Nat) : Gh := ⟨L.length, fun i => G.β (L.getD i 0), fun i => G.cur (L.getD i 0), G.m⟩
theorem pick_ok {L : List Nat} : RenOk (idx L) G (pickG G L) := by
  intro r i h _
  have := idx_some h
  have hlt := (List.getElem?_eq_some_iff.1 this).1
  have e : L.getD i 0 = r := by simp [List.getD, this]
  exact ⟨hlt, by simp only [pickG, e], by simp only [pickG, e]⟩
theorem pick_HRel (h : HRel N0 F G w H) {L : List Nat} {H0 : List ABlk} (hn : L.Nodup) (hp : pickB (idx L) H L = some H0) :
    HRel w.heap.size (foot (pickG G L) H0) (pickG G L) w H0 ∧ ∀ i b, nth H0 i = some b → ∃ r b0, L[i]? = some r ∧ nth H r = some b0 ∧ loc (pickG G L) i b = loc G r b0 := by
  obtain ⟨hl, hg⟩ := pickB_get hp
  have key : ∀ i b, nth H0 i = some b → ∃ r b0, L[i]? = some r ∧ nth H r = some b0 ∧ loc (pickG G L) i b = loc G r b0 ∧ BRel (pickG G L) w i b := by
    intro i b hb
    obtain ⟨r, b0, h1, h2, h3⟩ := hg i b hb
    have e : L.getD i 0 = r := by simp [List.getD, h1]
    have := BRel.ren (G := G) (G' := pickG G L) (j := i) (i := r) rfl pick_ok h3 (by simp only [pickG, e]) (by simp only [pickG, e]) (h.blk r b0 h2)
    exact ⟨r, b0, h1, h2, this.2, this.1⟩
  refine ⟨⟨hl.symm, Nat.le_refl _, h.fresh, fun r b hb => .inl ⟨r, b, hb, rfl⟩, ?_, fun i b hb => (key i b hb).choose_spec.choose_spec.2.2.2⟩, fun i b hb => ?_⟩
  · intro i i' b b' hb hb' hne
    obtain ⟨r, b0, h1, h2, h3, _⟩ := key i b hb
    obtain ⟨r', b0', h1', h2', h3', _⟩ := key i' b' hb'
    rw [h3, h3']
    refine h.inj r r' b0 b0' h2 h2' (fun e => hne ?_)
    subst e
    have a := idx_of_get hn h1
    have a' := idx_of_get hn h1'
    rw [a] at a'; simpa using a'
  · obtain ⟨r, b0, h1, h2, h3, _⟩ := key i b hb
    exact ⟨r, b0, h1, h2, h3⟩

theorem putBack_get : ∀ {L : List Nat} {bs : List ABlk} {H : List ABlk}, L.Nodup → bs.length = L.length → (∀ r ∈ L, r < H.length) → (putBack H L bs).length = H.length ∧
    ∀ r b, nth (putBack H L bs) r = some b → (∃ i, L[i]? = some r ∧ nth bs i = some b) ∨ (r ∉ L ∧ nth H r = some b)
  | [], bs, H, _, _, _ => ⟨by simp [putBack], fun r b h => .inr ⟨by simp, by simpa [putBack] using h⟩⟩
  | x :: L, [], H, _, hl, _ => by simp at hl
  | x :: L, c :: bs, H, hn, hl, hr => by
    obtain ⟨h1, h2⟩ := List.nodup_cons.1 hn
    obtain ⟨k1, k2⟩ := putBack_get (H := setNth H x c) h2 (by simpa using hl) (fun r h => by rw [setNth_length]; exact hr r (.tail _ h))
    simp only [putBack]
    refine ⟨by rw [k1, setNth_length], fun r b hb => ?_⟩
    rcases k2 r b hb with ⟨i, q1, q2⟩ | ⟨q1, q2⟩
    · exact .inl ⟨i + 1, by simpa using q1, by simpa using q2⟩
    · rcases (nth_setNth H x r c b (hr x (.head _))).1 q2 with ⟨q3, q4⟩ | ⟨q3, q4⟩
      · exact .inr ⟨by simp [q1, q3], q4⟩
      · subst q3; subst q4
        exact .inl ⟨0, rfl, rfl⟩
theorem nth_app {α : Type} {l m : List α} {i : Nat} {x : α} (h : nth (l ++ m) i = some x) : nth l i = some x ∨ (l.length ≤ i ∧ nth m (i - l.length) = some x) := by
  rw [nth_eq] at h
  by_cases hi : i < l.length
  · rw [List.getElem?_append_left hi] at h; exact .inl (by rw [nth_eq]; exact h)
  · rw [List.getElem?_append_right (by omega)] at h; exact .inr ⟨by omega, by rw [nth_eq]; exact h⟩

theorem GlobOk.of (hE : EnvOk E) {G' : Gh} (hm : ∀ B, G.m B ≤ G'.m B) (h : GlobOk E G w) : GlobOk E G' w := fun g cs hg => PubAt.ofPure hm g cs 0 (hE.glob g cs hg) (h g cs hg)

/-- What is handed to the call, and what becomes of what it hands back. -/
theorem callAt_frame (hE : EnvOk E) {call : CallT} {f : FuncId} {args : List AV} {e2 : End} {H2 : List ABlk} (hc : callAt call f args H = some (e2, H2)) (h : HRel N0 F G w H) (hgl : GlobOk E G w)
    {vs : List Value} (ha : RelL G w args vs) :
    ∃ args' H0 e1 H1 Gl, call f args' H0 = some (e1, H1) ∧ HRel w.heap.size (foot Gl H0) Gl w H0 ∧ GlobOk E Gl w ∧ RelL Gl w args' vs ∧
      ∀ en w', (∃ G1, HRel w.heap.size (foot Gl H0) G1 w' H1 ∧ Ext Gl w G1 w' ∧ Step w.heap.size (foot Gl H0) Gl.m w G1.m w' ∧ EndRel G1 w' e1 en) →
        ∃ G', HRel N0 F G' w' H2 ∧ Ext G w G' w' ∧ Step N0 F G.m w G'.m w' ∧ EndRel G' w' e2 en := by
  unfold callAt at hc
  obtain ⟨hnd0, _⟩ := addNew_grows (refsL args) [] List.nodup_nil
  generalize hL : close H (H.length + 1) (addNew [] (refsL args)) 0 = L at hc
  have hnd : L.Nodup := by rw [← hL]; exact (close_grows H _ _ 0 hnd0).1
  obtain ⟨args', ha', hc⟩ := ob_some_iff hc
  obtain ⟨H0, hp, hc⟩ := ob_some_iff hc
  obtain ⟨⟨e1, H1⟩, hcall, hc⟩ := ob_some_iff hc
  unfold callBack at hc
  simp only [] at hc
  obtain ⟨hnu, M0, hM0⟩ := addNew_grows e1.val.refs (upTo L.length) (by rw [upTo_eq]; exact List.nodup_range)
  generalize hL1 : close H1 (H1.length + 1) (addNew (upTo L.length) e1.val.refs) 0 = L1 at hc
  obtain ⟨hnd1, M1, hM1⟩ := close_grows H1 (H1.length + 1) _ 0 hnu
  rw [hL1] at hnd1 hM1
  generalize hρ : backR H.length L L1 = ρ at hc
  obtain ⟨v2, hv2, hc⟩ := ob_some_iff hc
  obtain ⟨bs, hbs, hc⟩ := ob_some_iff hc
  simp only [Option.some.injEq, Prod.mk.injEq] at hc
  obtain ⟨he2, hH2⟩ := hc
  -- plain facts on the lists
  have hlow : ∀ j, j < L.length → L1[j]? = some j := by
    intro j hj
    rw [hM1, hM0, upTo_eq, List.append_assoc, List.getElem?_append_left (by simpa using hj)]
    simp [hj]
  have hlen1 : L.length ≤ L1.length := by rw [hM1, hM0, upTo_eq]; simp
  obtain ⟨hl0, hsrc0⟩ := pick_HRel h hnd hp
  obtain ⟨hH0len, hget0⟩ := pickB_get hp
  obtain ⟨hbslen, hbsget⟩ := pickB_get hbs
  have hvalid : ∀ r ∈ L, r < H.length := by
    intro r hr
    obtain ⟨i, hi⟩ := List.mem_iff_getElem?.1 hr
    have hilt := (List.getElem?_eq_some_iff.1 hi).1
    have : ∃ b, nth H0 i = some b := ⟨H0[i]'(by omega), by rw [nth_eq]; simp [show i < H0.length by omega]⟩
    obtain ⟨b, hb⟩ := this
    obtain ⟨r', b0, q1, q2, _⟩ := hget0 i b hb
    rw [hi] at q1; simp at q1; subst q1
    exact nth_lt q2
  have hargs := RelL.ren (G := G) (G' := pickG G L) (fun _ => Nat.le_refl _) pick_ok args args' vs ha' ha
  have hgl0 : GlobOk E (pickG G L) w := GlobOk.of (G := G) hE (fun _ => Nat.le_refl _) hgl
  refine ⟨args', H0, e1, H1, pickG G L, hcall, hl0, hgl0, hargs, ?_⟩
  rintro en w' ⟨G1, h1, x1, s1, r1⟩
  -- where the blocks lie behind the call
  let sel : {X : Type} → (Nat → X) → (Nat → X) → Nat → X := fun {X} f g r => if r < H.length then (match idx L r with | some i => f i | none => g r) else f (L1.getD (r - H.length + L.length) 0)
  let G2 : Gh := ⟨H.length + (L1.length - L.length), sel G1.β G.β, sel G1.cur G.cur, G1.m⟩
  have sel_in : ∀ {X : Type} (f g : Nat → X) (r i : Nat), r < H.length → idx L r = some i → sel f g r = f i := by
    intro X f g r i hr hi
    simp only [sel, hr, if_true, hi]
  have sel_out : ∀ {X : Type} (f g : Nat → X) (r : Nat), r < H.length → idx L r = none → sel f g r = g r := by
    intro X f g r hr hi
    simp only [sel, hr, if_true, hi]
  have sel_new : ∀ {X : Type} (f g : Nat → X) (j i : Nat), L.length ≤ j → L1[j]? = some i → sel f g (H.length + (j - L.length)) = f i := by
    intro X f g j i hj hi
    have e : H.length + (j - L.length) - H.length + L.length = j := by omega
    have : ¬ (H.length + (j - L.length) < H.length) := by omega
    simp only [sel, this, if_false, e, List.getD, hi, Option.getD_some]
  have hren : RenOk ρ G1 G2 := by
    intro i r hir _
    rw [← hρ] at hir
    unfold backR at hir
    split at hir
    · simp at hir
    · rename_i j hj
      have hj1 := idx_some hj
      have hjlt := (List.getElem?_eq_some_iff.1 hj1).1
      split at hir
      · rename_i r' hr'
        simp at hir; subst hir
        have hjm : j < L.length := nth_lt hr'
        rw [nth_eq] at hr'
        have : i = j := by rw [hlow j hjm] at hj1; simpa using hj1.symm
        subst this
        have hrl := hvalid r' (List.mem_of_getElem? hr')
        have hidx := idx_of_get hnd hr'
        exact ⟨by show r' < H.length + _; omega, sel_in _ _ _ _ hrl hidx, sel_in _ _ _ _ hrl hidx⟩
      · rename_i hr'
        simp at hir; subst hir
        have hjm : L.length ≤ j := by
          rcases Nat.lt_or_ge j L.length with q | q
          · rw [nth_eq] at hr'; simp [q] at hr'
          · exact q
        exact ⟨by show H.length + (j - L.length) < H.length + (L1.length - L.length); omega, sel_new _ _ _ _ hjm hj1, sel_new _ _ _ _ hjm hj1⟩
  have ext : Ext G w G2 w' := by
    refine ⟨by rw [h.len]; exact Nat.le_add_right _ _, fun r hr => ?_, fun r hr => ?_, x1.m, x1.pub⟩
    · rw [h.len] at hr
      cases hi : idx L r with
      | none => exact sel_out _ _ _ hr hi
      | some i =>
        have h2 := idx_some hi
        have hilt := (List.getElem?_eq_some_iff.1 h2).1
        have e : L.getD i 0 = r := by simp [List.getD, h2]
        rw [show G2.β r = G1.β i from sel_in _ _ _ _ hr hi, x1.β i hilt]
        simp only [pickG, e]
    · rw [h.len] at hr
      cases hi : idx L r with
      | none => exact .inl (sel_out _ _ _ hr hi)
      | some i =>
        have h2 := idx_some hi
        have hilt := (List.getElem?_eq_some_iff.1 h2).1
        have e : L.getD i 0 = r := by simp [List.getD, h2]
        have := x1.cur i hilt
        rw [show G2.cur r = G1.cur i from sel_in _ _ _ _ hr hi]
        simpa only [pickG, e] using this
  -- each block: out of the call, or not touched by it
  have hpb := putBack_get (L := L) (bs := bs.take L.length) (H := H) hnd (by simp; omega) hvalid
  have hlen2 : H2.length = H.length + (L1.length - L.length) := by
    rw [← hH2]; simp [hpb.1]; omega
  have char : ∀ r b, nth H2 r = some b → (∃ i b1, nth H1 i = some b1 ∧ b1.ren ρ = some b ∧ G2.β r = G1.β i ∧ G2.cur r = G1.cur i ∧
        ((r < H.length ∧ L[i]? = some r) ∨ (H.length ≤ r ∧ ∃ j, r = H.length + (j - L.length) ∧ L.length ≤ j ∧ L1[j]? = some i))) ∨
      (r < H.length ∧ r ∉ L ∧ nth H r = some b ∧ G2.β r = G.β r ∧ G2.cur r = G.cur r) := by
    intro r b hb
    rw [← hH2] at hb
    rcases nth_app hb with q | ⟨q, q'⟩
    · rcases hpb.2 r b q with ⟨i, q1, q2⟩ | ⟨q1, q2⟩
      · left
        have hilt := (List.getElem?_eq_some_iff.1 q1).1
        have q3 : nth bs i = some b := by
          rw [nth_eq] at q2 ⊢
          rw [List.getElem?_take] at q2
          simpa [hilt] using q2
        obtain ⟨r1, b1, g1, g2, g3⟩ := hbsget i b q3
        rw [hlow i hilt] at g1; simp at g1; subst g1
        have hrl := hvalid r (List.mem_of_getElem? q1)
        have hidx := idx_of_get hnd q1
        exact ⟨i, b1, g2, g3, sel_in _ _ _ _ hrl hidx, sel_in _ _ _ _ hrl hidx, .inl ⟨hrl, q1⟩⟩
      · right
        have hrl := nth_lt q2
        have hidx : idx L r = none := by
          cases hi : idx L r with
          | none => rfl
          | some i => exact absurd (List.mem_of_getElem? (idx_some hi)) q1
        exact ⟨hrl, q1, q2, sel_out _ _ _ hrl hidx, sel_out _ _ _ hrl hidx⟩
    · left
      rw [hpb.1] at q q'
      have q3 : nth bs (L.length + (r - H.length)) = some b := by
        rw [nth_eq] at q' ⊢
        simpa using q'
      obtain ⟨i, b1, g1, g2, g3⟩ := hbsget _ b q3
      have e : r = H.length + (L.length + (r - H.length) - L.length) := by omega
      refine ⟨i, b1, g2, g3, ?_, ?_, .inr ⟨q, _, e, Nat.le_add_right _ _, g1⟩⟩
      · have := sel_new G1.β G.β _ i (Nat.le_add_right _ _) g1
        rw [← e] at this; exact this
      · have := sel_new G1.cur G.cur _ i (Nat.le_add_right _ _) g1
        rw [← e] at this; exact this
  have key : ∀ r b, nth H2 r = some b → (∃ i b1, nth H1 i = some b1 ∧ BRel G2 w' r b ∧ loc G2 r b = loc G1 i b1 ∧
        ((r < H.length ∧ L[i]? = some r) ∨ (H.length ≤ r ∧ ∃ j, r = H.length + (j - L.length) ∧ L.length ≤ j ∧ L1[j]? = some i))) ∨
      (r < H.length ∧ r ∉ L ∧ nth H r = some b ∧ loc G2 r b = loc G r b ∧ G2.cur r = G.cur r) := by
    intro r b hb
    rcases char r b hb with ⟨i, b1, q1, q2, q3, q4, q5⟩ | ⟨q1, q2, q3, q4, q5⟩
    · have := BRel.ren (G := G1) (G' := G2) (i := i) (j := r) rfl hren q2 q3 q4 (h1.blk i b1 q1)
      exact .inl ⟨i, b1, q1, this.1, this.2, q5⟩
    · exact .inr ⟨q1, q2, q3, by cases b <;> simp [loc, q4, q5], q5⟩
  -- a block out of the call lies apart from one that it did not touch
  have inFoot : ∀ {B : Nat}, foot (pickG G L) H0 B → ∃ r ∈ L, ∃ b, nth H r = some b ∧ loc G r b = B := by
    rintro B ⟨i, b, q1, q2⟩
    obtain ⟨r, b0, g1, g2, g3⟩ := hsrc0 i b q1
    exact ⟨r, List.mem_of_getElem? g1, b0, g2, by rw [← g3]; exact q2⟩
  have outFoot : ∀ {r b}, r ∉ L → nth H r = some b → ¬ foot (pickG G L) H0 (loc G r b) := by
    intro r b hr hb hf
    obtain ⟨r', hr', b', q1, q2⟩ := inFoot hf
    exact h.inj r' r b' b q1 hb (fun e => hr (e ▸ hr')) q2
  have apart : ∀ {r r' i b b' b1}, nth H1 i = some b1 → loc G2 r b = loc G1 i b1 → r' ∉ L → nth H r' = some b' → loc G2 r b ≠ loc G r' b' := by
    intro r r' i b b' b1 q1 q2 hr' hb' e
    rcases h1.foot i b1 q1 with q | q
    · exact outFoot hr' hb' (by rw [← e, q2]; exact q)
    · have := (h.blk r' b' hb').loc_lt
      omega
  have hHRel : HRel N0 F G2 w' H2 := by
    refine ⟨hlen2.symm, Nat.le_trans h.base s1.size, h1.fresh, ?_, ?_, ?_⟩
    · intro r b hb
      rcases key r b hb with ⟨i, b1, q1, _, q3, _⟩ | ⟨_, _, q3, q4, _⟩
      · rw [q3]
        rcases h1.foot i b1 q1 with q | q
        · obtain ⟨r', _, b', g1, g2⟩ := inFoot q
          rw [← g2]; exact h.foot r' b' g1
        · exact .inr (Nat.le_trans h.base q)
      · rw [q4]; exact h.foot r b q3
    · intro r r' b b' hb hb' hne
      rcases key r b hb with ⟨i, b1, q1, _, q3, q5⟩ | ⟨p1, p2, p3, p4, _⟩ <;> rcases key r' b' hb' with ⟨i', b1', q1', _, q3', q5'⟩ | ⟨p1', p2', p3', p4', _⟩
      · rw [q3, q3']
        refine h1.inj i i' b1 b1' q1 q1' (fun e => hne ?_)
        subst e
        rcases q5 with ⟨_, g⟩ | ⟨g0, j, g1, g2, g3⟩ <;> rcases q5' with ⟨_, g'⟩ | ⟨g0', j', g1', g2', g3'⟩
        · rw [g] at g'; simpa using g'
        · have hi := (List.getElem?_eq_some_iff.1 g).1
          have a1 := idx_of_get hnd1 (hlow i hi)
          have a2 := idx_of_get hnd1 g3'
          rw [a1] at a2; simp at a2; omega
        · have hi := (List.getElem?_eq_some_iff.1 g').1
          have a1 := idx_of_get hnd1 (hlow i hi)
          have a2 := idx_of_get hnd1 g3
          rw [a1] at a2; simp at a2; omega
        · have a1 := idx_of_get hnd1 g3
          have a2 := idx_of_get hnd1 g3'
          rw [a1] at a2; simp at a2; subst a2; omega
      · rw [p4']; exact apart q1 q3 p2' p3'
      · rw [p4]; exact Ne.symm (apart q1' q3' p2 p3)
      · rw [p4, p4']; exact h.inj r r' b b' p3 p3' hne
    · intro r b hb
      rcases key r b hb with ⟨i, b1, _, q2, _⟩ | ⟨p1, p2, p3, p4, p5⟩
      · exact q2
      · have hbr := h.blk r b p3
        have hsame := s1.same (loc G r b) hbr.loc_lt (outFoot p2 p3)
        exact hbr.ext ext (by rw [h.len]; exact p1) p5 hsame.1 hsame.2
  refine ⟨G2, hHRel, ext, ⟨s1.size, s1.os, s1.tape, s1.output, fun B hB hF => ?_⟩, ?_⟩
  · refine s1.same B (Nat.lt_of_lt_of_le hB h.base) (fun hf => ?_)
    obtain ⟨r, _, b, q1, q2⟩ := inFoot hf
    rcases h.foot r b q1 with q | q
    · exact hF (q2 ▸ q)
    · omega
  · subst he2
    cases e1 with
    | ret v =>
      cases en with
      | returned V => exact Rel.ren (G := G1) (G' := G2) (fun _ => Nat.le_refl _) hren v v2 V hv2 r1
      | _ => exact r1.elim
    | panic v =>
      cases en with
      | panicked chain =>
        obtain ⟨V, q1, q2⟩ := r1
        exact ⟨V, q1, Rel.ren (G := G1) (G' := G2) (fun _ => Nat.le_refl _) hren v v2 V hv2 q2⟩
      | _ => exact r1.elim


theorem callAt_sound (hE : EnvOk E) {call : CallT} (hg : Good E call) {f : FuncId} {args : List AV} {e2 : End} {H2 : List ABlk} (hc : callAt call f args H = some (e2, H2)) (h : HRel N0 F G w H) (hgl : GlobOk E G w)
    {vs : List Value} (ha : RelL G w args vs) :
    Calls E.P f vs.toArray w fun en w' => ∃ G', HRel N0 F G' w' H2 ∧ Ext G w G' w' ∧ Step N0 F G.m w G'.m w' ∧ EndRel G' w' e2 en := by
  obtain ⟨args', H0, e1, H1, Gl, h1, h2, h3, h4, h5⟩ := callAt_frame hE hc h hgl ha
  exact ((hg f args' H0 e1 H1 h1).2 Gl w vs h2 h3 h4).mono h5

theorem callAt_enters {call : CallT} (hg : Good E call) {f : FuncId} {args : List AV} {r : End × List ABlk} (hc : callAt call f args H = some r) : Enters E.P f := by
  unfold callAt at hc
  obtain ⟨args', _, hc⟩ := ob_some_iff hc
  obtain ⟨H0, _, hc⟩ := ob_some_iff hc
  obtain ⟨⟨e1, H1⟩, hcall, hc⟩ := ob_some_iff hc
  exact (hg f args' H0 e1 H1 hcall).1

/-! ### the head of a round -/
theorem renT_get {ρ : Nat → Option Nat} : ∀ {T T' : List (Nat × AV)}, renT ρ T = some T' → ∀ t v, Pm.get T' t = some v → ∃ u, Pm.get T t = some u ∧ u.ren ρ = some v
  | [], T', h, t, v, hg => by simp [renT] at h; subst h; simp at hg
  | (k, x) :: T, T', h, t, v, hg => by
    simp only [renT] at h
    split at h
    · rename_i y T'' hy hT
      simp at h; subst h
      rw [get_cons] at hg
      rw [get_cons]
      cases hb : Nat.beq k t with
      | true => simp [hb] at hg; subst hg; exact ⟨x, rfl, hy⟩
      | false => simp [hb] at hg; simpa using renT_get hT t v hg
    · simp at h
theorem get_take : ∀ (T : List (Nat × AV)) (n t : Nat) (v : AV), Pm.get (T.take n) t = some v → Pm.get T t = some v
  | [], n, t, v, h => by simp at h
  | (k, x) :: T, 0, t, v, h => by simp at h
  | (k, x) :: T, n + 1, t, v, h => by
    simp only [List.take_succ_cons, get_cons] at h ⊢
    cases hb : Nat.beq k t with
    | true => simpa [hb] using h
    | false => simp [hb] at h; simpa using get_take T n t v h
theorem DRel.ren {ρ : Nat → Option Nat} {G' : Gh} (hm : ∀ B, G.m B ≤ G'.m B) (hρ : RenOk ρ G G') : ∀ {D D' : List (FuncId × List AV)} {ds : List Deferred}, renD ρ D = some D' → DRel G w D ds → DRel G' w D' ds
  | [], D', ds, h, k => by simp [renD] at h; subst h; exact k
  | (f, as) :: D, D', ds, h, ⟨d, ds', cap, e, k1, k2, k3⟩ => by
    simp only [renD] at h
    split at h
    · rename_i as' D'' ha hD
      simp at h; subst h
      exact ⟨d, ds', cap, e, k1, RelL.ren hm hρ as as' _ ha k2, DRel.ren hm hρ hD k3⟩
    · simp at h
theorem TRel.trimmed {T : Tm} {tmps : Array Value} (h : TRel G w T tmps) (n : Nat) : TRel G w { T with loc := T.loc.take n, reg := [] } tmps := by
  intro t v ht
  refine h t v ?_
  unfold Tm.get at ht ⊢
  cases hb : bit T.mask t with
  | true => simp only [hb] at ht ⊢; exact get_take _ _ _ _ ht
  | false => simp only [hb] at ht; simp at ht
/-- What of the first blocks is kept. -/
structure Keep (n0 : Nat) (G : Gh) (w : World) (G' : Gh) (w' : World) : Prop where
  n : n0 ≤ G'.n
  β : ∀ r, r < n0 → G'.β r = G.β r
  cur : ∀ r, r < n0 → G'.cur r = G.cur r ∨ vlen (G.cur r) < vlen (G'.cur r)
  m : ∀ B, G.m B ≤ G'.m B
  pub : ∀ B j, j < G.m B → w'.cell? ⟨B, j, none⟩ = w.cell? ⟨B, j, none⟩
theorem Keep.refl {n0 : Nat} (h : n0 ≤ G.n) : Keep n0 G w G w := ⟨h, fun _ _ => rfl, fun _ _ => .inl rfl, fun _ => Nat.le_refl _, fun _ _ _ => rfl⟩
theorem Ext.keep {n0 : Nat} {G' : Gh} {w' : World} (h : Ext G w G' w') (hn : n0 ≤ G.n) : Keep n0 G w G' w' :=
  ⟨Nat.le_trans hn h.n, fun r hr => h.β r (by omega), fun r hr => h.cur r (by omega), h.m, h.pub⟩
theorem Keep.trans {n0 : Nat} {G1 G2 : Gh} {w1 w2 : World} (h : Keep n0 G w G1 w1) (k : Keep n0 G1 w1 G2 w2) : Keep n0 G w G2 w2 := by
  refine ⟨k.n, fun r hr => (k.β r hr).trans (h.β r hr), fun r hr => ?_, fun B => Nat.le_trans (h.m B) (k.m B), fun B j hj => ?_⟩
  · rcases h.cur r hr with e | e <;> rcases k.cur r hr with f | f
    · exact .inl (f.trans e)
    · exact .inr (e ▸ f)
    · exact .inr (by rw [f]; exact e)
    · exact .inr (Nat.lt_trans e f)
  · rw [k.pub B j (Nat.lt_of_lt_of_le hj (h.m B)), h.pub B j hj]
theorem Keep.mono {n0 n1 : Nat} {G' : Gh} {w' : World} (h : Keep n1 G w G' w') (hn : n0 ≤ n1) : Keep n0 G w G' w' :=
  ⟨Nat.le_trans hn h.n, fun r hr => h.β r (by omega), fun r hr => h.cur r (by omega), h.m, h.pub⟩
theorem Keep.ext {G' : Gh} {w' : World} (h : Keep G.n G w G' w') : Ext G w G' w' := ⟨h.n, h.β, h.cur, h.m, h.pub⟩
theorem trim_sound (hE : EnvOk E) {st st' : St} {a : Act} (h : StRel E N0 F G w st a) {n0 h0 : Nat} (ht : trim n0 h0 st = some st') : ∃ G', StRel E N0 F G' w st' a ∧ Keep h0 G w G' w ∧ G'.m = G.m := by
  unfold trim at ht
  simp only [bc_eq] at ht
  split at ht
  · rename_i hb
    simp at ht; subst ht
    exact ⟨G, ⟨h.heap, h.tm.trimmed n0, h.n, h.defers, h.glob⟩, Keep.refl (by rw [h.heap.len, Nat.eq_of_beq_eq_true hb]; exact Nat.le_refl _), rfl⟩
  · generalize hL : close st.heap _ _ 0 = L at ht
    obtain ⟨hnu, M0, hM0⟩ := addNew_grows (refsT (st.tm.loc.take n0) ++ refsD st.defers) (upTo h0) (by rw [upTo_eq]; exact List.nodup_range)
    obtain ⟨hnd, M1, hM1⟩ := close_grows st.heap (st.heap.length + 1) _ 0 hnu
    rw [hL] at hnd hM1
    have hlow : ∀ j, j < h0 → L.getD j 0 = j := by
      intro j hj
      rw [hM1, hM0, upTo_eq, List.append_assoc, List.getD, List.getElem?_append_left (by simpa using hj)]
      simp [hj]
    have hlen1 : h0 ≤ L.length := by rw [hM1, hM0, upTo_eq]; simp
    split at ht
    · rename_i T' D' H' hT hD hH
      simp at ht; subst ht
      obtain ⟨hl, hg⟩ := pickB_get hH
      have key : ∀ i b, nth H' i = some b → ∃ r b0, L[i]? = some r ∧ nth st.heap r = some b0 ∧ loc (pickG G L) i b = loc G r b0 ∧ BRel (pickG G L) w i b := by
        intro i b hb
        obtain ⟨r, b0, h1, h2, h3⟩ := hg i b hb
        have e : L.getD i 0 = r := by simp [List.getD, h1]
        have := BRel.ren (G := G) (G' := pickG G L) (j := i) (i := r) rfl pick_ok h3 (by simp only [pickG, e]) (by simp only [pickG, e]) (h.heap.blk r b0 h2)
        exact ⟨r, b0, h1, h2, this.2, this.1⟩
      refine ⟨pickG G L, ⟨⟨hl.symm, h.heap.base, h.heap.fresh, ?_, ?_, fun i b hb => (key i b hb).choose_spec.choose_spec.2.2.2⟩, ?_, h.n, DRel.ren (G := G) (G' := pickG G L) (fun _ => Nat.le_refl _) pick_ok hD h.defers, GlobOk.of (G := G) hE (fun _ => Nat.le_refl _) h.glob⟩,
        ⟨hlen1, fun r hr => by simp only [pickG, hlow r hr], fun r hr => .inl (by simp only [pickG, hlow r hr]), fun _ => Nat.le_refl _, fun _ _ _ => rfl⟩, rfl⟩
      · intro i b hb
        obtain ⟨r, b0, h1, h2, h3, _⟩ := key i b hb
        rw [h3]; exact h.heap.foot r b0 h2
      · intro i i' b b' hb hb' hne
        obtain ⟨r, b0, h1, h2, h3, _⟩ := key i b hb
        obtain ⟨r', b0', h1', h2', h3', _⟩ := key i' b' hb'
        rw [h3, h3']
        refine h.heap.inj r r' b0 b0' h2 h2' (fun e => hne ?_)
        subst e
        have a := idx_of_get hnd h1
        have a' := idx_of_get hnd h1'
        rw [a] at a'; simpa using a'
      · intro t v hv
        have : ∃ u, st.tm.get t = some u ∧ u.ren (idx L) = some v := by
          unfold Tm.get at hv ⊢
          cases hb : bit st.tm.mask t with
          | true =>
            simp only [hb] at hv ⊢
            obtain ⟨u, q1, q2⟩ := renT_get hT t v hv
            exact ⟨u, get_take _ _ _ _ q1, q2⟩
          | false => simp only [hb] at hv; simp at hv
        obtain ⟨u, q1, q2⟩ := this
        obtain ⟨g1, g2⟩ := h.tm t u q1
        exact ⟨g1, Rel.ren (G := G) (G' := pickG G L) (fun _ => Nat.le_refl _) pick_ok u v _ q2 g2⟩
    · simp at ht
end Go.Pm
namespace Go.Pm
open Go Go.MapKept

variable {E : Env} {G : Gh} {w : World} {N0 : Nat} {F : Nat → Prop}

theorem wantedA_sound {ops : Array Oper} {T : Tm} {tmps : Array Value} (h : TRel G w T tmps) {o : Oper} {b : Bool} (hb : wantedA ops T o = some b) : Region.wanted o (yielded ops tmps) = b := by
  unfold wantedA at hb
  unfold Region.wanted
  cases hg : o.guard with
  | none => rw [hg] at hb; simp at hb; simp [hb]
  | some g =>
    obtain ⟨j, want⟩ := g
    rw [hg] at hb
    simp only at hb
    unfold wantedG at hb
    unfold yielded
    rw [nth_eq] at hb
    have hj : ops.toList[j]? = ops[j]? := by simp
    rw [hj] at hb
    simp only
    split at hb
    · rename_i hn
      simp at hb; simp [hn, ← hb]
    · rename_i p hp
      split at hb
      · rename_i hd
        simp at hb; simp [hp, hd, ← hb]
      · rename_i d hd
        split at hb
        · rename_i b' hv
          obtain ⟨h1, h2⟩ := h d _ hv
          simp at hb
          have : tmps[d]? = some (.bool b') := by
            have h2 : tmps.getD d undef = .bool b' := h2
            simp [Array.getD, h1] at h2
            simp [h1, h2]
          simp [hp, hd, this, ← hb]
        · rename_i vs hv
          obtain ⟨h1, xs, h2, _⟩ := h d _ hv
          simp at hb
          have : tmps[d]? = some (.tuple xs) := by
            simp [Array.getD, h1] at h2
            simp [h1, h2]
          simp [hp, hd, this, ← hb]
        · simp at hb
theorem thenA_some {r : StR} {k : St → StR} {ex : Ex} {st' : St} (h : thenA r k = some (ex, st')) : ∃ e1 st1, r = some (e1, st1) ∧ ((e1 = .normal ∧ k st1 = some (ex, st')) ∨ (e1 ≠ .normal ∧ ex = e1 ∧ st' = st1)) := by
  cases r with
  | none => simp [thenA] at h
  | some p =>
    obtain ⟨e1, st1⟩ := p
    refine ⟨e1, st1, rfl, ?_⟩
    have h : thenP k (e1, st1) = some (ex, st') := h
    cases e1 with
    | normal => exact .inl ⟨rfl, h⟩
    | _ => (have h : some (_, st1) = some (ex, st') := h
            simp at h
            exact .inr ⟨by simp, h.1.symm, h.2.symm⟩)
theorem sDone_some {st st' : St} {dst : Option Tmp} {r : OpR} {ex : Ex} (h : sDone st dst r = some (ex, st')) : ex = .normal ∧ ∃ v H, r = some (v, H) ∧ st.put dst v H = some st' := by
  obtain ⟨⟨v, H⟩, h1, h2⟩ := ob_some_iff h
  obtain ⟨st1, h3, h4⟩ := ob_some_iff h2
  simp at h4
  exact ⟨h4.1.symm, v, H, h1, by rw [h3, h4.2]⟩
/-- A value operation: what it is in the run. -/
theorem does_upon {o : Oper} {st st' : St} {a : Act} (h : StRel E N0 F G w st a) {v : AV} {H' : List ABlk} (hd : Does E N0 F G w v H' (execOp a.eval o)) (hp : st.put o.dst v H' = some st')
    {K : Act → World → Prop} {Q : Exit → Act → World → Prop} (hK : ∀ G' w' a', StRel E N0 F G' w' st' a' → Step N0 F G.m w G'.m w' → Ext G w G' w' → K a' w') : o.wp E.P a w K Q := by
  obtain ⟨nx, w', G', V, h1, h2, h3, h4, h5, h6⟩ := hd
  unfold Oper.wp
  rw [h1]
  rcases h2 with rfl | ⟨rfl, rfl⟩
  · exact hK G' w' _ (h.put h4 h3 h6 hp) h5 h4
  · exact hK G' w' _ (h.put h4 h3 h6 hp) h5 h4
theorem stepA_sound (hE : EnvOk E) {call : CallT} (hg : Good E call) {ops : Array Oper} {o : Oper} {i : Nat} (ho : ops[i]? = some o) {st st' : St} {a : Act} {ex : Ex} (h : StRel E N0 F G w st a) (hs : stepA E call ops o st = some (ex, st'))
    {K : Act → World → Prop} {Q : Exit → Act → World → Prop} (hK : ex = .normal → ∀ G' w' a', StRel E N0 F G' w' st' a' → Step N0 F G.m w G'.m w' → Ext G w G' w' → K a' w')
    (hQ : ∀ v, ex = .panic v → ∀ G' w' a' V, StRel E N0 F G' w' st' a' → Step N0 F G.m w G'.m w' → Ext G w G' w' → Rel G' w' v V → Q (.panic [{ v := V, recovered := false }]) a' w') : wpOp E.P ops Q i K a w := by
  obtain ⟨b, hb, hs⟩ := ob_some_iff hs
  have hw := wantedA_sound h.tm hb
  unfold wpOp
  rw [ho]
  simp only [hw]
  cases b with
  | false =>
    obtain ⟨st1, h1, h2⟩ := ob_some_iff (show ob (st.put o.dst undefA st.heap) (fun st => some (Ex.normal, st)) = some (ex, st') from hs)
    simp at h2
    obtain ⟨rfl, rfl⟩ := h2
    simp only [Bool.false_eq_true, if_false]
    exact hK rfl G w _ (h.put (Ext.refl _ _) h.heap undef_rel h1) (Step.refl _ _) (Ext.refl _ _)
  | true =>
    simp only [if_true]
    left
    have hs : stepW E call o.dst o.op st = some (ex, st') := hs
    obtain ⟨dst, op, ty, pos, after, guard⟩ := o
    simp only at hs
    have dn : ∀ {r : OpR}, sDone st dst r = some (ex, st') → (∀ v H', r = some (v, H') → Does E N0 F G w v H' (execOp a.eval ⟨dst, op, ty, pos, after, guard⟩)) → Oper.wp E.P ⟨dst, op, ty, pos, after, guard⟩ a w K Q := by
      intro r hr hd
      obtain ⟨rfl, v, H, h1, h2⟩ := sDone_some hr
      exact does_upon h (hd v H h1) h2 (hK rfl)
    cases op with
    | move x => exact dn hs fun v H' hr => done_sound hE h hr (op := .move x) rfl dst ty pos after guard
    | assign x => exact dn hs fun v H' hr => done_sound hE h hr (op := .assign x) rfl dst ty pos after guard
    | pick c x y => exact dn hs fun v H' hr => done_sound hE h hr (op := .pick c x y) rfl dst ty pos after guard
    | alloc e => exact dn hs fun v H' hr => done_sound hE h hr (op := .alloc e) rfl dst ty pos after guard
    | box e x => exact dn hs fun v H' hr => done_sound hE h hr (op := .box e x) rfl dst ty pos after guard
    | build t ps => exact dn hs fun v H' hr => done_sound hE h hr (op := .build t ps) rfl dst ty pos after guard
    | buildSlice t n ps => exact dn hs fun v H' hr => done_sound hE h hr (op := .buildSlice t n ps) rfl dst ty pos after guard
    | insert t m k x => exact dn hs fun v H' hr => done_sound hE h hr (op := .insert t m k x) rfl dst ty pos after guard
    | load t x => exact dn hs fun v H' hr => done_sound hE h hr (op := .load t x) rfl dst ty pos after guard
    | store t x y => exact dn hs fun v H' hr => done_sound hE h hr (op := .store t x y) rfl dst ty pos after guard
    | nilCheck x => exact dn hs fun v H' hr => done_sound hE h hr (op := .nilCheck x) rfl dst ty pos after guard
    | binOp op t x y t' => exact dn hs fun v H' hr => done_sound hE h hr (op := .binOp op t x y t') rfl dst ty pos after guard
    | unOp op t x => exact dn hs fun v H' hr => done_sound hE h hr (op := .unOp op t x) rfl dst ty pos after guard
    | convert s d x => exact dn hs fun v H' hr => done_sound hE h hr (op := .convert s d x) rfl dst ty pos after guard
    | makeInterface t x => exact dn hs fun v H' hr => done_sound hE h hr (op := .makeInterface t x) rfl dst ty pos after guard
    | makeFunc fn first caps => exact dn hs fun v H' hr => done_sound hE h hr (op := .makeFunc fn first caps) rfl dst ty pos after guard
    | makeMap t q => exact dn hs fun v H' hr => done_sound hE h hr (op := .makeMap t q) rfl dst ty pos after guard
    | slice t x lo hi mx => exact dn hs fun v H' hr => done_sound hE h hr (op := .slice t x lo hi mx) rfl dst ty pos after guard
    | fieldAddr s x f => exact dn hs fun v H' hr => done_sound hE h hr (op := .fieldAddr s x f) rfl dst ty pos after guard
    | field t x f => exact dn hs fun v H' hr => done_sound hE h hr (op := .field t x f) rfl dst ty pos after guard
    | indexAddr t x i => exact dn hs fun v H' hr => done_sound hE h hr (op := .indexAddr t x i) rfl dst ty pos after guard
    | index t x i => exact dn hs fun v H' hr => done_sound hE h hr (op := .index t x i) rfl dst ty pos after guard
    | lookup t m k ok => exact dn hs fun v H' hr => done_sound hE h hr (op := .lookup t m k ok) rfl dst ty pos after guard
    | mapUpdate t m k x => exact dn hs fun v H' hr => done_sound hE h hr (op := .mapUpdate t m k x) rfl dst ty pos after guard
    | typeAssert x xt t ok => exact dn hs fun v H' hr => done_sound hE h hr (op := .typeAssert x xt t ok) rfl dst ty pos after guard
    | extract t i => exact dn hs fun v H' hr => done_sound hE h hr (op := .extract t i) rfl dst ty pos after guard
    | panic x =>
      have hs : sPanic st (ev E st.tm x) = some (ex, st') := hs
      unfold sPanic at hs
      split at hs
      · rename_i t v hx
        simp at hs
        obtain ⟨rfl, rfl⟩ := hs
        have kx := ev_sound hE h hx
        have kx' := kx
        obtain ⟨X, e, kX⟩ := kx
        have := hQ _ rfl G w a _ h (Step.refl _ _) (Ext.refl _ _) kx'
        unfold Oper.wp
        rw [e] at this
        simpa [execOp, Instr.panic, e, Oper.upon] using this
      · simp at hs
    | defer c =>
      have hs : stepD E dst st c = some (ex, st') := hs
      unfold stepD at hs
      split at hs
      · rename_i fo hfo
        unfold sDefer at hs
        split at hs
        · rename_i f first caps as hf has
          obtain ⟨st1, h1, h2⟩ := ob_some_iff hs
          simp at h2
          obtain ⟨rfl, rfl⟩ := h2
          have kf := ev_sound hE h hf
          obtain ⟨x, y, e, k1, k2⟩ := kf
          have kas := vals_sound hE h has
          rw [← vals_array] at kas
          have hd : StRel E N0 F G w { st with defers := (f, first ++ as ++ caps) :: st.defers } { a with defers := { target := .fn (.func f) y, args := x ++ c.args.map a.eval } :: a.defers } :=
            ⟨h.heap, h.tm, h.n, ⟨_, _, y, rfl, rfl, by simpa using (k1.append (kas.append k2)), h.defers⟩, h.glob⟩
          have := hK rfl G w _ (hd.put (Ext.refl _ _) h.heap undef_rel h1) (Step.refl _ _) (Ext.refl _ _)
          unfold Oper.wp
          have hr : (execOp a.eval ⟨dst, .defer c, ty, pos, after, guard⟩).run E.P w = .ok (.defer { target := .fn (.func f) y, args := x ++ c.args.map a.eval }) w := by
            simp [execOp, resolve, hfo, Deferred.ofValue, e]
          rw [hr]
          exact this
        · simp at hs
      · simp at hs
    | call c =>
      have hs : stepC E call dst st c = some (ex, st') := hs
      unfold stepC at hs
      split at hs
      · rename_i fo hfo
        unfold sCall at hs
        split at hs
        · rename_i f first caps as hf has
          have kf := ev_sound hE h hf
          obtain ⟨x, y, e, k1, k2⟩ := kf
          have kas := vals_sound hE h has
          rw [← vals_array] at kas
          generalize hargs : bc (E.owns f) (first ++ as ++ caps) ((first ++ as ++ caps).map AV.melt) = args at hs
          have kargs : RelL G w args ((x ++ c.args.map a.eval) ++ y).toList := by
            have k0 : RelL G w (first ++ as ++ caps) ((x ++ c.args.map a.eval) ++ y).toList := by simpa using (k1.append kas).append k2
            rw [← hargs]
            cases E.owns f with
            | true => exact k0
            | false => exact k0.melt
          unfold sBack at hs
          have fin : ∀ e2 H2, callAt call f args st.heap = some (e2, H2) →
              (∀ en w', (∃ G', HRel N0 F G' w' H2 ∧ Ext G w G' w' ∧ Step N0 F G.m w G'.m w' ∧ EndRel G' w' e2 en) → (match en, w' with | .returned v, w'' => K (a.put dst v) w'' | .panicked chain, w'' => Q (.panic chain) a w'' | .outgrown, _ => LetsOut Q)) →
              Oper.wp E.P ⟨dst, .call c, ty, pos, after, guard⟩ a w K Q := by
            intro e2 H2 hcall hpost
            obtain ⟨fn, g1, g2, g3⟩ := callAt_enters hg hcall
            have hr : (execOp a.eval ⟨dst, .call c, ty, pos, after, guard⟩).run E.P w = .ok (.enter f ((x ++ c.args.map a.eval) ++ y)) w := by
              have hnone : fn.body ≠ none := by intro hb'; simp [hb'] at g2
              have g3' : fn.name ≠ "runtime.NumGoroutine" := by simpa using g3
              simp [execOp, resolve, hfo, Deferred.ofValue, e, invoke, callFunc, g1, g3']
              exact fun hh => absurd hh hnone
            unfold Oper.wp
            rw [hr]
            have := (callAt_sound hE hg hcall h.heap h.glob kargs).mono hpost
            rw [Array.toArray_toList] at this
            exact this
          split at hs
          · rename_i v H hcall
            obtain ⟨st1, h1, h2⟩ := ob_some_iff hs
            simp at h2
            obtain ⟨rfl, rfl⟩ := h2
            refine fin _ _ hcall ?_
            rintro en w' ⟨G', q1, q2, q3, q4⟩
            cases en with
            | returned V => exact hK rfl G' w' _ (h.put q2 q1 q4 h1) q3 q2
            | _ => exact q4.elim
          · rename_i v H hcall
            simp at hs
            obtain ⟨rfl, rfl⟩ := hs
            refine fin _ _ hcall ?_
            rintro en w' ⟨G', q1, q2, q3, q4⟩
            cases en with
            | panicked chain =>
              obtain ⟨V, rfl, q5⟩ := q4
              exact hQ v rfl G' w' a V ⟨q1, h.tm.ext q2, h.n, h.defers.ext q2, h.glob.ext q2⟩ q3 q2 q5
            | _ => exact q4.elim
          · simp at hs
        · simp at hs
      · rename_i b hb'
        exact dn hs fun v H' hr => done_sound hE h hr (op := .call c) ⟨b, hb', rfl⟩ dst ty pos after guard
      · simp at hs
    | _ => (simp only [stepW] at hs; first | (simp [kNo1] at hs; done) | (simp [kNoTO] at hs; done) | (simp [kNoTOO] at hs; done) | (simp [kNoTOOO] at hs; done) | (simp [kNoOB] at hs; done) | (simp [kNoO] at hs; done) | (simp [kGo] at hs; done) | (simp [kNoOO] at hs; done) | (simp [kNoRecv] at hs; done) | (simp [kNoSel] at hs; done))
end Go.Pm
