/-
How the plain machine's values and blocks stand for the model's.
Lemmas on the relation between the plain machine's values and the model's; the heap's relation.
Each operation of the plain machine that reads alone does what the model's does.
More operations that read alone: slices, operators, conversions of numbers, len, min, max, look-ups.
-/
import Derived.Test.YtpgdfpcihamldaaGreatDoorK01
import Derived.Laws.Cells
import Derived.ChangeKeysEq
import Derived.Laws.StructEq
import Derived.Laws.Strings
namespace Go.Pm
open Go

/-- Where the blocks lie; what an owner's slice now is; up to where a block's cells stay as they are. -/
structure Gh where
  n : Nat
  β : Nat → Nat
  cur : Nat → Value
  m : Nat → Nat

def vlen : Value → Nat
  | .slice _ n _ => n
  | _ => 0
def TokRel (G : Gh) : Tok → Nat → Nat → Value → Prop
  | .none, _, _, _ => True
  | .exact, n, cap, _ => cap = n
  | .nil, _, _, v => v = .slice none 0 0
  | .own r, n, _, v => r < G.n ∧ n ≤ vlen (G.cur r) ∧ (n = vlen (G.cur r) → v = G.cur r)

mutual
def Rel (G : Gh) (w : World) : AV → Value → Prop
  | .bool b, v => v = .bool b
  | .int k n, v => v = .int k n
  | .str s, v => v = .string ⟨⟨s⟩⟩
  | .nilp, v => v = .pointer none
  | .ref r off, v => r < G.n ∧ v = .pointer (some ⟨G.β r, off, none⟩)
  | .eptr cs, v => ∃ b o, v = .pointer (some ⟨b, o, none⟩) ∧ cs.all AV.pure = true ∧ PubAt G w b o cs
  | .slice t n cs, v => ∃ a cap, v = .slice a n cap ∧ n ≤ cap ∧ cs.all AV.pure = true ∧ (cs = [] ∨ ∃ b o, a = some ⟨b, o, none⟩ ∧ PubAt G w b o cs) ∧ TokRel G t n cap v
  | .vslice r off n, v => r < G.n ∧ ∃ cap, n ≤ cap ∧ v = .slice (some ⟨G.β r, off, none⟩) n cap
  | .nilmap, v => v = .map none
  | .map r, v => r < G.n ∧ v = .map (some (G.β r))
  | .func f a b, v => ∃ x y, v = .func (.func f) x y ∧ RelL G w a x.toList ∧ RelL G w b y.toList
  | .nilFunc, v => v = .nilFunc
  | .iface t a, v => ∃ x, v = .iface t x ∧ Rel G w a x
  | .nilIface, v => v = .nilIface
  | .agg cs, v => ∃ xs, v = .agg xs ∧ RelL G w cs xs.toList
  | .tuple vs, v => ∃ xs, v = .tuple xs ∧ RelL G w vs xs.toList
def RelL (G : Gh) (w : World) : List AV → List Value → Prop
  | [], vs => vs = []
  | c :: cs, vs => ∃ x xs, vs = x :: xs ∧ Rel G w c x ∧ RelL G w cs xs
def PubAt (G : Gh) (w : World) (b : Nat) : Nat → List AV → Prop
  | _, [] => True
  | o, c :: cs => o < G.m b ∧ (∃ x, w.cell? ⟨b, o, none⟩ = some x ∧ Rel G w c x) ∧ PubAt G w b (o + 1) cs
end

/-- From here to there nothing that a value stands for is lost. -/
structure Ext (G : Gh) (w : World) (G' : Gh) (w' : World) : Prop where
  n : G.n ≤ G'.n
  β : ∀ r, r < G.n → G'.β r = G.β r
  cur : ∀ r, r < G.n → G'.cur r = G.cur r ∨ vlen (G.cur r) < vlen (G'.cur r)
  m : ∀ B, G.m B ≤ G'.m B
  pub : ∀ B j, j < G.m B → w'.cell? ⟨B, j, none⟩ = w.cell? ⟨B, j, none⟩

theorem Ext.refl (G : Gh) (w : World) : Ext G w G w := ⟨Nat.le_refl _, fun _ _ => rfl, fun _ _ => .inl rfl, fun _ => Nat.le_refl _, fun _ _ _ => rfl⟩
theorem Ext.trans {G : Gh} {w : World} {G1 : Gh} {w1 : World} {G2 : Gh} {w2 : World} (h : Ext G w G1 w1) (k : Ext G1 w1 G2 w2) : Ext G w G2 w2 := by
  refine ⟨Nat.le_trans h.n k.n, fun r hr => ?_, fun r hr => ?_, fun B => Nat.le_trans (h.m B) (k.m B), fun B j hj => ?_⟩
  · rw [k.β r (Nat.lt_of_lt_of_le hr h.n), h.β r hr]
  · rcases h.cur r hr with e | e <;> rcases k.cur r (Nat.lt_of_lt_of_le hr h.n) with f | f
    · exact .inl (f.trans e)
    · exact .inr (e ▸ f)
    · exact .inr (by rw [f]; exact e)
    · exact .inr (Nat.lt_trans e f)
  · rw [k.pub B j (Nat.lt_of_lt_of_le hj (h.m B)), h.pub B j hj]

theorem TokRel.ext {G : Gh} {w : World} {G' : Gh} {w' : World} (h : Ext G w G' w') {t : Tok} {n cap : Nat} {v : Value} (k : TokRel G t n cap v) : TokRel G' t n cap v := by
  cases t with
  | none => trivial
  | exact => exact k
  | nil => exact k
  | own r =>
    obtain ⟨hr, hn, he⟩ := k
    refine ⟨Nat.lt_of_lt_of_le hr h.n, ?_, fun hl => ?_⟩
    · rcases h.cur r hr with e | e
      · rw [e]; exact hn
      · omega
    · rcases h.cur r hr with e | e
      · rw [e] at hl ⊢; exact he hl
      · omega

mutual
theorem Rel.ext {G : Gh} {w : World} {G' : Gh} {w' : World} (h : Ext G w G' w') : ∀ (x : AV) (v : Value), Rel G w x v → Rel G' w' x v
  | .bool _, _, k => k
  | .int _ _, _, k => k
  | .str _, _, k => k
  | .nilp, _, k => k
  | .ref r _, _, k => ⟨Nat.lt_of_lt_of_le k.1 h.n, by rw [h.β r k.1]; exact k.2⟩
  | .eptr cs, _, ⟨b, o, e, p, k⟩ => ⟨b, o, e, p, PubAt.ext h b cs o k⟩
  | .slice _ _ cs, _, ⟨a, cap, e, hc, p, k, t⟩ => ⟨a, cap, e, hc, p, k.imp id fun ⟨b, o, ea, k⟩ => ⟨b, o, ea, PubAt.ext h b cs o k⟩, t.ext h⟩
  | .vslice r _ _, _, ⟨hr, cap, hc, e⟩ => ⟨Nat.lt_of_lt_of_le hr h.n, cap, hc, by rw [h.β r hr]; exact e⟩
  | .nilmap, _, k => k
  | .map r, _, k => ⟨Nat.lt_of_lt_of_le k.1 h.n, by rw [h.β r k.1]; exact k.2⟩
  | .func _ a b, _, ⟨x, y, e, k1, k2⟩ => ⟨x, y, e, RelL.ext h a _ k1, RelL.ext h b _ k2⟩
  | .nilFunc, _, k => k
  | .iface _ a, _, ⟨x, e, k⟩ => ⟨x, e, Rel.ext h a x k⟩
  | .nilIface, _, k => k
  | .agg cs, _, ⟨xs, e, k⟩ => ⟨xs, e, RelL.ext h cs _ k⟩
  | .tuple cs, _, ⟨xs, e, k⟩ => ⟨xs, e, RelL.ext h cs _ k⟩
theorem RelL.ext {G : Gh} {w : World} {G' : Gh} {w' : World} (h : Ext G w G' w') : ∀ (xs : List AV) (vs : List Value), RelL G w xs vs → RelL G' w' xs vs
  | [], _, k => k
  | c :: cs, _, ⟨x, xs, e, k1, k2⟩ => ⟨x, xs, e, Rel.ext h c x k1, RelL.ext h cs xs k2⟩
theorem PubAt.ext {G : Gh} {w : World} {G' : Gh} {w' : World} (h : Ext G w G' w') (b : Nat) : ∀ (cs : List AV) (o : Nat), PubAt G w b o cs → PubAt G' w' b o cs
  | [], _, _ => trivial
  | c :: cs, o, ⟨hm, ⟨x, hx, k⟩, r⟩ => ⟨Nat.lt_of_lt_of_le hm (h.m b), ⟨x, (h.pub b o hm).trans hx, Rel.ext h c x k⟩, PubAt.ext h b cs (o + 1) r⟩
end
end Go.Pm
namespace Go.Pm
open Go

theorem nth_eq {α : Type} : ∀ (l : List α) (i : Nat), nth l i = l[i]?
  | [], _ => by simp
  | _ :: _, 0 => by simp
  | _ :: l, i + 1 => by simp [nth_eq l i]
theorem setNth_eq {α : Type} : ∀ (l : List α) (i : Nat) (y : α), setNth l i y = l.set i y
  | [], _, _ => by simp
  | _ :: _, 0, _ => by simp
  | _ :: l, i + 1, y => by simp [setNth_eq l i y]
theorem bc_eq {α : Type} (b : Bool) (x y : α) : bc b x y = if b = true then x else y := by cases b <;> rfl
theorem bc_some {α : Type} {b : Bool} {x : Option α} {y : α} (h : bc b x none = some y) : b = true ∧ x = some y := by cases b <;> simp_all
theorem ob_some_iff {α β : Type} {x : Option α} {f : α → Option β} {y : β} (h : ob x f = some y) : ∃ a, x = some a ∧ f a = some y := by cases x <;> simp_all

variable {G : Gh} {w : World}

theorem RelL.length : ∀ {xs : List AV} {vs : List Value}, RelL G w xs vs → xs.length = vs.length
  | [], _, k => by cases k; rfl
  | _ :: _, _, ⟨_, _, e, _, k⟩ => by subst e; simp [k.length]
theorem RelL.get : ∀ {xs : List AV} {vs : List Value} {i : Nat} {x : AV}, RelL G w xs vs → nth xs i = some x → ∃ v, vs[i]? = some v ∧ Rel G w x v
  | [], _, _, _, _, h => by simp at h
  | _ :: _, _, 0, _, ⟨v, vs, e, k, _⟩, h => by subst e; simp at h; subst h; exact ⟨v, by simp, k⟩
  | _ :: _, _, i + 1, _, ⟨v, vs, e, _, k⟩, h => by
    subst e; simp at h
    obtain ⟨u, hu, hr⟩ := k.get h
    exact ⟨u, by simpa using hu, hr⟩
theorem RelL.append : ∀ {xs ys : List AV} {vs us : List Value}, RelL G w xs vs → RelL G w ys us → RelL G w (xs ++ ys) (vs ++ us)
  | [], _, _, _, h, k => by cases h; exact k
  | _ :: _, _, _, _, ⟨v, vs, e, h1, h2⟩, k => by subst e; exact ⟨v, _, rfl, h1, h2.append k⟩
theorem RelL.drop : ∀ {xs : List AV} {vs : List Value} (n : Nat), RelL G w xs vs → RelL G w (xs.drop n) (vs.drop n)
  | _, _, 0, h => h
  | [], _, n + 1, h => by cases h; exact rfl
  | _ :: _, _, n + 1, ⟨v, vs, e, _, h⟩ => by subst e; exact h.drop n
theorem RelL.take : ∀ {xs : List AV} {vs : List Value} (n : Nat), RelL G w xs vs → RelL G w (xs.take n) (vs.take n)
  | _, _, 0, _ => by simp [RelL]
  | [], _, n + 1, h => by cases h; exact rfl
  | _ :: _, _, n + 1, ⟨v, vs, e, k, h⟩ => by subst e; exact ⟨v, _, rfl, k, h.take n⟩
theorem RelL.set : ∀ {xs : List AV} {vs : List Value} (n : Nat) {x : AV} {v : Value}, RelL G w xs vs → Rel G w x v → RelL G w (xs.set n x) (vs.set n v)
  | [], _, _, _, _, h, _ => by cases h; exact rfl
  | _ :: _, _, 0, _, _, ⟨_, _, e, _, h⟩, k => by subst e; exact ⟨_, _, rfl, k, h⟩
  | _ :: _, _, n + 1, _, _, ⟨u, _, e, k1, h⟩, k => by subst e; exact ⟨u, _, rfl, k1, h.set n k⟩

theorem PubAt.drop {b : Nat} : ∀ {cs : List AV} {o : Nat} (k : Nat), PubAt G w b o cs → PubAt G w b (o + k) (cs.drop k)
  | _, _, 0, h => h
  | [], _, _ + 1, _ => trivial
  | _ :: _, o, k + 1, ⟨_, _, h⟩ => by
    have := h.drop k
    simpa [Nat.add_assoc, Nat.add_comm 1 k] using this
theorem PubAt.take {b : Nat} : ∀ {cs : List AV} {o : Nat} (k : Nat), PubAt G w b o cs → PubAt G w b o (cs.take k)
  | _, _, 0, _ => by simp [PubAt]
  | [], _, _ + 1, _ => trivial
  | _ :: _, _, k + 1, ⟨h1, h2, h⟩ => ⟨h1, h2, h.take k⟩
theorem PubAt.get {b : Nat} : ∀ {cs : List AV} {o i : Nat} {x : AV}, PubAt G w b o cs → nth cs i = some x → o + i < G.m b ∧ ∃ v, w.cell? ⟨b, o + i, none⟩ = some v ∧ Rel G w x v
  | [], _, _, _, _, h => by simp at h
  | _ :: _, _, 0, _, ⟨h1, h2, _⟩, h => by simp at h; subst h; exact ⟨h1, h2⟩
  | _ :: _, o, i + 1, _, ⟨_, _, k⟩, h => by
    simp at h
    have := k.get h
    simpa [Nat.add_assoc, Nat.add_comm 1 i] using this
theorem PubAt.append {b : Nat} : ∀ {cs ds : List AV} {o : Nat}, PubAt G w b o cs → PubAt G w b (o + cs.length) ds → PubAt G w b o (cs ++ ds)
  | [], _, _, _, k => k
  | _ :: _, _, o, ⟨h1, h2, h⟩, k => ⟨h1, h2, h.append (by simpa [Nat.add_assoc, Nat.add_comm 1] using k)⟩
/-- The cells at a place, as a list. -/
theorem PubAt.list {b : Nat} : ∀ {cs : List AV} {o : Nat}, PubAt G w b o cs → ∃ vs : List Value, RelL G w cs vs ∧ ∀ j v, vs[j]? = some v → w.cell? ⟨b, o + j, none⟩ = some v
  | [], _, _ => ⟨[], rfl, fun _ _ h => by simp at h⟩
  | _ :: _, o, ⟨_, ⟨x, hx, k⟩, h⟩ => by
    obtain ⟨vs, hr, hc⟩ := h.list
    refine ⟨x :: vs, ⟨x, vs, rfl, k, hr⟩, fun j v hj => ?_⟩
    cases j with
    | zero => simp at hj; subst hj; exact hx
    | succ j => simp at hj; have := hc j v hj; simpa [Nat.add_assoc, Nat.add_comm 1 j] using this
theorem PubAt.mk {b : Nat} : ∀ {cs : List AV} {vs : List Value} {o : Nat}, RelL G w cs vs → o + cs.length ≤ G.m b → (∀ j v, vs[j]? = some v → w.cell? ⟨b, o + j, none⟩ = some v) → PubAt G w b o cs
  | [], _, _, _, _, _ => trivial
  | _ :: cs, _, o, ⟨x, xs, e, k, h⟩, hm, hc => by
    subst e
    simp at hm
    refine ⟨by omega, ⟨x, hc 0 x (by simp), k⟩, PubAt.mk h (by omega) fun j v hj => ?_⟩
    have := hc (j + 1) v (by simpa using hj)
    simpa [Nat.add_assoc, Nat.add_comm 1 j] using this

theorem Rel.freeze {x : AV} {v : Value} (h : Rel G w x v) : Rel G w x.freeze v := by
  cases x with
  | slice t n cs =>
    cases t with
    | own r => obtain ⟨a, cap, e, hc, p, k, _⟩ := h; exact ⟨a, cap, e, hc, p, k, trivial⟩
    | _ => exact h
  | _ => exact h
theorem RelL.freeze : ∀ {xs : List AV} {vs : List Value}, RelL G w xs vs → RelL G w (xs.map AV.freeze) vs
  | [], _, h => h
  | _ :: _, _, ⟨v, vs, e, k, h⟩ => ⟨v, vs, e, k.freeze, h.freeze⟩
theorem Rel.freezeIn {x : AV} {v : Value} (h : Rel G w x v) : Rel G w x.freezeIn v := by
  cases x with
  | agg cs => obtain ⟨xs, e, k⟩ := h; exact ⟨xs, e, k.freeze⟩
  | _ => exact h
theorem Rel.melt {x : AV} {v : Value} (h : Rel G w x v) : Rel G w x.melt v := by
  cases x with
  | agg cs => obtain ⟨xs, e, k⟩ := h; exact ⟨xs, e, k.freeze⟩
  | slice t n cs =>
    cases t with
    | own r => exact Rel.freeze (x := .slice (.own r) n cs) h
    | _ => exact h
  | _ => exact h
theorem RelL.melt : ∀ {xs : List AV} {vs : List Value}, RelL G w xs vs → RelL G w (xs.map AV.melt) vs
  | [], _, h => h
  | _ :: _, _, ⟨v, vs, e, k, h⟩ => ⟨v, vs, e, k.melt, h.melt⟩
theorem Rel.cells {x : AV} {v : Value} (h : Rel G w x v) : RelL G w x.cells v.cells.toList := by
  have one : ∀ {x : AV} {v : Value}, x.cells = [x] → v.cells = #[v] → Rel G w x v → RelL G w x.cells v.cells.toList := by
    intro x v e1 e2 h; rw [e1, e2]; exact ⟨v, [], rfl, h, rfl⟩
  cases x with
  | agg cs => obtain ⟨xs, rfl, k⟩ := h; exact k
  | bool b => obtain rfl := h; exact one rfl rfl rfl
  | int k n => obtain rfl := h; exact one rfl rfl rfl
  | str s => obtain rfl := h; exact one rfl rfl rfl
  | nilp => obtain rfl := h; exact one rfl rfl rfl
  | nilmap => obtain rfl := h; exact one rfl rfl rfl
  | nilFunc => obtain rfl := h; exact one rfl rfl rfl
  | nilIface => obtain rfl := h; exact one rfl rfl rfl
  | ref r off => have h' := h; obtain ⟨_, rfl⟩ := h; exact one rfl rfl h'
  | map r => have h' := h; obtain ⟨_, rfl⟩ := h; exact one rfl rfl h'
  | eptr cs => have h' := h; obtain ⟨_, _, rfl, _⟩ := h; exact one rfl rfl h'
  | slice t n cs => have h' := h; obtain ⟨_, _, rfl, _⟩ := h; exact one rfl rfl h'
  | vslice r o n => have h' := h; obtain ⟨_, _, _, rfl⟩ := h; exact one rfl rfl h'
  | func f a b => have h' := h; obtain ⟨_, _, rfl, _⟩ := h; exact one rfl rfl h'
  | iface t a => have h' := h; obtain ⟨_, rfl, _⟩ := h; exact one rfl rfl h'
  | tuple vs => have h' := h; obtain ⟨_, rfl, _⟩ := h; exact one rfl rfl h'
theorem Rel.flat {x : AV} {v : Value} (h : Rel G w x v) (hf : x.flat = true) : (∀ xs, v ≠ .agg xs) ∧ (∀ xs, v ≠ .tuple xs) := by
  cases x with
  | agg cs => simp [AV.flat] at hf
  | tuple cs => simp [AV.flat] at hf
  | bool b => obtain rfl := h; simp
  | int k n => obtain rfl := h; simp
  | str s => obtain rfl := h; simp
  | nilp => obtain rfl := h; simp
  | nilmap => obtain rfl := h; simp
  | nilFunc => obtain rfl := h; simp
  | nilIface => obtain rfl := h; simp
  | ref r off => obtain ⟨_, rfl⟩ := h; simp
  | map r => obtain ⟨_, rfl⟩ := h; simp
  | eptr cs => obtain ⟨_, _, rfl, _⟩ := h; simp
  | slice t n cs => obtain ⟨_, _, rfl, _⟩ := h; simp
  | vslice r o n => obtain ⟨_, _, _, rfl⟩ := h; simp
  | func f a b => obtain ⟨_, _, rfl, _⟩ := h; simp
  | iface t a => obtain ⟨_, rfl, _⟩ := h; simp

/-! ### the slots -/
theorem Tm.get_put (T : Tm) (d t : Nat) (v : AV) : (T.put d v).get t = bc (Nat.beq d t) (some v) (T.get t) := by
  have key : ∀ (l : List (Nat × AV)), Pm.get (Pm.put l d v) t = bc (Nat.beq d t) (some v) (Pm.get l t) := by
    intro l
    induction l with
    | nil => rfl
    | cons p l ih =>
      obtain ⟨k, x⟩ := p
      rw [put_cons]
      cases hk : Nat.beq k d with
      | true =>
        have : k = d := Nat.eq_of_beq_eq_true hk
        subst this
        simp only [bc_true, get_cons]
        cases Nat.beq k t <;> rfl
      | false =>
        simp only [bc_false, get_cons, ih]
        cases hkt : Nat.beq k t with
        | false => rfl
        | true =>
          have : k = t := Nat.eq_of_beq_eq_true hkt
          subst this
          cases hd : Nat.beq d k with
          | false => rfl
          | true =>
            have : d = k := Nat.eq_of_beq_eq_true hd
            subst this
            have := hk.symm.trans hkt
            cases this
  unfold Tm.put Tm.get
  cases hm : bit T.mask d with
  | true =>
    simp only []
    cases ht : bit T.mask t with
    | true => exact key T.loc
    | false =>
      cases hd : Nat.beq d t with
      | false => rfl
      | true =>
        have : d = t := Nat.eq_of_beq_eq_true hd
        subst this
        rw [hm] at ht; cases ht
  | false =>
    simp only []
    cases ht : bit T.mask t with
    | true =>
      cases hd : Nat.beq d t with
      | false => rfl
      | true =>
        have : d = t := Nat.eq_of_beq_eq_true hd
        subst this
        rw [hm] at ht; cases ht
    | false => rfl

/-! ### blocks -/
def ownBlk : Value → Nat
  | .slice (some a) _ _ => a.block
  | _ => 0
def loc (G : Gh) (r : Nat) : ABlk → Nat
  | .owner _ _ => ownBlk (G.cur r)
  | _ => G.β r
/-- Cells from the head of a block on. -/
def RelP (G : Gh) (w : World) (xs : List AV) (c : Array Value) : Prop := ∃ vs rest, c.toList = vs ++ rest ∧ RelL G w xs vs
def RelE (G : Gh) (w : World) : List (AV × AV) → List MapEntry → Prop
  | [], es => es = []
  | (k, v) :: l, es => ∃ e es', es = e :: es' ∧ Rel G w k e.key ∧ Rel G w v e.val ∧ RelE G w l es'
def unfrozen (fr : Nat × Nat) (lo hi : Nat) : Prop := ∀ j, lo ≤ j → j < hi → ¬ (fr.1 ≤ j ∧ j < fr.2)
def BRel (G : Gh) (w : World) (r : Nat) : ABlk → Prop
  | .cells xs => G.m (G.β r) = 0 ∧ ∃ c E fr, w.heap[G.β r]? = some (.cells c E fr) ∧ unfrozen fr 0 xs.length ∧ RelP G w xs c
  | .owner n sz => ∃ off cap B c E fr, G.cur r = .slice (some ⟨B, off, none⟩) n cap ∧ w.heap[B]? = some (.cells c E fr) ∧ G.m B = off + n * sz ∧ n ≤ cap ∧
      off + cap * sz ≤ c.size ∧ unfrozen fr (off + n * sz) (off + cap * sz)
  | .map es => G.m (G.β r) = 0 ∧ ∃ ents clock, w.heap[G.β r]? = some (.map ents clock) ∧ RelE G w es ents.toList

structure HRel (N0 : Nat) (F : Nat → Prop) (G : Gh) (w : World) (H : List ABlk) : Prop where
  len : G.n = H.length
  base : N0 ≤ w.heap.size
  fresh : ∀ B, w.heap.size ≤ B → G.m B = 0
  foot : ∀ r b, nth H r = some b → F (loc G r b) ∨ N0 ≤ loc G r b
  inj : ∀ r r' b b', nth H r = some b → nth H r' = some b' → r ≠ r' → loc G r b ≠ loc G r' b'
  blk : ∀ r b, nth H r = some b → BRel G w r b

/-- What a call may do to memory: below N0 it changes blocks of F alone. -/
structure Step (N0 : Nat) (F : Nat → Prop) (m : Nat → Nat) (w : World) (m' : Nat → Nat) (w' : World) : Prop where
  size : w.heap.size ≤ w'.heap.size
  os : w'.os = w.os
  tape : w'.tape = w.tape
  output : w'.output = w.output
  same : ∀ B, B < N0 → ¬ F B → w'.heap[B]? = w.heap[B]? ∧ m' B = m B

theorem Step.refl {N0 : Nat} {F : Nat → Prop} (m : Nat → Nat) (w : World) : Step N0 F m w m w := ⟨Nat.le_refl _, rfl, rfl, rfl, fun _ _ _ => ⟨rfl, rfl⟩⟩
theorem Step.trans {N0 : Nat} {F : Nat → Prop} {m m1 m2 : Nat → Nat} {w w1 w2 : World} (h : Step N0 F m w m1 w1) (k : Step N0 F m1 w1 m2 w2) : Step N0 F m w m2 w2 :=
  ⟨Nat.le_trans h.size k.size, k.os.trans h.os, k.tape.trans h.tape, k.output.trans h.output, fun B hB hF => ⟨(k.same B hB hF).1.trans (h.same B hB hF).1, (k.same B hB hF).2.trans (h.same B hB hF).2⟩⟩
theorem Step.drew {N0 : Nat} {F : Nat → Prop} {m m1 : Nat → Nat} {w w1 : World} (h : Step N0 F m w m1 w1) (n : Nat) : Step N0 F m w m1 { w1 with drawn := n } :=
  ⟨h.size, h.os, h.tape, h.output, h.same⟩

theorem RelP.ext {G' : Gh} {w' : World} (h : Ext G w G' w') {xs : List AV} {c : Array Value} (k : RelP G w xs c) : RelP G' w' xs c := by
  obtain ⟨vs, rest, e, k⟩ := k; exact ⟨vs, rest, e, k.ext h⟩
theorem RelE.ext {G' : Gh} {w' : World} (h : Ext G w G' w') : ∀ {es : List (AV × AV)} {l : List MapEntry}, RelE G w es l → RelE G' w' es l
  | [], _, k => k
  | (_, _) :: _, _, ⟨e, es', he, k1, k2, k3⟩ => ⟨e, es', he, k1.ext h, k2.ext h, k3.ext h⟩
/-- A block that nothing was done to. -/
theorem BRel.ext {G' : Gh} {w' : World} (h : Ext G w G' w') {r : Nat} {b : ABlk} (hr : r < G.n) (hcur : G'.cur r = G.cur r)
    (hb : w'.heap[loc G r b]? = w.heap[loc G r b]?) (hm : G'.m (loc G r b) = G.m (loc G r b)) (k : BRel G w r b) : BRel G' w' r b := by
  cases b with
  | cells xs =>
    obtain ⟨k0, c, E, fr, k1, k2, k3⟩ := k
    simp only [loc] at hb hm
    rw [← h.β r hr] at hb hm k0 k1
    exact ⟨by rw [h.β r hr] at hm k0 ⊢; omega, c, E, fr, by rw [hb]; exact k1, k2, k3.ext h⟩
  | owner n sz =>
    obtain ⟨off, cap, B, c, E, fr, e, k1, k2, k3, k4, k5⟩ := k
    simp only [loc, e, ownBlk] at hb hm
    exact ⟨off, cap, B, c, E, fr, hcur.trans e, hb.trans k1, hm.trans k2, k3, k4, k5⟩
  | map es =>
    obtain ⟨k0, ents, clock, k1, k2⟩ := k
    simp only [loc] at hb hm
    rw [← h.β r hr] at hb hm k0 k1
    exact ⟨by rw [h.β r hr] at hm k0 ⊢; omega, ents, clock, by rw [hb]; exact k1, k2.ext h⟩
theorem loc_ext {G' : Gh} {w' : World} (h : Ext G w G' w') {r : Nat} (hr : r < G.n) (hcur : G'.cur r = G.cur r) (b : ABlk) : loc G' r b = loc G r b := by
  cases b <;> simp [loc, hcur, h.β r hr]
theorem BRel.loc_lt {r : Nat} {b : ABlk} (k : BRel G w r b) : loc G r b < w.heap.size := by
  have key : ∀ {B : Nat} {o : Obj}, w.heap[B]? = some o → B < w.heap.size := fun h => (Array.getElem?_eq_some_iff.1 h).1
  cases b with
  | cells xs => obtain ⟨_, c, E, fr, k1, _⟩ := k; exact key k1
  | owner n sz => obtain ⟨off, cap, B, c, E, fr, e, k1, _⟩ := k; simp only [loc, e, ownBlk]; exact key k1
  | map es => obtain ⟨_, ents, clock, k1, _⟩ := k; exact key k1
theorem nth_lt {α : Type} {l : List α} {i : Nat} {x : α} (h : nth l i = some x) : i < l.length := by
  rw [nth_eq] at h; exact (List.getElem?_eq_some_iff.1 h).1
end Go.Pm
namespace Go.Pm
open Go

/-- The table of types says what the program's does. -/
structure TyOk (P : Program) (T : Ty) : Prop where
  desc : ∀ t i, T t = some i → P.underlying t = some i.desc
  info : ∀ t i, T t = some i → ∃ inf, P.info? t = some inf ∧ inf.size = i.size ∧ inf.bytes = i.bytes ∧ ∀ z, i.zero = some z → ∃ v, inf.zero = some v ∧ ofVal v = some z

variable {P : Program} {T : Ty}

theorem descT_some {t : TypeId} {d : TypeDesc} (h : descT T t = some d) : ∃ i, T t = some i ∧ i.desc = d := by
  unfold descT at h; split at h <;> simp_all
theorem sizeT_some {t : TypeId} {n : Nat} (h : sizeT T t = some n) : ∃ i, T t = some i ∧ i.size = n := by
  unfold sizeT at h; split at h <;> simp_all
theorem run_desc (hT : TyOk P T) {t : TypeId} {d : TypeDesc} (h : descT T t = some d) (w : World) : (underlying t).run P w = .ok d w := by
  obtain ⟨i, hi, rfl⟩ := descT_some h
  exact run_underlying (hT.desc t i hi) w
theorem run_size (hT : TyOk P T) {t : TypeId} {n : Nat} (h : sizeT T t = some n) (w : World) : (sizeOf t).run P w = .ok n w := by
  obtain ⟨i, hi, rfl⟩ := sizeT_some h
  obtain ⟨inf, h1, h2, _⟩ := hT.info t i hi
  simp [sizeOf, typeInfo, h1, h2]
theorem run_info (hT : TyOk P T) {t : TypeId} {n : Nat} (h : sizeT T t = some n) (w : World) : ∃ inf, (typeInfo t).run P w = .ok inf w ∧ inf.size = n := by
  obtain ⟨i, hi, rfl⟩ := sizeT_some h
  obtain ⟨inf, h1, h2, _⟩ := hT.info t i hi
  exact ⟨inf, by simp [typeInfo, h1], h2⟩
theorem run_bytes (hT : TyOk P T) {t : TypeId} {n : Nat} (h : bytesT T t = some n) (w : World) : ∃ inf, (typeInfo t).run P w = .ok inf w ∧ inf.bytes = n := by
  unfold bytesT at h
  split at h
  · rename_i i hi
    obtain ⟨inf, h1, h2, h3, _⟩ := hT.info t i hi
    simp at h
    exact ⟨inf, by simp [typeInfo, h1], by omega⟩
  · simp at h
theorem run_agg (hT : TyOk P T) {t : TypeId} {b : Bool} (h : aggT T t = some b) (w : World) : (isAgg t).run P w = .ok b w := by
  unfold aggT at h
  split at h
  all_goals first
    | (simp at h; done)
    | (rename_i hd; simp at h; subst h; simp [isAgg, run_desc hT hd w]; done)
theorem ofCell_rel {v : Value} {z : AV} (h : ofCell v = some z) (G : Gh) (w : World) : Rel G w z v := by
  unfold ofCell at h
  split at h <;> (try simp at h) <;> (try subst h)
  all_goals first
    | rfl
    | exact ⟨none, 0, rfl, Nat.le_refl _, rfl, .inl rfl, rfl⟩
    | exact ⟨_, _, rfl, rfl, rfl⟩
theorem ofCells_rel : ∀ {vs : List Value} {zs : List AV}, ofCells vs = some zs → ∀ (G : Gh) (w : World), RelL G w zs vs
  | [], zs, h, G, w => by simp [ofCells] at h; subst h; rfl
  | v :: l, zs, h, G, w => by
    simp only [ofCells] at h
    split at h
    · rename_i x xs h1 h2
      simp at h
      subst h
      exact ⟨v, l, rfl, ofCell_rel h1 G w, ofCells_rel h2 G w⟩
    · simp at h
theorem ofVal_rel {v : Value} {z : AV} (h : ofVal v = some z) (G : Gh) (w : World) : Rel G w z v := by
  unfold ofVal at h
  split at h
  · rename_i cs
    cases hc : ofCells cs.toList with
    | none => simp [hc] at h
    | some zs => simp [hc] at h; subst h; exact ⟨cs, rfl, ofCells_rel hc G w⟩
  · exact ofCell_rel h G w
theorem run_zero (hT : TyOk P T) {t : TypeId} {z : AV} (h : zeroT T t = some z) (w : World) : ∃ v, (zeroValue t).run P w = .ok v w ∧ ∀ G w', Rel G w' z v := by
  unfold zeroT at h
  split at h
  · rename_i i hi
    obtain ⟨inf, h1, _, _, h2⟩ := hT.info t i hi
    obtain ⟨v, h3, h4⟩ := h2 z h
    exact ⟨v, by simp [zeroValue, typeInfo, h1, h3], fun G w' => ofVal_rel h4 G w'⟩
  · simp at h

section
variable {G : Gh} {w : World}

theorem part_sound (hT : TyOk P T) {t : TypeId} {cs : List AV} {off : Nat} {x : AV} (h : partA T t cs off = some x) {arr : Array Value} (hr : RelL G w cs arr.toList) (w1 : World) :
    ∃ V, (part t arr off).run P w1 = .ok V w1 ∧ Rel G w x V := by
  unfold partA at h
  split at h
  · rename_i sz ha hs
    obtain ⟨hb, h⟩ := bc_some h
    simp at h
    subst h
    have hle : off + sz ≤ cs.length := Nat.le_of_ble_eq_true hb
    refine ⟨.agg (arr.extract off (off + sz)), by simp [part, run_agg hT ha, run_size hT hs], arr.extract off (off + sz), rfl, ?_⟩
    have := (hr.drop off).take sz
    have e : (arr.extract off (off + sz)).toList = (arr.toList.drop off).take sz := by
      simp [Array.toList_extract]
    rw [e]; exact this
  · rename_i sz ha hs
    obtain ⟨v, hv, k⟩ := hr.get h
    refine ⟨v, ?_, k⟩
    have : arr[off]? = some v := by rw [← hv]; simp
    simp [part, run_agg hT ha, this]
  · simp at h
theorem add_plain (b o n : Nat) : (⟨b, o, none⟩ : Addr).add n = ⟨b, o + n, none⟩ := by unfold Addr.add; split <;> simp_all
theorem loadVar_sound (hT : TyOk P T) {t : TypeId} {cs : List AV} {x : AV} (h : partA T t cs 0 = some x) {b o : Nat} {vs : List Value} (hr : RelL G w cs vs)
    (hc : ∀ j v, vs[j]? = some v → w.cell? ⟨b, o + j, none⟩ = some v) : ∃ V, (loadVar t ⟨b, o, none⟩).run P w = .ok V w ∧ Rel G w x V := by
  unfold partA at h
  split at h
  · rename_i sz ha hs
    obtain ⟨hb, h⟩ := bc_some h
    simp at h
    subst h
    have hle : 0 + sz ≤ cs.length := Nat.le_of_ble_eq_true hb
    have hlen := hr.length
    have hl : (vs.take sz).length = sz := by simp; omega
    have hrun := run_loadCells_list (P := P) w ⟨b, o, none⟩ (vs.take sz) (fun j v hj => by
      rw [add_plain]; exact hc j v (by rw [List.getElem?_take] at hj; split at hj <;> simp_all))
    rw [hl] at hrun
    refine ⟨.agg (vs.take sz).toArray, by simp [loadVar, run_agg hT ha, run_size hT hs, hrun], (vs.take sz).toArray, rfl, ?_⟩
    simpa using hr.take sz
  · rename_i sz ha hs
    obtain ⟨v, hv, k⟩ := hr.get h
    refine ⟨v, ?_, k⟩
    have := hc 0 v hv
    simp only [Nat.add_zero] at this
    simp [loadVar, run_agg hT ha, this]
  · simp at h
theorem partA_drop {t : TypeId} {cs : List AV} {off : Nat} {x : AV} (h : partA T t cs off = some x) : partA T t (cs.drop off) 0 = some x := by
  unfold partA at h ⊢
  split at h
  · rename_i sz ha hs
    obtain ⟨hb, h⟩ := bc_some h
    have hle : off + sz ≤ cs.length := Nat.le_of_ble_eq_true hb
    have hb' : Nat.ble (0 + sz) (cs.drop off).length = true := by rw [Nat.ble_eq]; simp; omega
    simp only [hb', bc_true, List.drop_zero]
    exact h
  · rename_i sz ha hs
    rw [nth_eq] at h ⊢
    simp; exact h
  · simp at h
/-- The cells of a variable's block, from a place on. -/
theorem RelP.from {xs : List AV} {c : Array Value} (h : RelP G w xs c) (off : Nat) : ∃ vs, RelL G w (xs.drop off) vs ∧ ∀ j v, vs[j]? = some v → c[off + j]? = some v := by
  obtain ⟨vs, rest, e, k⟩ := h
  refine ⟨vs.drop off, k.drop off, fun j v hj => ?_⟩
  simp at hj
  have : c.toList[off + j]? = some v := by
    rw [e, List.getElem?_append_left (List.getElem?_eq_some_iff.1 hj).1]; exact hj
  simpa using this
theorem cell_of_block {b i : Nat} {c : Array Value} {E : TypeId} {fr : Nat × Nat} (h : w.heap[b]? = some (.cells c E fr)) : w.cell? ⟨b, i, none⟩ = c[i]? := by
  simp [World.cell?, h]
theorem loadA_sound {N0 : Nat} {F : Nat → Prop} {H : List ABlk} (hT : TyOk P T) (hH : HRel N0 F G w H) {t : TypeId} {a x : AV} {A : Value} (h : loadA T H t a = some x) (ha : Rel G w a A) :
    ∃ V, (Instr.loadAt t A).run P w = .ok V w ∧ Rel G w x V := by
  unfold loadA at h
  split at h
  · rename_i r off
    obtain ⟨hr, rfl⟩ := ha
    split at h
    · rename_i xs hb
      cases hp : partA T t xs off with
      | none => simp [hp] at h
      | some y =>
        simp [hp] at h
        subst h
        obtain ⟨_, c, E, fr, k1, k2, k3⟩ := hH.blk r _ hb
        obtain ⟨vs, k4, k5⟩ := k3.from off
        obtain ⟨V, hV, k6⟩ := loadVar_sound (b := G.β r) (o := off) hT (partA_drop hp) k4 (fun j v hj => by rw [cell_of_block k1]; exact k5 j v hj)
        exact ⟨V, by simpa [Instr.loadAt, Instr.sureAddr] using hV, k6.freezeIn⟩
    · simp at h
  · rename_i cs
    obtain ⟨b, o, rfl, hp, k⟩ := ha
    obtain ⟨vs, k1, k2⟩ := k.list
    obtain ⟨V, hV, k6⟩ := loadVar_sound (b := b) (o := o) hT h k1 k2
    exact ⟨V, by simpa [Instr.loadAt, Instr.sureAddr] using hV, k6⟩
  · simp at h
theorem fieldOff_sound (hT : TyOk P T) {s : TypeId} {f o : Nat} (h : fieldOff T s f = some o) (w1 : World) (b off : Nat) :
    (Instr.fieldAt s (.pointer (some ⟨b, off, none⟩)) f).run P w1 = .ok (.pointer (some ⟨b, off + o, none⟩)) w1 := by
  unfold fieldOff at h
  split at h
  · rename_i fs hd
    split at h
    · rename_i x hx
      split at h
      · simp at h
      · rename_i n hne hn
        simp at h
        subst h
        have hn0 : n ≠ 0 := fun e => hne e
        simp [Instr.fieldAt, run_desc hT hd, hx, Instr.sureAddr, fieldPlace, run_size hT hn, hn0, add_plain]
      · simp at h
    · simp at h
  · simp at h
theorem addA_sound {n : Nat} {x y : AV} {X : Value} (h : addA n x = some y) (hx : Rel G w x X) :
    ∃ b o, X = .pointer (some ⟨b, o, none⟩) ∧ Rel G w y (.pointer (some ⟨b, o + n, none⟩)) := by
  unfold addA at h
  split at h
  · obtain ⟨hr, rfl⟩ := hx
    simp at h; subst h
    exact ⟨_, _, rfl, hr, rfl⟩
  · rename_i cs
    obtain ⟨b, o, rfl, hp, k⟩ := hx
    simp at h; subst h
    exact ⟨b, o, rfl, b, o + n, rfl, by simp only [List.all_eq_true] at hp ⊢; exact fun x hx => hp x (List.mem_of_mem_drop hx), k.drop n⟩
  · simp at h
theorem inR_iff {i : Int} {n : Nat} (h : inR i n = true) : 0 ≤ i ∧ i < n := by simpa [inR] using h
theorem indexAddrA_sound (hT : TyOk P T) {t : TypeId} {x y : AV} {X : Value} {k : IntKind} {i : Int} (h : indexAddrA T t x i = some y) (hx : Rel G w x X) :
    ∃ V, (Instr.indexAt t X (.int k i)).run P w = .ok V w ∧ Rel G w y V := by
  unfold indexAddrA at h
  split at h
  · rename_i n e hd
    split at h
    · rename_i sz hs
      obtain ⟨hb, h⟩ := bc_some h
      obtain ⟨b, o, rfl, ky⟩ := addA_sound h hx
      refine ⟨_, ?_, ky⟩
      simp [Instr.indexAt, asIntOf, run_desc hT hd, Instr.sureAddr, inR_iff hb, run_size hT hs, add_plain]
    · simp at h
  · rename_i e tok n cs hd
    split at h
    · rename_i sz hs
      obtain ⟨hb, h⟩ := bc_some h
      simp at h; subst h
      obtain ⟨a, cap, rfl, hc, hp, hk, _⟩ := hx
      simp only [Bool.and_eq_true] at hb
      have hlen : i.toNat * sz + 1 ≤ cs.length := Nat.le_of_ble_eq_true hb.2
      rcases hk with rfl | ⟨b, o, rfl, hk⟩
      · simp at hlen
      refine ⟨_, ?_, b, o + i.toNat * sz, rfl, by simp only [List.all_eq_true] at hp ⊢; exact fun x hx => hp x (List.mem_of_mem_drop hx), hk.drop _⟩
      simp [Instr.indexAt, asIntOf, run_desc hT hd, inR_iff hb.1, run_size hT hs, add_plain]
    · simp at h
  · rename_i e r off n hd
    split at h
    · rename_i sz hs
      obtain ⟨hb, h⟩ := bc_some h
      simp at h; subst h
      obtain ⟨hr, cap, hc, rfl⟩ := hx
      refine ⟨_, ?_, hr, rfl⟩
      simp [Instr.indexAt, asIntOf, run_desc hT hd, inR_iff hb, run_size hT hs, add_plain]
    · simp at h
  · simp at h
theorem indexA_sound (hT : TyOk P T) {t : TypeId} {x y : AV} {X : Value} {k : IntKind} {i : Int} (h : indexA T t x i = some y) (hx : Rel G w x X) :
    ∃ V, (Instr.index t X (.int k i)).run P w = .ok V w ∧ Rel G w y V := by
  unfold indexA at h
  split at h
  · rename_i s hd
    obtain ⟨hb, h⟩ := bc_some h
    split at h
    · rename_i b hn
      simp at h; subst h
      obtain rfl := hx
      refine ⟨_, ?_, rfl⟩
      have hi : 0 ≤ i := of_decide_eq_true hb
      rw [nth_eq] at hn
      have : (⟨⟨s⟩⟩ : ByteArray)[i.toNat]? = some b := by
        obtain ⟨h1, h2⟩ := List.getElem?_eq_some_iff.1 hn
        have : i.toNat < (⟨⟨s⟩⟩ : ByteArray).size := h1
        rw [getElem?_pos (⟨⟨s⟩⟩ : ByteArray) i.toNat this]
        exact congrArg some h2
      simp [Instr.index, asIntOf, run_desc hT hd, hi, this]
    · simp at h
  · rename_i n e cs hd
    split at h
    · rename_i sz hs
      obtain ⟨hb, h⟩ := bc_some h
      obtain ⟨xs, rfl, k1⟩ := hx
      obtain ⟨V, hV, kV⟩ := part_sound (P := P) hT h k1 w
      refine ⟨V, ?_, kV⟩
      simp [Instr.index, asIntOf, run_desc hT hd, inR_iff hb, run_size hT hs, hV]
    · simp at h
  · simp at h
end
end Go.Pm
namespace Go.Pm
open Go

variable {P : Program} {T : Ty} {G : Gh} {w : World}

def ORel (G : Gh) (w : World) : Option (Option AV) → Option Value → Prop
  | none, none => True
  | some none, _ => True
  | some (some a), some v => Rel G w a v
  | _, _ => False

theorem bound_sound {x : Option AV} {d most k y : Nat} {v : Value} {code : BoundsCode} (h : bound (some x) d most = some k) (hx : ORel G w (some x) (some v)) (hy : most ≤ y) :
    k ≤ most ∧ (Instr.sliceBound v y code).run P w = .ok k w := by
  unfold bound at h
  split at h
  · simp at *
  · rename_i k' i he
    simp at he
    subst he
    obtain ⟨hb, h⟩ := bc_some h
    simp at h hb
    subst h
    simp only [ORel] at hx
    obtain rfl := hx
    refine ⟨by omega, ?_⟩
    have : i ≤ (y : Int) := by omega
    simp [Instr.sliceBound, asIntOf, hb, this]
  · simp at h
theorem bounds2_sound {len cap l h : Nat} {lo hi : Option (Option AV)} {low high : Option Value} (hb : bounds2 len lo hi = some (l, h)) (h1 : ORel G w lo low) (h2 : ORel G w hi high) (hc : len ≤ cap) (isSlice : Bool) :
    l ≤ h ∧ h ≤ len ∧ (Instr.sliceBounds isSlice len cap low high none).run P w = .ok (l, h, cap) w := by
  unfold bounds2 at hb
  obtain ⟨h', e1, hb⟩ := ob_some_iff hb
  obtain ⟨l', e2, hb⟩ := ob_some_iff hb
  simp at hb
  obtain ⟨rfl, rfl⟩ := hb
  have low_ok : ∀ (code : BoundsCode), l' ≤ h' ∧ (match low with | some v => Instr.sliceBound v h' code | none => pure 0 : Sem Nat).run P w = .ok l' w := by
    intro code
    cases lo with
    | none =>
      cases low with
      | none => simp [bound, bc_eq] at e2; subst e2; exact ⟨Nat.zero_le _, rfl⟩
      | some v => simp [ORel] at h1
    | some x =>
      cases low with
      | none =>
        cases x with
        | none => simp [bound] at e2
        | some a => exact h1.elim
      | some v => exact bound_sound e2 h1 (Nat.le_refl _)
  cases hi with
  | none =>
    cases high with
    | none =>
      simp [bound, bc_eq] at e1; subst e1
      have := low_ok .sliceB
      refine ⟨this.1, Nat.le_refl _, ?_⟩
      cases low with
      | none => simp [Instr.sliceBounds] at this ⊢; exact this.2
      | some v => simp [Instr.sliceBounds] at this ⊢; simp [this.2]
    | some v => simp [ORel] at h2
  | some x =>
    cases high with
    | none =>
      cases x with
      | none => simp [bound] at e1
      | some a => exact h2.elim
    | some v =>
      have k := bound_sound (P := P) (y := cap) (code := if isSlice then .sliceAcap else .sliceAlen) e1 h2 hc
      have := low_ok .sliceB
      refine ⟨this.1, k.1, ?_⟩
      cases low with
      | none => simp [Instr.sliceBounds] at this ⊢; simp [k.2, this.2]
      | some u => simp [Instr.sliceBounds] at this ⊢; simp [k.2, this.2]
theorem bounds3_sound {len cap l h m : Nat} {lo hi : Option (Option AV)} {mo : Option AV} {low high : Option Value} {mx : Value} (hb : bounds3 len lo hi mo = some (l, h, m)) (h1 : ORel G w lo low)
    (h2 : ORel G w hi high) (h3 : ORel G w (some mo) (some mx)) (hc : len ≤ cap) :
    l ≤ h ∧ h ≤ m ∧ m ≤ len ∧ (Instr.sliceBounds true len cap low high (some mx)).run P w = .ok (l, h, m) w := by
  unfold bounds3 at hb
  obtain ⟨m', e1, hb⟩ := ob_some_iff hb
  cases hi with
  | none => simp at hb
  | some x =>
    obtain ⟨h', e2, hb⟩ := ob_some_iff hb
    obtain ⟨l', e3, hb⟩ := ob_some_iff hb
    simp at hb
    obtain ⟨rfl, rfl, rfl⟩ := hb
    cases high with
    | none =>
      cases x with
      | none => simp [bound] at e2
      | some a => exact h2.elim
    | some v =>
      have k1 := bound_sound (P := P) (y := cap) (code := .slice3Acap) e1 h3 hc
      have k2 := bound_sound (P := P) (y := m') (code := .slice3B) e2 h2 (Nat.le_refl _)
      cases lo with
      | none =>
        cases low with
        | none =>
          simp [bound, bc_eq] at e3; subst e3
          exact ⟨Nat.zero_le _, k2.1, k1.1, by simp [Instr.sliceBounds, k1.2, k2.2]⟩
        | some v => simp [ORel] at h1
      | some x =>
        cases low with
        | none =>
          cases x with
          | none => simp [bound] at e3
          | some a => exact h1.elim
        | some u =>
          have k3 := bound_sound (P := P) (y := h') (code := .slice3C) e3 h1 (Nat.le_refl _)
          exact ⟨k3.1, k2.1, k1.1, by simp [Instr.sliceBounds, k1.2, k2.2, k3.2]⟩
theorem bytes_extract (a : List UInt8) (l h : Nat) : (⟨⟨a⟩⟩ : ByteArray).extract l h = ⟨⟨(a.take h).drop l⟩⟩ := by ext1; simp [List.drop_take, List.extract_eq_take_drop]
theorem bytes_append (a b : List UInt8) : ((⟨⟨a⟩⟩ : ByteArray) ++ ⟨⟨b⟩⟩) = ⟨⟨a ++ b⟩⟩ := by ext1; simp
theorem all_part {cs : List AV} (h : cs.all AV.pure = true) (i n : Nat) : ((cs.drop i).take n).all AV.pure = true := by
  simp only [List.all_eq_true] at h ⊢
  exact fun x hx => h x (List.mem_of_mem_drop (List.mem_of_mem_take hx))
theorem slice_part {a : Option Addr} {cs : List AV} {l h m sz : Nat} (hlh : l ≤ h) (hm : h ≤ m)
    (hk : cs = [] ∨ ∃ b o, a = some ⟨b, o, none⟩ ∧ PubAt G w b o cs) :
    (cs.drop (l * sz)).take ((h - l) * sz) = [] ∨ ∃ b o, (if m = l then a else a.map (·.add (l * sz))) = some ⟨b, o, none⟩ ∧ PubAt G w b o ((cs.drop (l * sz)).take ((h - l) * sz)) := by
  rcases hk with rfl | ⟨b, o, rfl, hk⟩
  · left; simp
  · by_cases e : m = l
    · left
      have : h - l = 0 := by omega
      simp [this]
    · right
      exact ⟨b, o + l * sz, by simp [e, add_plain], (hk.drop _).take _⟩
theorem sliceA_sound (hT : TyOk P T) {t : TypeId} {x y : AV} {X : Value} {lo hi mx : Option (Option AV)} {low high max : Option Value} (h : sliceA T t x lo hi mx = some y) (hx : Rel G w x X)
    (h1 : ORel G w lo low) (h2 : ORel G w hi high) (h3 : ORel G w mx max) : ∃ V, (Instr.sliceAt t X low high max).run P w = .ok V w ∧ Rel G w y V := by
  have arr : ∀ {n : Nat} {sz l h' : Nat} {b o : Nat} {x : AV}, arrSlice sz n x l h' = some y → l ≤ h' → h' ≤ n → Rel G w x (.pointer (some ⟨b, o, none⟩)) →
      Rel G w y (.slice (some (if n = l then ⟨b, o, none⟩ else (⟨b, o, none⟩ : Addr).add (l * sz))) (h' - l) (n - l)) := by
    intro n sz l h' b o x ha hl hh hr
    unfold arrSlice at ha
    split at ha
    · obtain ⟨hb, ha⟩ := bc_some ha
      simp at ha; subst ha
      obtain ⟨hr, he⟩ := hr
      simp at he
      obtain ⟨rfl, rfl⟩ := he
      have : l + 1 ≤ n := Nat.le_of_ble_eq_true hb
      exact ⟨hr, n - l, by omega, by rw [if_neg (by omega), add_plain]⟩
    · rename_i cs
      obtain ⟨hb, ha⟩ := bc_some ha
      simp at ha; subst ha
      simp only [Bool.and_eq_true] at hb
      obtain ⟨b', o', he, hp, hk⟩ := hr
      simp at he
      obtain ⟨rfl, rfl⟩ := he
      refine ⟨_, _, rfl, by omega, all_part hp _ _, ?_, trivial⟩
      have := slice_part (a := some ⟨b, o, none⟩) (sz := sz) hl hh (.inr ⟨b, o, rfl, hk⟩)
      rcases this with k | ⟨b', o', k1, k2⟩
      · exact .inl k
      · refine .inr ⟨b', o', ?_, k2⟩
        rw [← k1]; split <;> simp
    · simp at ha
  unfold sliceA at h
  split at h
  · rename_i s hd
    split at h
    · obtain ⟨p, hp, h⟩ := ob_some_iff h
      simp at h; subst h
      obtain rfl := hx
      cases max with
      | some _ => simp [ORel] at h3
      | none =>
        obtain ⟨l, h'⟩ := p
        obtain ⟨_, _, k⟩ := bounds2_sound (P := P) (cap := s.length) hp h1 h2 (Nat.le_refl _) false
        refine ⟨_, ?_, rfl⟩
        have e : (⟨⟨s⟩⟩ : ByteArray).size = s.length := rfl
        simp [Instr.sliceAt, Instr.slice, run_desc hT hd, e, k, bytes_extract]
    · simp at h
  · rename_i e tok n cs hd
    obtain ⟨sz, hs, h⟩ := ob_some_iff h
    obtain ⟨a, cap, rfl, hc, hp, hk, ht⟩ := hx
    cases mx with
    | none =>
      obtain ⟨⟨l, h'⟩, hb, h⟩ := ob_some_iff h
      simp at h; subst h
      cases max with
      | some _ => simp [ORel] at h3
      | none =>
        obtain ⟨q1, q2, k⟩ := bounds2_sound (P := P) hb h1 h2 hc true
        refine ⟨.slice (if cap = l then a else a.map (·.add (l * sz))) (h' - l) (cap - l), by simp [Instr.sliceAt, Instr.slice, run_desc hT hd, k, run_size hT hs], _, _, rfl, by omega, all_part hp _ _, slice_part q1 (by omega) hk, ?_⟩
        cases tok with
        | none => trivial
        | own r => trivial
        | exact =>
          simp only [TokRel] at ht
          simp only [bc_eq]
          split
          · rename_i hn
            have : h' = n := Nat.eq_of_beq_eq_true hn
            simp only [TokRel]; omega
          · trivial
        | nil =>
          simp only [TokRel] at ht ⊢
          simp at ht
          obtain ⟨rfl, rfl, rfl⟩ := ht
          have : h' = 0 := by omega
          have : l = 0 := by omega
          subst_vars
          simp
    | some m =>
      obtain ⟨⟨l, h', m'⟩, hb, h⟩ := ob_some_iff h
      simp at h; subst h
      cases max with
      | none =>
        cases m with
        | none => simp [bounds3, bound] at hb
        | some a => exact h3.elim
      | some mv =>
        obtain ⟨q1, q2, q3, k⟩ := bounds3_sound (P := P) hb h1 h2 h3 hc
        refine ⟨.slice (if m' = l then a else a.map (·.add (l * sz))) (h' - l) (m' - l), by simp [Instr.sliceAt, Instr.slice, run_desc hT hd, k, run_size hT hs], _, _, rfl, by omega, all_part hp _ _, slice_part q1 (by omega) hk, ?_⟩
        have other : TokRel G (bc (Nat.beq h' m') Tok.exact Tok.none) (h' - l) (m' - l) (.slice (if m' = l then a else Option.map (fun x => x.add (l * sz)) a) (h' - l) (m' - l)) := by
          simp only [bc_eq]
          split
          · rename_i hn
            have : h' = m' := Nat.eq_of_beq_eq_true hn
            simp only [TokRel]; omega
          · trivial
        cases tok with
        | none => exact other
        | own r => exact other
        | exact => exact other
        | nil =>
          simp only [TokRel] at ht ⊢
          simp at ht
          obtain ⟨rfl, rfl, rfl⟩ := ht
          have : m' = 0 := by omega
          have : h' = 0 := by omega
          have : l = 0 := by omega
          subst_vars
          simp
  · rename_i e r off n hd
    obtain ⟨sz, hs, h⟩ := ob_some_iff h
    obtain ⟨hr, cap, hc, rfl⟩ := hx
    split at h
    · obtain ⟨⟨l, h'⟩, hb, h⟩ := ob_some_iff h
      obtain ⟨hl, h⟩ := bc_some h
      simp at h; subst h
      have hl : l + 1 ≤ n := Nat.le_of_ble_eq_true hl
      cases max with
      | some _ => simp [ORel] at h3
      | none =>
        obtain ⟨q1, q2, k⟩ := bounds2_sound (P := P) hb h1 h2 hc true
        refine ⟨.slice (some ⟨G.β r, off + l * sz, none⟩) (h' - l) (cap - l), ?_, hr, cap - l, by omega, rfl⟩
        have hne : cap ≠ l := by omega
        simp [Instr.sliceAt, Instr.slice, run_desc hT hd, k, run_size hT hs, hne, add_plain]
    · simp at h
  · rename_i a hd
    split at h
    · rename_i n e hd2
      obtain ⟨sz, hs, h⟩ := ob_some_iff h
      split at h
      · obtain ⟨⟨l, h'⟩, hb, h⟩ := ob_some_iff h
        cases max with
        | some _ => simp [ORel] at h3
        | none =>
          obtain ⟨q1, q2, k⟩ := bounds2_sound (P := P) (cap := n) hb h1 h2 (Nat.le_refl _) false
          have hX : ∃ b o, X = .pointer (some ⟨b, o, none⟩) := by
            simp only at h
            unfold arrSlice at h
            split at h
            · obtain ⟨_, rfl⟩ := hx; exact ⟨_, _, rfl⟩
            · obtain ⟨b, o, rfl, _⟩ := hx; exact ⟨_, _, rfl⟩
            · simp at h
          obtain ⟨b, o, rfl⟩ := hX
          exact ⟨_, by simp [Instr.sliceAt, Instr.slice, run_desc hT hd, run_desc hT hd2, asAddr, k, run_size hT hs], arr h q1 q2 hx⟩
      · simp at h
    · simp at h
  · rename_i n e hd
    obtain ⟨sz, hs, h⟩ := ob_some_iff h
    split at h
    · obtain ⟨⟨l, h'⟩, hb, h⟩ := ob_some_iff h
      cases max with
      | some _ => simp [ORel] at h3
      | none =>
        obtain ⟨q1, q2, k⟩ := bounds2_sound (P := P) (cap := n) hb h1 h2 (Nat.le_refl _) false
        have hX : ∃ b o, X = .pointer (some ⟨b, o, none⟩) := by
          simp only at h
          unfold arrSlice at h
          split at h
          · obtain ⟨_, rfl⟩ := hx; exact ⟨_, _, rfl⟩
          · obtain ⟨b, o, rfl, _⟩ := hx; exact ⟨_, _, rfl⟩
          · simp at h
        obtain ⟨b, o, rfl⟩ := hX
        exact ⟨_, by simp [Instr.sliceAt, run_desc hT hd, Instr.sureAddr, k, run_size hT hs], arr h q1 q2 hx⟩
    · simp at h
  · simp at h
end Go.Pm
