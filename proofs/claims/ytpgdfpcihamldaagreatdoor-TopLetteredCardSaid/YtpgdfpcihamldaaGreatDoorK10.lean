/-
A region that draws its order: the proof.
A region that draws its order: the proof's end.
Tables: what the kernel sees of all their rows at once.
-/
import Derived.Test.YtpgdfpcihamldaaGreatDoorK09
namespace Go.Pm
open Go Go.MapKept

variable {E : Env} {G : Gh} {w : World} {N0 : Nat} {F : Nat → Prop}

theorem put_facts {st st' : St} {dst : Option Tmp} {v : AV} {H' : List ABlk} (h : st.put dst v H' = some st') :
    st'.heap = H' ∧ st'.n = st.n ∧ st'.defers = st.defers ∧ (∀ t, dst = some t → st'.tm.get t = some v) ∧ (∀ t, dst ≠ some t → st'.tm.get t = st.tm.get t) ∧ ∀ d, dst = some d → d < st.n := by
  cases dst with
  | none =>
    simp [St.put] at h; subst h
    exact ⟨rfl, rfl, rfl, by simp, fun _ _ => rfl, by simp⟩
  | some d =>
    have h : bc (Nat.ble (d + 1) st.n) (some (⟨st.tm.put d v, H', st.n, st.defers⟩ : St)) none = some st' := h
    obtain ⟨h1, h2⟩ := bc_some h
    simp at h2; subst h2
    refine ⟨rfl, rfl, rfl, fun t ht => ?_, fun t ht => ?_, fun d' hd => ?_⟩
    · simp at ht; subst ht
      rw [Tm.get_put, Nat.beq_refl]; rfl
    · rw [Tm.get_put]
      have : Nat.beq d t = false := by
        cases hb : Nat.beq d t with
        | false => rfl
        | true => exact absurd (by rw [Nat.eq_of_beq_eq_true hb]) ht
      rw [this]; rfl
    · simp at hd; subst hd; exact Nat.le_of_ble_eq_true h1
theorem put_some {st : St} {dst : Option Tmp} (v : AV) (H' : List ABlk) (h : ∀ d, dst = some d → d < st.n) : ∃ st', st.put dst v H' = some st' := by
  cases dst with
  | none => exact ⟨_, rfl⟩
  | some d =>
    have : Nat.ble (d + 1) st.n = true := Nat.ble_eq_true_of_le (h d rfl)
    refine ⟨⟨st.tm.put d v, H', st.n, st.defers⟩, ?_⟩
    show bc (Nat.ble (d + 1) st.n) (some (⟨st.tm.put d v, H', st.n, st.defers⟩ : St)) none = _
    rw [this]; rfl

section
variable {call : CallT} {ops : Array Oper} {S : Nat → St} {K : Nat → Kind} {W : Nat → Bool}

/-- What an operation of the text's run lays down. -/
theorem Fact.put {l : Nat} {o : Oper} (f : Fact E call ops S K W l o) : ∃ v H', (S l).put o.dst v H' = some (S (l + 1)) ∧
    ((W l = true ∧ kindOf E (S l).tm (S l).heap o = some (K l) ∧ valOf E call (ev E (S l).tm) (S l).heap o.op = some (v, H')) ∨ (W l = false ∧ K l = .plain ∧ v = undefA ∧ H' = (S l).heap)) := by
  have hs := f.step
  have hk := f.kind
  unfold stepA at hs
  rw [f.want] at hs
  cases hw : W l with
  | true =>
    simp only [hw, ob_some, bc_true] at hs hk
    have hnd : ∀ c, o.op ≠ .defer c := by
      intro c hc
      simp [kindOf, hc] at hk
    obtain ⟨v, H', h1, h2⟩ := stepW_val hs hnd
    exact ⟨v, H', h2, .inl ⟨rfl, hk, h1⟩⟩
  | false =>
    simp only [hw, ob_some, bc_false, Option.some.injEq] at hs hk
    obtain ⟨st1, h1, h2⟩ := ob_some_iff hs
    simp at h2; subst h2
    exact ⟨undefA, _, h1, .inr ⟨rfl, hk.symm, rfl, rfl⟩⟩
theorem op_at {l : Nat} (h : l < ops.size) : ∃ o, ops[l]? = some o := ⟨ops[l], by simp [h]⟩
theorem isWrite_or (k : Kind) : (∃ fp, k = .write fp) ∨ ∀ fp, k ≠ .write fp := by cases k <;> simp
/-- Only writes change the small heap. -/
theorem heap_step (facts : ∀ (l : Nat) (o : Oper), ops[l]? = some o → Fact E call ops S K W l o) {l : Nat} (h : l < ops.size) (hk : ∀ fp, K l ≠ .write fp) : (S (l + 1)).heap = (S l).heap := by
  obtain ⟨o, ho⟩ := op_at h
  obtain ⟨v, H', h1, h2⟩ := (facts l o ho).put
  rw [(put_facts h1).1]
  rcases h2 with ⟨_, h3, h4⟩ | ⟨_, _, _, h3⟩
  · cases hK : K l with
    | plain => rw [hK] at h3; exact (kind_plain h3 h4).1
    | read fp => rw [hK] at h3; exact (kind_read h3 h4).1
    | write fp => exact absurd hK (hk fp)
  · exact h3
theorem heap_between (facts : ∀ (l : Nat) (o : Oper), ops[l]? = some o → Fact E call ops S K W l o) : ∀ (n a : Nat), a + n ≤ ops.size → (∀ j, a ≤ j → j < a + n → ∀ fp, K j ≠ .write fp) → (S (a + n)).heap = (S a).heap
  | 0, a, _, _ => rfl
  | n + 1, a, h, hk => by
    rw [← Nat.add_assoc, heap_step facts (by omega) (hk _ (by omega) (by omega)), heap_between facts n a (by omega) fun j h1 h2 => hk j h1 (by omega)]
theorem len_step (facts : ∀ (l : Nat) (o : Oper), ops[l]? = some o → Fact E call ops S K W l o) {l : Nat} (h : l < ops.size) : (S l).heap.length ≤ (S (l + 1)).heap.length := by
  rcases isWrite_or (K l) with ⟨fp, hk⟩ | hk
  · obtain ⟨o, ho⟩ := op_at h
    obtain ⟨v, H', h1, h2⟩ := (facts l o ho).put
    rw [(put_facts h1).1]
    rcases h2 with ⟨_, h3, h4⟩ | ⟨_, h3, _, _⟩
    · rw [hk] at h3; exact (kind_write h3 h4).1
    · rw [hk] at h3; simp at h3
  · rw [heap_step facts h hk]; exact Nat.le_refl _
theorem same_between (facts : ∀ (l : Nat) (o : Oper), ops[l]? = some o → Fact E call ops S K W l o) {x : Span} (hx : x.ok) : ∀ (n a : Nat), a + n ≤ ops.size → x.1 < (S a).heap.length → (∀ j, a ≤ j → j < a + n → ∀ fp, K j = .write fp → ∀ y ∈ fp, apart1 y x = true) → SameAt x (S a).heap (S (a + n)).heap ∧ x.1 < (S (a + n)).heap.length
  | 0, a, _, hl, _ => ⟨.refl hl, hl⟩
  | n + 1, a, h, hl, hk => by
    obtain ⟨h1, h2⟩ := same_between facts hx n a (by omega) hl fun j q1 q2 => hk j q1 (by omega)
    have hlt : a + n < ops.size := by omega
    rw [← Nat.add_assoc]
    refine ⟨h1.trans ?_, Nat.lt_of_lt_of_le h2 (len_step facts hlt)⟩
    rcases isWrite_or (K (a + n)) with ⟨fp, hK⟩ | hK
    · obtain ⟨o, ho⟩ := op_at hlt
      obtain ⟨v, H', h3, h4⟩ := (facts _ o ho).put
      rw [(put_facts h3).1]
      rcases h4 with ⟨_, h5, h6⟩ | ⟨_, h5, _, _⟩
      · rw [hK] at h5; exact (kind_write h5 h6).2 x hx h2 (hk _ (by omega) (by omega) fp hK)
      · rw [hK] at h5; simp at h5
    · rw [heap_step facts hlt hK]; exact .refl h2
theorem tm_between (facts : ∀ (l : Nat) (o : Oper), ops[l]? = some o → Fact E call ops S K W l o) {t : Tmp} : ∀ (n a : Nat), a + n ≤ ops.size → (∀ j, a ≤ j → j < a + n → ∀ o, ops[j]? = some o → o.dst ≠ some t) → (S (a + n)).tm.get t = (S a).tm.get t
  | 0, a, _, _ => rfl
  | n + 1, a, h, hk => by
    have hlt : a + n < ops.size := by omega
    obtain ⟨o, ho⟩ := op_at hlt
    obtain ⟨v, H', h1, _⟩ := (facts _ o ho).put
    rw [← Nat.add_assoc, (put_facts h1).2.2.2.2.1 t (hk _ (by omega) (by omega) o ho), tm_between facts n a (by omega) fun j q1 q2 => hk j q1 (by omega)]
theorem rest_same (facts : ∀ (l : Nat) (o : Oper), ops[l]? = some o → Fact E call ops S K W l o) : ∀ n, n ≤ ops.size → (S n).n = (S 0).n ∧ (S n).defers = (S 0).defers
  | 0, _ => ⟨rfl, rfl⟩
  | n + 1, h => by
    obtain ⟨o, ho⟩ := op_at (show n < ops.size by omega)
    obtain ⟨v, H', h1, _⟩ := (facts _ o ho).put
    obtain ⟨k1, k2⟩ := rest_same facts n (by omega)
    exact ⟨(put_facts h1).2.1.trans k1, (put_facts h1).2.2.1.trans k2⟩

/-- Where an order stands that has done what is listed. -/
structure At (ops : Array Oper) (S : Nat → St) (K : Nat → Kind) (listed : Array Bool) (s : St) : Prop where
  size : listed.size = ops.size
  closed : Closed ops listed
  heap : ∃ k, k ≤ ops.size ∧ (∀ j fp, j < ops.size → K j = .write fp → (listed.getD j false = true ↔ j < k)) ∧ s.heap = (S k).heap
  tm : ∀ t, ∃ k, k ≤ ops.size ∧ (∀ j o, ops[j]? = some o → o.dst = some t → (listed.getD j false = true ↔ j < k)) ∧ s.tm.get t = (S k).tm.get t
  n : s.n = (S 0).n
  defers : s.defers = (S 0).defers

theorem heap_pick (facts : ∀ (l : Nat) (o : Oper), ops[l]? = some o → Fact E call ops S K W l o) {listed : Array Bool} {a b : Nat} (ha : a ≤ ops.size) (hb : b ≤ ops.size) (h1 : ∀ j fp, j < ops.size → K j = .write fp → (listed.getD j false = true ↔ j < a)) (h2 : ∀ j fp, j < ops.size → K j = .write fp → (listed.getD j false = true ↔ j < b)) :
    (S a).heap = (S b).heap := by
  rcases Nat.le_total a b with h | h
  · have := heap_between facts (b - a) a (by omega) fun j q1 q2 fp hk => by
      have i1 := h1 j fp (by omega) hk
      have i2 := h2 j fp (by omega) hk
      have : j < a := i1.1 (i2.2 (by omega))
      omega
    rw [show a + (b - a) = b by omega] at this
    exact this.symm
  · have := heap_between facts (a - b) b (by omega) fun j q1 q2 fp hk => by
      have i1 := h1 j fp (by omega) hk
      have i2 := h2 j fp (by omega) hk
      have : j < b := i2.1 (i1.2 (by omega))
      omega
    rw [show b + (a - b) = a by omega] at this
    exact this
theorem tm_pick (facts : ∀ (l : Nat) (o : Oper), ops[l]? = some o → Fact E call ops S K W l o) {listed : Array Bool} {t : Tmp} {a b : Nat} (ha : a ≤ ops.size) (hb : b ≤ ops.size) (h1 : ∀ j o, ops[j]? = some o → o.dst = some t → (listed.getD j false = true ↔ j < a)) (h2 : ∀ j o, ops[j]? = some o → o.dst = some t → (listed.getD j false = true ↔ j < b)) :
    (S a).tm.get t = (S b).tm.get t := by
  rcases Nat.le_total a b with h | h
  · have := tm_between facts (t := t) (b - a) a (by omega) fun j q1 q2 o ho hd => by
      have : j < a := (h1 j o ho hd).1 ((h2 j o ho hd).2 (by omega))
      omega
    rw [show a + (b - a) = b by omega] at this
    exact this.symm
  · have := tm_between facts (t := t) (a - b) b (by omega) fun j q1 q2 o ho hd => by
      have : j < b := (h2 j o ho hd).1 ((h1 j o ho hd).2 (by omega))
      omega
    rw [show b + (a - b) = a by omega] at this
    exact this
end
end Go.Pm
namespace Go.Pm
open Go Go.MapKept

variable {E : Env} {G : Gh} {w : World} {N0 : Nat} {F : Nat → Prop}

theorem okPair_symm : ∀ a b : Kind, okPair a b = okPair b a := by
  have key : ∀ a b : List Span, apartAll a b = apartAll b a := by
    intro a b
    unfold apartAll
    cases h : b.all fun x => a.all fun y => apart1 x y with
    | true =>
      rw [List.all_eq_true] at h ⊢
      intro x hx
      rw [List.all_eq_true]
      intro y hy
      have := List.all_eq_true.1 (h y hy) x hx
      rwa [apart1_symm] at this
    | false =>
      rw [Bool.eq_false_iff] at h ⊢
      intro hh
      apply h
      rw [List.all_eq_true] at hh ⊢
      intro x hx
      rw [List.all_eq_true]
      intro y hy
      have := List.all_eq_true.1 (hh y hy) x hx
      rwa [apart1_symm] at this
  intro a b
  cases a <;> cases b <;> simp only [okPair] <;> exact key _ _
theorem apartAll_spec {a b : List Span} (h : apartAll a b = true) {x y : Span} (hx : x ∈ a) (hy : y ∈ b) : apart1 x y = true :=
  List.all_eq_true.1 (List.all_eq_true.1 h x hx) y hy

section
variable {call : CallT} {ops : Array Oper} {S : Nat → St} {K : Nat → Kind} {W : Nat → Bool}

/-- Two that may not change places: the one is done when the other is. -/
theorem order_of {listed : Array Bool} (hA : Closed ops listed) {i : Nat} {oi : Oper} (hi : ops[i]? = some oi) (hun : listed.getD i false ≠ true) (hedge : ∀ e ∈ oi.after, Region.binds .any e = true → listed.getD e.on false = true)
    {j : Nat} (hj : (j < i → (ancs ops i).testBit j = true) ∧ (i < j → (ancs ops j).testBit i = true)) : listed.getD j false = true ↔ j < i := by
  refine ⟨fun hl => ?_, fun hlt => anc_in hA i j oi hi hedge (hj.1 hlt)⟩
  rcases Nat.lt_trichotomy j i with h | h | h
  · exact h
  · subst h; exact absurd hl hun
  · exact absurd (anc_in' hA hl (hj.2 h)) hun

theorem tm_agree (facts : ∀ (l : Nat) (o : Oper), ops[l]? = some o → Fact E call ops S K W l o) (temps : tempsOk ops = true) {listed : Array Bool} {s : St} (hA : At ops S K listed s) {i : Nat} {oi : Oper} (hi : ops[i]? = some oi) (hun : listed.getD i false ≠ true) (hedge : ∀ e ∈ oi.after, Region.binds .any e = true → listed.getD e.on false = true)
    {t : Tmp} (ht : t ∈ oi.looksAt ops) : s.tm.get t = (S i).tm.get t := by
  have hlt : i < ops.size := (Array.getElem?_eq_some_iff.1 hi).1
  obtain ⟨k, hk, h1, h2⟩ := hA.tm t
  rw [h2]
  refine tm_pick facts (listed := listed) hk (by omega) h1 fun j o ho hd => order_of hA.closed hi hun hedge ⟨fun hji => ?_, fun hij => ?_⟩
  · rcases (temps_spec temps i oi hi).2 j o hji ho with h | h
    · exact h
    · exact absurd ht ((Oper.apart_spec h).1 t hd)
  · rcases (temps_spec temps j o ho).2 i oi hij hi with h | h
    · exact h
    · exact absurd ht ((Oper.apart_spec h).2.2 t hd)
theorem ev_agree (facts : ∀ (l : Nat) (o : Oper), ops[l]? = some o → Fact E call ops S K W l o) (temps : tempsOk ops = true) {listed : Array Bool} {s : St} (hA : At ops S K listed s) {i : Nat} {oi : Oper} (hi : ops[i]? = some oi) (hun : listed.getD i false ≠ true) (hedge : ∀ e ∈ oi.after, Region.binds .any e = true → listed.getD e.on false = true) :
    ∀ x ∈ oi.op.operands, ev E (S i).tm x = ev E s.tm x := by
  intro x hx
  cases x with
  | tmp t =>
    show (S i).tm.get t = s.tm.get t
    refine (tm_agree facts temps hA hi hun hedge ?_).symm
    exact List.mem_append_left _ (List.mem_filterMap.2 ⟨.tmp t, by simpa using hx, rfl⟩)
  | _ => rfl
theorem wanted_agree (facts : ∀ (l : Nat) (o : Oper), ops[l]? = some o → Fact E call ops S K W l o) (temps : tempsOk ops = true) {listed : Array Bool} {s : St} (hA : At ops S K listed s) {i : Nat} {oi : Oper} (hi : ops[i]? = some oi) (hun : listed.getD i false ≠ true) (hedge : ∀ e ∈ oi.after, Region.binds .any e = true → listed.getD e.on false = true) :
    wantedA ops s.tm oi = wantedA ops (S i).tm oi := by
  unfold wantedA
  cases hg : oi.guard with
  | none => rfl
  | some g =>
    obtain ⟨j, want⟩ := g
    show wantedG ops s.tm j want = wantedG ops (S i).tm j want
    unfold wantedG
    rw [nth_eq]
    cases hp : ops.toList[j]? with
    | none => rfl
    | some p =>
      simp only
      cases hd : p.dst with
      | none => rfl
      | some d =>
        simp only
        rw [tm_agree facts temps hA hi hun hedge (t := d)]
        refine List.mem_append_right _ ?_
        have hp' : ops[j]? = some p := by simpa using hp
        simp [hg, hp', hd]

/-- Anywhere that its edges let it, an operation lays down what it does in the text's order. -/
theorem step_any (facts : ∀ (l : Nat) (o : Oper), ops[l]? = some o → Fact E call ops S K W l o) (temps : tempsOk ops = true) (hE : EnvOk E) {listed : Array Bool} {s : St} {a : Act} (hA : At ops S K listed s) (hst : StRel E N0 F G w s a) {i : Nat} (hr : i ∈ Region.ready .any ops listed) :
    ∃ o s', ops[i]? = some o ∧ stepA E call ops o s = some (.normal, s') ∧ At ops S K (listed.setIfInBounds i true) s' := by
  obtain ⟨hun0, oi, hi, hedge⟩ := mem_ready.1 hr
  have hlt : i < ops.size := (Array.getElem?_eq_some_iff.1 hi).1
  have hsz : i < listed.size := by rw [hA.size]; exact hlt
  have hun : listed.getD i false ≠ true := by
    simp [hsz] at hun0 ⊢; simp [hun0]
  obtain ⟨v, H', hput, hcase⟩ := (facts i oi hi).put
  obtain ⟨p1, p2, p3, p4, p5, p6⟩ := put_facts hput
  obtain ⟨rn, rd⟩ := rest_same facts i (by omega)
  have hroom : ∀ d, oi.dst = some d → d < s.n := by
    intro d hd; rw [hA.n, ← rn]; exact p6 d hd
  have hwant := wanted_agree facts temps hA hi hun hedge
  rw [(facts i oi hi).want] at hwant
  have hev := ev_agree facts temps hA hi hun hedge
  obtain ⟨k0, hk0, hw0, hheap⟩ := hA.heap
  -- what it lays down here
  have main : ∃ Hn, stepA E call ops oi s = goOn (s.put oi.dst v Hn) ∧ ((∀ fp, K i ≠ .write fp) ∧ Hn = s.heap ∨ (∃ fp, K i = .write fp) ∧ Hn = H') := by
    rcases hcase with ⟨hW, hkind, hval⟩ | ⟨hW, hkind, hv, hH⟩
    · have fin : ∀ Hn, valOf E call (ev E (S i).tm) s.heap oi.op = some (v, Hn) → stepA E call ops oi s = goOn (s.put oi.dst v Hn) := by
        intro Hn hvn
        rw [valOf_congr hev] at hvn
        obtain ⟨s', hs'⟩ := put_some v Hn hroom
        unfold stepA
        rw [hwant, hW]
        simp only [ob_some]
        rw [val_stepW hvn hs', hs']; rfl
      cases hK : K i with
      | plain =>
        rw [hK] at hkind
        exact ⟨s.heap, fin _ ((kind_plain hkind hval).2 s.heap), .inl ⟨by simp, rfl⟩⟩
      | write fp =>
        have : (S k0).heap = (S i).heap := by
          refine heap_pick facts (listed := listed) hk0 (by omega) hw0 fun j fp' hj hKj => order_of hA.closed hi hun hedge ⟨fun hji => ?_, fun hij => ?_⟩
          · rcases (facts i oi hi).free j hji with h | h
            · exact h
            · rw [hKj, hK] at h; simp [okPair] at h
          · obtain ⟨oj, hoj⟩ := op_at (ops := ops) hj
            rcases (facts j oj hoj).free i hij with h | h
            · exact h
            · rw [hKj, hK] at h; simp [okPair] at h
        refine ⟨H', fin _ ?_, .inr ⟨⟨fp, rfl⟩, rfl⟩⟩
        rw [hheap, this]; exact hval
      | read fp =>
        rw [hK] at hkind
        obtain ⟨_, hval1, hval2⟩ := kind_read hkind hval
        refine ⟨s.heap, fin _ (hval2 s.heap fun x hx => ?_), .inl ⟨by simp, rfl⟩⟩
        obtain ⟨hxl, hxok, hxn⟩ := hval1 x hx
        -- the writes between stand apart from it
        have apartW : ∀ j fp', j < ops.size → K j = .write fp' → (¬ (listed.getD j false = true ↔ j < i)) → ∀ y ∈ fp', apart1 y x = true := by
          intro j fp' hj hKj hne y hy
          obtain ⟨oj, hoj⟩ := op_at (ops := ops) hj
          have : ¬ ((j < i → (ancs ops i).testBit j = true) ∧ (i < j → (ancs ops j).testBit i = true)) := fun h => hne (order_of hA.closed hi hun hedge h)
          rcases Nat.lt_trichotomy j i with h | h | h
          · rcases (facts i oi hi).free j h with h' | h'
            · exact absurd ⟨fun _ => h', fun hh => by omega⟩ this
            · rw [hKj, hK] at h'
              exact apartAll_spec h' hy hx
          · subst h; rw [hK] at hKj; simp at hKj
          · rcases (facts j oj hoj).free i h with h' | h'
            · exact absurd ⟨fun hh => by omega, fun _ => h'⟩ this
            · rw [hKj, hK] at h'
              rw [apart1_symm]
              exact apartAll_spec h' hx hy
        rw [hheap]
        rcases Nat.le_total k0 i with hle | hle
        · have hval' : x.1 < (S k0).heap.length := by
            rw [← hheap, ← hst.heap.len]
            obtain ⟨z, hz, hz2⟩ := hxn
            rw [hev z hz] at hz2
            rcases hz2 with ⟨off, h⟩ | h | ⟨off, n, h⟩
            · exact (ev_sound hE hst h).1
            · exact (ev_sound hE hst h).1
            · exact (ev_sound hE hst h).1
          have := (same_between facts hxok (i - k0) k0 (by omega) hval' fun j q1 q2 fp' hKj => apartW j fp' (by omega) hKj fun hh => by
            have := (hw0 j fp' (by omega) hKj).1 (hh.2 (by omega))
            omega).1
          rw [show k0 + (i - k0) = i by omega] at this
          exact this.symm
        · have := (same_between facts hxok (k0 - i) i (by omega) hxl fun j q1 q2 fp' hKj => apartW j fp' (by omega) hKj fun hh => by
            have := hh.1 ((hw0 j fp' (by omega) hKj).2 (by omega))
            omega).1
          rw [show i + (k0 - i) = k0 by omega] at this
          exact this
    · refine ⟨s.heap, ?_, .inl ⟨by simp [hkind], rfl⟩⟩
      unfold stepA
      rw [hwant, hW, hv]
      rfl
  obtain ⟨Hn, hstep, hn⟩ := main
  obtain ⟨s', hs'⟩ := put_some v Hn hroom
  obtain ⟨q1, q2, q3, q4, q5, _⟩ := put_facts hs'
  refine ⟨oi, s', hi, by rw [hstep, hs']; rfl, ?_⟩
  have hset : ∀ j, j ≠ i → (listed.setIfInBounds i true).getD j false = listed.getD j false := fun j hj => getD_set_ne false (Ne.symm hj)
  have hseti : (listed.setIfInBounds i true).getD i false = true := by simp [hsz]
  refine ⟨by simp [hA.size], ?_, ?_, ?_, q2.trans hA.n, q3.trans hA.defers⟩
  · intro l o ho hl e he hb
    by_cases hli : l = i
    · subst hli
      rw [hi] at ho; simp at ho; subst ho
      exact getD_set_true (hedge e he hb)
    · rw [hset l hli] at hl
      exact getD_set_true (hA.closed l o ho hl e he hb)
  · rcases hn with ⟨hnw, hHn⟩ | ⟨⟨fp, hw⟩, hHn⟩
    · refine ⟨k0, hk0, fun j fp hj hKj => ?_, by rw [q1, hHn]; exact hheap⟩
      have hji : j ≠ i := by rintro rfl; exact hnw fp hKj
      rw [hset j hji]
      exact hw0 j fp hj hKj
    · refine ⟨i + 1, by omega, fun j fp' hj hKj => ?_, by rw [q1, hHn, p1]⟩
      by_cases hji : j = i
      · subst hji; simp [hsz]
      · rw [hset j hji]
        refine (order_of hA.closed hi hun hedge ⟨fun h => ?_, fun h => ?_⟩).trans (by omega)
        · rcases (facts i oi hi).free j h with h' | h'
          · exact h'
          · rw [hKj, hw] at h'; simp [okPair] at h'
        · obtain ⟨oj, hoj⟩ := op_at (ops := ops) hj
          rcases (facts j oj hoj).free i h with h' | h'
          · exact h'
          · rw [hKj, hw] at h'; simp [okPair] at h'
  · intro t
    by_cases hd : oi.dst = some t
    · refine ⟨i + 1, by omega, fun j o ho hdj => ?_, by rw [q4 t hd, p4 t hd]⟩
      by_cases hji : j = i
      · subst hji; simp [hsz]
      · rw [hset j hji]
        refine (order_of hA.closed hi hun hedge ⟨fun h => ?_, fun h => ?_⟩).trans (by omega)
        · rcases (temps_spec temps i oi hi).2 j o h ho with h' | h'
          · exact h'
          · exact absurd hd ((Oper.apart_spec h').2.1 t hdj)
        · rcases (temps_spec temps j o ho).2 i oi h hi with h' | h'
          · exact h'
          · exact absurd hdj ((Oper.apart_spec h').2.1 t hd)
    · obtain ⟨k, hk, h1, h2⟩ := hA.tm t
      refine ⟨k, hk, fun j o ho hdj => ?_, by rw [q5 t hd]; exact h2⟩
      have hji : j ≠ i := by
        rintro rfl
        rw [hi] at ho; simp at ho; subst ho
        exact hd hdj
      rw [hset j hji]
      exact h1 j o ho hdj

/-- When nothing is left to do, everything is done. -/
theorem all_listed (temps : tempsOk ops = true) {listed : Array Bool} {s : St} (hA : At ops S K listed s) (hr : Region.ready .any ops listed = []) : ∀ l, l < ops.size → listed.getD l false = true := by
  intro l
  induction l using Nat.strongRecOn with
  | _ l ih =>
    intro hl
    obtain ⟨o, ho⟩ := op_at (ops := ops) hl
    cases hd : listed.getD l false with
    | true => rfl
    | false =>
      have hsz : l < listed.size := by rw [hA.size]; exact hl
      have : l ∈ Region.ready .any ops listed := mem_ready.2 ⟨by simp [hsz] at hd ⊢; exact hd, o, ho, fun e he hb => ih e.on ((temps_spec temps l o ho).1 e he hb) (Nat.lt_trans ((temps_spec temps l o ho).1 e he hb) hl)⟩
      rw [hr] at this; cases this
theorem at_end (facts : ∀ (l : Nat) (o : Oper), ops[l]? = some o → Fact E call ops S K W l o) {listed : Array Bool} {s : St} {a : Act} (hA : At ops S K listed s) (hst : StRel E N0 F G w s a) (hall : ∀ l, l < ops.size → listed.getD l false = true) : StRel E N0 F G w (S ops.size) a := by
  obtain ⟨rn, rd⟩ := rest_same facts ops.size (Nat.le_refl _)
  obtain ⟨k, hk, h1, h2⟩ := hA.heap
  have hh : s.heap = (S ops.size).heap := by
    rw [h2]
    exact heap_pick facts (listed := listed) hk (Nat.le_refl _) h1 fun j fp hj hKj => ⟨fun _ => hj, fun _ => hall j hj⟩
  have ht : ∀ t, s.tm.get t = (S ops.size).tm.get t := by
    intro t
    obtain ⟨k, hk, h1, h2⟩ := hA.tm t
    rw [h2]
    exact tm_pick facts (listed := listed) hk (Nat.le_refl _) h1 fun j o ho hd => by
      have hj := (Array.getElem?_eq_some_iff.1 ho).1
      exact ⟨fun _ => hj, fun _ => hall j hj⟩
  exact ⟨hh ▸ hst.heap, fun t v hv => hst.tm t v (by rw [ht t]; exact hv), by rw [rn, ← hA.n]; exact hst.n, by rw [rd, ← hA.defers]; exact hst.defers, hst.glob⟩

theorem count_lt {p q : Nat → Bool} : ∀ {l : List Nat} {i : Nat}, i ∈ l → p i = true → q i = false → (∀ j, q j = true → p j = true) → (l.filter q).length < (l.filter p).length
  | x :: l, i, hi, hp, hq, h => by
    have mono : (l.filter q).length ≤ (l.filter p).length := by
      clear hi
      induction l with
      | nil => simp
      | cons y l ih =>
        simp only [List.filter_cons]
        cases hqy : q y with
        | true => simp [h y hqy]; exact ih
        | false => cases hpy : p y <;> simp <;> omega
    cases hi with
    | head => simp [hp, hq]; omega
    | tail _ hi =>
      have := count_lt hi hp hq h
      simp only [List.filter_cons]
      cases hqy : q x with
      | true => simp [h x hqy]; exact this
      | false => cases hpy : p x <;> simp <;> omega
noncomputable def todo (ops : Array Oper) (listed : Array Bool) : Nat := ((List.range ops.size).filter fun j => !listed.getD j false).length
theorem todo_zero {listed : Array Bool} (h : todo ops listed = 0) : ∀ l, l < ops.size → listed.getD l false = true := by
  intro l hl
  unfold todo at h
  have h := List.length_eq_zero_iff.1 h
  rw [List.filter_eq_nil_iff] at h
  have := h l (List.mem_range.2 hl)
  simpa using this
theorem draw_any (facts : ∀ (l : Nat) (o : Oper), ops[l]? = some o → Fact E call ops S K W l o) (temps : tempsOk ops = true) (hE : EnvOk E) (hg : Good E call) {Q : Exit → Act → World → Prop} : ∀ (n : Nat) {listed : Array Bool} {s : St} {G : Gh} {w : World} {a : Act}, todo ops listed ≤ n → At ops S K listed s → StRel E N0 F G w s a →
    (∀ e a' w', Left E N0 F G.n G w .normal (S ops.size) e a' w' → Q e a' w') → wpAny E.P .any ops Q n listed a w
  | 0, listed, s, G, w, a, hn, hA, hst, hQ => by
    have hall := todo_zero (ops := ops) (listed := listed) (by omega)
    refine ⟨?_, hQ _ _ _ ⟨G, at_end facts hA hst hall, Step.refl _ _, Keep.refl (Nat.le_refl _), trivial⟩⟩
    rw [List.eq_nil_iff_forall_not_mem]
    intro i hi
    obtain ⟨h1, o, ho, _⟩ := mem_ready.1 hi
    have hlt := (Array.getElem?_eq_some_iff.1 ho).1
    have := hall i hlt
    have hsz : i < listed.size := by rw [hA.size]; exact hlt
    simp [hsz] at h1 this
    rw [h1] at this; simp at this
  | n + 1, listed, s, G, w, a, hn, hA, hst, hQ => by
    refine ⟨fun hr => hQ _ _ _ ⟨G, at_end facts hA hst (all_listed temps hA hr), Step.refl _ _, Keep.refl (Nat.le_refl _), trivial⟩, fun i hi => ?_⟩
    obtain ⟨o, s', ho, hs, hA'⟩ := step_any facts temps hE hA hst hi
    have hlt := (Array.getElem?_eq_some_iff.1 ho).1
    have hsz : i < listed.size := by rw [hA.size]; exact hlt
    have hun : listed.getD i false = false := by
      have := (mem_ready.1 hi).1
      simp [hsz] at this ⊢; exact this
    have hless : todo ops (listed.setIfInBounds i true) ≤ n := by
      have : todo ops (listed.setIfInBounds i true) < todo ops listed := by
        unfold todo
        refine count_lt (List.mem_range.2 hlt) (by rw [hun]; rfl) (by simp [hsz]) fun j hj => ?_
        cases hl : listed.getD j false with
        | false => rfl
        | true =>
          rw [getD_set_true hl] at hj
          exact hj
      omega
    refine stepA_sound hE hg ho hst hs (fun _ G' w' a' k1 k2 k3 => ?_) (fun v he => by simp at he)
    exact draw_any facts temps hE hg n hless hA' k1 fun e a2 w2 hl => hQ e a2 w2 ((hl.weaken k3.n).before k2 (k3.keep (Nat.le_refl _)))
end

theorem draw_sound (hE : EnvOk E) : DrawSound E := by
  intro call hg ops temps st ex st' hr N0 F G w a hst Q hQ
  obtain ⟨rfl, S, K, W, h1, h2, _, facts⟩ := runDraw_trace (call := call) (ops := ops) ops.size 0 [] st st' ex (fun _ => .plain) (by omega) (by simpa [ancL] using hr) (fun j hj => by omega)
  have facts : ∀ (l : Nat) (o : Oper), ops[l]? = some o → Fact E call ops S K W l o := fun l o ho => facts l o (by omega) ho
  have hnone : ∀ j, (Array.replicate ops.size false).getD j false = false := by
    intro j
    by_cases hj : j < ops.size <;> simp [hj]
  refine draw_any facts temps hE hg ops.size (s := st) ?_ ?_ hst ?_
  · unfold todo
    exact Nat.le_trans (List.length_filter_le _ _) (by simp)
  · refine ⟨by simp, ?_, ⟨0, by omega, fun j fp hj hKj => ?_, by rw [h1]⟩, fun t => ⟨0, by omega, fun j o ho hd => ?_, by rw [h1]⟩, by rw [h1], by rw [h1]⟩
    · intro l o ho hl
      rw [hnone] at hl; simp at hl
    · rw [hnone]; simp
    · rw [hnone]; simp
  · rw [h2]; exact hQ
end Go.Pm
namespace Go.Pm
open Go

noncomputable def Tree.mapK {α β : Type} (f : Nat → α → β) (T : Tree α) : Tree β := Tree.rec .leaf (fun k v _ _ l r => .node k (f k v) l r) T
theorem Tree.find_mapK {α β : Type} (f : Nat → α → β) : ∀ (T : Tree α) (t : Nat) (i : α), T.find t = some i → (T.mapK f).find t = some (f t i)
  | .leaf, t, i, h => by
    have h : (none : Option α) = some i := h
    simp at h
  | .node k v l r, t, i, h => by
    have h : (Bool.rec (Bool.rec (l.find t) (r.find t) (Nat.ble k t)) (some v) (Nat.beq k t) : Option α) = some i := h
    show (Bool.rec (Bool.rec ((l.mapK f).find t) ((r.mapK f).find t) (Nat.ble k t)) (some (f k v)) (Nat.beq k t) : Option β) = some (f t i)
    cases hb : Nat.beq k t with
    | true =>
      rw [hb] at h
      simp at h; subst h
      have := Nat.eq_of_beq_eq_true hb
      subst this; rfl
    | false =>
      rw [hb] at h
      cases hc : Nat.ble k t with
      | true => rw [hc] at h; exact Tree.find_mapK f r t i h
      | false => rw [hc] at h; exact Tree.find_mapK f l t i h
theorem Tree.find_same {α β : Type} {f g : Nat → α → β} {T : Tree α} (h : T.mapK f = T.mapK g) {t : Nat} {i : α} (ht : T.find t = some i) : f t i = g t i := by
  have h1 := Tree.find_mapK f T t i ht
  have h2 := Tree.find_mapK g T t i ht
  rw [h, h2] at h1
  simpa using h1.symm
end Go.Pm
