/-
Code of the plain machine is the model's: operations one behind the other, branches, loops, whole functions. What is known of regions that draw their order is a premise here (`DrawSound`); the next text shows it.
Whole functions: their results, what they deferred, calls to any depth.
-/
import Derived.Test.YtpgdfpcihamldaaGreatDoorK07
namespace Go.Pm
open Go Go.MapKept

variable {E : Env} {G : Gh} {w : World} {N0 : Nat} {F : Nat → Prop}

def ExRel (G : Gh) (w : World) : Ex → Exit → Prop
  | .normal, .normal => True
  | .exit i, .exit j => i = j
  | .ret, .ret => True
  | .panic v, .panic chain => ∃ V, chain = [{ v := V, recovered := false }] ∧ Rel G w v V
  | _, _ => False
/-- What a piece of code leaves. -/
def Left (E : Env) (N0 : Nat) (F : Nat → Prop) (n0 : Nat) (G : Gh) (w : World) (ex : Ex) (st' : St) (e : Exit) (a' : Act) (w' : World) : Prop :=
  ∃ G', StRel E N0 F G' w' st' a' ∧ Step N0 F G.m w G'.m w' ∧ Keep n0 G w G' w' ∧ ExRel G' w' ex e
theorem Left.before {n0 : Nat} {G1 : Gh} {w1 : World} {ex : Ex} {st' : St} {e : Exit} {a' : Act} {w' : World} (s : Step N0 F G.m w G1.m w1) (x : Keep n0 G w G1 w1) (h : Left E N0 F n0 G1 w1 ex st' e a' w') : Left E N0 F n0 G w ex st' e a' w' := by
  obtain ⟨G', h1, h2, h3, h4⟩ := h
  exact ⟨G', h1, s.trans h2, x.trans h3, h4⟩

theorem Left.weaken {n0 n1 : Nat} {ex : Ex} {st' : St} {e : Exit} {a' : Act} {w' : World} (hn : n0 ≤ n1) (h : Left E N0 F n1 G w ex st' e a' w') : Left E N0 F n0 G w ex st' e a' w' := by
  obtain ⟨G', h1, h2, h3, h4⟩ := h
  exact ⟨G', h1, h2, h3.mono hn, h4⟩
/-- Slots of a region that draws its order: who writes what another one looks at or writes stands bound to it, and edges lead back. -/
noncomputable def pairsOk (ops : Array Oper) (a : Nat) (o : Oper) : List Oper → Nat → Nat → Bool
  | p :: l, j, n + 1 => bc (a.testBit j || p.apart ops o) (pairsOk ops a o l (j + 1) n) false
  | _, _, _ => true
noncomputable def edgesOk (o : Oper) (i : Nat) : Bool := o.after.toList.all fun e => !(Region.binds .any e) || Nat.ble (e.on + 1) i
noncomputable def tempsGo (ops : Array Oper) : List Oper → Nat → List Nat → Bool
  | [], _, _ => true
  | o :: l, i, anc => bc (edgesOk o i && pairsOk ops (ancOf anc o) o ops.toList 0 i) (tempsGo ops l (i + 1) (anc ++ [ancOf anc o])) false
noncomputable def tempsOk (ops : Array Oper) : Bool := tempsGo ops ops.toList 0 []
noncomputable def codeOk (c : Code) : Bool :=
  Code.rec (motive := fun _ => Bool) true (fun _ ops draw => bc draw (tempsOk ops) true) (fun _ _ a b => a && b) (fun _ _ _ a b => a && b) (fun _ _ a => a) (fun _ a => a) (fun _ _ _ _ _ _ => true) (fun _ => true) (fun _ _ => true) (fun _ => true) (fun _ => true) true (fun _ => true) c

def DrawSound (E : Env) : Prop := ∀ call, Good E call → ∀ ops, tempsOk ops = true → ∀ st ex st', runDraw E call ops ops.toList 0 [] [] st = some (ex, st') → ∀ N0 F G w a, StRel E N0 F G w st a → ∀ Q : Exit → Act → World → Prop,
  (∀ e a' w', Left E N0 F G.n G w ex st' e a' w' → Q e a' w') → wpAny E.P .any ops Q ops.size (Array.replicate ops.size false) a w

theorem runOps_sound (hE : EnvOk E) {call : CallT} (hg : Good E call) {ops : Array Oper} {Q : Exit → Act → World → Prop} : ∀ (n i : Nat) {st st' : St} {ex : Ex} {G : Gh} {w : World} {a : Act}, i + n = ops.size → runOps E call ops (ops.toList.drop i) st = some (ex, st') →
    StRel E N0 F G w st a → (∀ e a' w', Left E N0 F G.n G w ex st' e a' w' → Q e a' w') → wpOps E.P ops Q (List.range' i n) a w
  | 0, i, st, st', ex, G, w, a, hi, hr, h, hQ => by
    have : ops.toList.drop i = [] := List.drop_eq_nil_of_le (by simp; omega)
    rw [this] at hr
    have hr : some (Ex.normal, st) = some (ex, st') := hr
    simp at hr
    obtain ⟨rfl, rfl⟩ := hr
    exact hQ _ _ _ ⟨G, h, Step.refl _ _, Keep.refl (Nat.le_refl _), trivial⟩
  | n + 1, i, st, st', ex, G, w, a, hi, hr, h, hQ => by
    have hlt : i < ops.size := by omega
    rw [List.drop_eq_getElem_cons (by simpa using hlt)] at hr
    have hr : thenA (stepA E call ops (ops.toList[i]'(by simpa using hlt)) st) (runOps E call ops (ops.toList.drop (i + 1))) = some (ex, st') := hr
    obtain ⟨e1, st1, h1, h2⟩ := thenA_some hr
    rw [List.range'_succ, wpOps_cons]
    have ho : ops[i]? = some (ops.toList[i]'(by simpa using hlt)) := by simp [hlt]
    refine stepA_sound hE hg ho h h1 (fun he G' w' a' k1 k2 k3 => ?_) (fun v he G' w' a' V k1 k2 k3 k4 => ?_)
    · rcases h2 with ⟨_, h2⟩ | ⟨hne, _⟩
      · refine runOps_sound hE hg n (i + 1) (by omega) h2 k1 fun e a2 w2 hl => hQ e a2 w2 ?_
        obtain ⟨G2, q1, q2, q3, q4⟩ := hl
        exact ⟨G2, q1, k2.trans q2, (k3.keep (Nat.le_refl _)).trans (q3.mono k3.n), q4⟩
      · exact absurd he hne
    · rcases h2 with ⟨hn, _⟩ | ⟨_, rfl, rfl⟩
      · rw [hn] at he; simp at he
      · subst he
        exact hQ _ _ _ ⟨G', k1, k2, k3.keep (Nat.le_refl _), V, rfl, k4⟩

theorem StRel.drew {st : St} {a : Act} (h : StRel E N0 F G w st a) (n : Nat) : StRel E N0 F G { w with drawn := n } st a ∧ Step N0 F G.m w G.m { w with drawn := n } ∧ Ext G w G { w with drawn := n } := by
  have x : Ext G w G { w with drawn := n } := ⟨Nat.le_refl _, fun _ _ => rfl, fun _ _ => .inl rfl, fun _ => Nat.le_refl _, fun _ _ _ => rfl⟩
  obtain ⟨h1, h2⟩ := h.heap.zero x rfl (Nat.le_refl _) rfl rfl rfl h.heap.fresh (fun _ _ => rfl) (fun _ _ => ⟨rfl, rfl⟩)
  exact ⟨⟨h1, h.tm.ext x, h.n, h.defers.ext x, h.glob.ext x⟩, h2, x⟩

theorem TRel.noReg {T : Tm} {tmps : Array Value} (h : TRel G w T tmps) : TRel G w ⟨T.mask, T.loc, []⟩ tmps := by
  have := h.trimmed T.loc.length
  simpa using this

theorem region_sound (hE : EnvOk E) (hD : DrawSound E) {call : CallT} (hg : Good E call) {id : Nat} {ops : Array Oper} {draw : Bool} (hok : codeOk (.region id ops draw) = true) {st st' : St} {ex : Ex} {a : Act} (hr : runRegion E call ops draw st = some (ex, st'))
    (h : StRel E N0 F G w st a) {Q : Exit → Act → World → Prop} (hQ : ∀ e a' w', Left E N0 F G.n G w ex st' e a' w' → Q e a' w') : (Code.region id ops draw).wp E.P Q a w := by
  have h0 : StRel E N0 F G w ⟨⟨st.tm.mask, st.tm.loc, []⟩, st.heap, st.n, st.defers⟩ a := ⟨h.heap, h.tm.noReg, h.n, h.defers, h.glob⟩
  cases draw with
  | false =>
    have hr : runOps E call ops ops.toList ⟨⟨st.tm.mask, st.tm.loc, []⟩, st.heap, st.n, st.defers⟩ = some (ex, st') := hr
    refine wp_region ?_
    have := runOps_sound hE hg (ops := ops) ops.size 0 (by omega) (by simpa using hr) h0 hQ
    rw [← List.range_eq_range'] at this
    exact this
  | true =>
    have hr : runDraw E call ops ops.toList 0 [] [] ⟨⟨st.tm.mask, st.tm.loc, []⟩, st.heap, st.n, st.defers⟩ = some (ex, st') := hr
    refine wp_region_any hE.mixed ?_
    obtain ⟨k1, k2, k3⟩ := h0.drew (w.drawn + 1)
    exact hD call hg ops hok _ ex st' hr N0 F G _ a k1 Q fun e a' w' hl => hQ e a' w' (hl.before k2 (k3.keep (Nat.le_refl _)))

abbrev CodeSound (E : Env) (call : CallT) (lf : Nat) (c : Code) : Prop := ∀ st ex st', runCode E call lf c st = some (ex, st') → ∀ N0 F G w a, StRel E N0 F G w st a → ∀ Q : Exit → Act → World → Prop,
  (∀ e a' w', Left E N0 F G.n G w ex st' e a' w' → Q e a' w') → c.wp E.P Q a w

theorem rounds_sound (hE : EnvOk E) {c : Code} {n0 h0 : Nat} {f : St → StR} (ih : ∀ st ex st', f st = some (ex, st') → ∀ N0 F G w a, StRel E N0 F G w st a → ∀ Q : Exit → Act → World → Prop,
    (∀ e a' w', Left E N0 F G.n G w ex st' e a' w' → Q e a' w') → c.wp E.P Q a w) {Q : Exit → Act → World → Prop} :
    ∀ (k : Nat) {st st' : St} {ex : Ex} {G : Gh} {w : World} {a : Act}, h0 ≤ G.n → loopN n0 h0 f k st = some (ex, st') → StRel E N0 F G w st a → (∀ e a' w', Left E N0 F h0 G w ex st' e a' w' → Q e a' w') → Code.rounds E.P c Q k a w
  | 0, st, st', ex, G, w, a, hn, hr, h, hQ => by
    have hr : (none : StR) = some (ex, st') := hr
    simp at hr
  | k + 1, st, st', ex, G, w, a, hn, hr, h, hQ => by
    have hr : thenA (f st) (fun st => ob (trim n0 h0 st) (loopN n0 h0 f k)) = some (ex, st') := hr
    obtain ⟨e1, st1, h1, h2⟩ := thenA_some hr
    rw [rounds_succ]
    refine ih st e1 st1 h1 N0 F G w a h _ fun e a' w' hl => ?_
    obtain ⟨G1, q1, q2, q3, q4⟩ := hl
    rcases h2 with ⟨rfl, h2⟩ | ⟨hne, rfl, rfl⟩
    · obtain ⟨st2, ht, h2⟩ := ob_some_iff h2
      obtain ⟨G2, t1, t2, t3⟩ := trim_sound hE q1 ht
      cases e with
      | normal =>
        simp only [Exit.then]
        refine rounds_sound hE ih k t2.n h2 t1 fun e2 a2 w2 hl2 => hQ e2 a2 w2 ?_
        refine hl2.before (G1 := G2) ?_ ((q3.mono hn).trans t2)
        rw [t3]; exact q2
      | _ => exact q4.elim
    · have : ∀ (K : Act → World → Prop), Q e a' w' → e ≠ .normal → Exit.then K Q e a' w' := by
        intro K hq hne; cases e <;> first | exact hq | exact absurd rfl hne
      refine this _ (hQ e a' w' ⟨G1, q1, q2, q3.mono hn, q4⟩) ?_
      intro he; subst he
      cases ex with
      | normal => exact hne rfl
      | _ => exact q4.elim

theorem runCode_sound (hE : EnvOk E) (hD : DrawSound E) {call : CallT} (hg : Good E call) (lf : Nat) : ∀ c : Code, codeOk c = true → CodeSound E call lf c := by
  intro c
  induction c with
  | skip =>
    intro _ st ex st' hr N0 F G w a h Q hQ
    have hr : some (Ex.normal, st) = some (ex, st') := hr
    simp at hr; obtain ⟨rfl, rfl⟩ := hr
    exact wp_skip (hQ _ _ _ ⟨G, h, Step.refl _ _, Keep.refl (Nat.le_refl _), trivial⟩)
  | region id ops draw =>
    intro hok st ex st' hr N0 F G w a h Q hQ
    exact region_sound hE hD hg hok hr h hQ
  | seq x y ihx ihy =>
    intro hok
    obtain ⟨hok1, hok2⟩ := Bool.and_eq_true_iff.1 (show (codeOk x && codeOk y) = true from hok)
    have ihx := ihx hok1
    have ihy := ihy hok2
    intro st ex st' hr N0 F G w a h Q hQ
    have hr : thenA (runCode E call lf x st) (runCode E call lf y) = some (ex, st') := hr
    obtain ⟨e1, st1, h1, h2⟩ := thenA_some hr
    refine wp_seq (ihx st e1 st1 h1 N0 F G w a h _ fun e a' w' hl => ?_)
    obtain ⟨G1, q1, q2, q3, q4⟩ := hl
    rcases h2 with ⟨rfl, h2⟩ | ⟨hne, rfl, rfl⟩
    · cases e with
      | normal =>
        simp only [Exit.then]
        refine ihy st1 ex st' h2 N0 F G1 w' a' q1 Q fun e2 a2 w2 hl2 => hQ e2 a2 w2 ?_
        obtain ⟨G2, p1, p2, p3, p4⟩ := hl2
        exact ⟨G2, p1, q2.trans p2, q3.trans (p3.mono q3.n), p4⟩
      | _ => exact q4.elim
    · have hq := hQ e a' w' ⟨G1, q1, q2, q3, q4⟩
      cases e with
      | normal =>
        cases ex with
        | normal => exact absurd rfl hne
        | _ => exact q4.elim
      | _ => exact hq
  | cond x thn els ih1 ih2 =>
    intro hok
    obtain ⟨hok1, hok2⟩ := Bool.and_eq_true_iff.1 (show (codeOk thn && codeOk els) = true from hok)
    have ih1 := ih1 hok1
    have ih2 := ih2 hok2
    intro st ex st' hr N0 F G w a h Q hQ
    have hr : runCond (ev E st.tm x) (runCode E call lf thn st) (runCode E call lf els st) = some (ex, st') := hr
    unfold runCond at hr
    split at hr
    · rename_i t hv
      have hb := ev_sound hE h hv
      have hb : a.eval x = .bool t := hb
      refine wp_cond hb ?_
      rw [bc_eq] at hr
      cases t with
      | true => exact ih1 st ex st' hr N0 F G w a h Q hQ
      | false => exact ih2 st ex st' hr N0 F G w a h Q hQ
    · simp at hr
  | block id body ih =>
    intro hok
    have ih := ih hok
    intro st ex st' hr N0 F G w a h Q hQ
    have hr : ob (runCode E call lf body st) (fun p => some (leaveA id p.1, p.2)) = some (ex, st') := hr
    obtain ⟨⟨e1, st1⟩, h1, h2⟩ := ob_some_iff hr
    simp at h2
    obtain ⟨h2, rfl⟩ := h2
    refine wp_block (ih st e1 st1 h1 N0 F G w a h _ fun e a' w' hl => ?_)
    obtain ⟨G1, q1, q2, q3, q4⟩ := hl
    cases e1 with
    | normal =>
      cases e with
      | normal => subst h2; exact hQ _ _ _ ⟨G1, q1, q2, q3, trivial⟩
      | _ => exact q4.elim
    | exit i =>
      cases e with
      | exit j =>
        have : i = j := q4
        subst this
        simp only [Exit.inBlock]
        by_cases hij : i = id
        · subst hij
          have : ex = .normal := by rw [← h2]; simp [leaveA]
          subst this
          simpa using hQ .normal _ _ ⟨G1, q1, q2, q3, trivial⟩
        · have hb : Nat.beq i id = false := by
            cases hh : Nat.beq i id with
            | true => exact absurd (Nat.eq_of_beq_eq_true hh) hij
            | false => rfl
          have : ex = .exit i := by rw [← h2]; simp [leaveA, hb]
          subst this
          simpa [hij] using hQ (.exit i) _ _ ⟨G1, q1, q2, q3, rfl⟩
      | _ => exact q4.elim
    | ret =>
      cases e with
      | ret => subst h2; exact hQ _ _ _ ⟨G1, q1, q2, q3, trivial⟩
      | _ => exact q4.elim
    | panic v =>
      cases e with
      | panic chain => subst h2; exact hQ _ _ _ ⟨G1, q1, q2, q3, q4⟩
      | _ => exact q4.elim
  | loop body ih =>
    intro hok
    have ih := ih hok
    intro st ex st' hr N0 F G w a h Q hQ
    have hr : loopN st.tm.loc.length st.heap.length (runCode E call lf body) lf st = some (ex, st') := hr
    refine wp_loop_rounds lf (rounds_sound hE ih lf (h0 := st.heap.length) (by rw [h.heap.len]; exact Nat.le_refl _) hr h fun e a' w' hl => hQ e a' w' ?_)
    rw [h.heap.len]; exact hl
  | rangeFunc f params assign body ih1 ih2 =>
    intro _ st ex st' hr
    have hr : (none : StR) = some (ex, st') := hr
    simp at hr
  | exit id =>
    intro _ st ex st' hr N0 F G w a h Q hQ
    have hr : some (Ex.exit id, st) = some (ex, st') := hr
    simp at hr; obtain ⟨rfl, rfl⟩ := hr
    exact wp_exit (hQ _ _ _ ⟨G, h, Step.refl _ _, Keep.refl (Nat.le_refl _), rfl⟩)
  | scope body ih =>
    intro _ st ex st' hr
    have hr : (none : StR) = some (ex, st') := hr
    simp at hr
  | label l =>
    intro _ st ex st' hr
    have hr : (none : StR) = some (ex, st') := hr
    simp at hr
  | goto l =>
    intro _ st ex st' hr
    have hr : (none : StR) = some (ex, st') := hr
    simp at hr
  | ret =>
    intro _ st ex st' hr N0 F G w a h Q hQ
    have hr : some (Ex.ret, st) = some (ex, st') := hr
    simp at hr; obtain ⟨rfl, rfl⟩ := hr
    exact wp_ret (hQ _ _ _ ⟨G, h, Step.refl _ _, Keep.refl (Nat.le_refl _), trivial⟩)
  | refuse why =>
    intro _ st ex st' hr
    have hr : (none : StR) = some (ex, st') := hr
    simp at hr
end Go.Pm
namespace Go.Pm
open Go Go.MapKept

variable {E : Env} {G : Gh} {w : World} {N0 : Nat} {F : Nat → Prop}

/-- What is known of one function. -/
def GoodAt (E : Env) (f : FuncId) (g : List AV → List ABlk → Option (End × List ABlk)) : Prop := ∀ args H e H1, g args H = some (e, H1) → Enters E.P f ∧ ∀ G w vs, HRel w.heap.size (foot G H) G w H → GlobOk E G w → RelL G w args vs →
  Calls E.P f vs.toArray w fun en w' => ∃ G', HRel w.heap.size (foot G H) G' w' H1 ∧ Ext G w G' w' ∧ Step w.heap.size (foot G H) G.m w G'.m w' ∧ EndRel G' w' e en
/-- Every region that draws its order is as it should be. -/
def DrawsOk (E : Env) : Prop := ∀ f fn c, E.func f = some fn → fn.body = some c → codeOk c = true
def IntrOk (E : Env) : Prop := ∀ f g, E.intr f = some g → GoodAt E f g

theorem results_list {P : Program} {T : Ty} {S : Tm} {H : List ABlk} (f : ResultVar → Sem Value) (hf : ∀ r v, resultA T S H r = some v → ∃ V, (f r).run P w = .ok V w ∧ Rel G w v V) : ∀ (l : List ResultVar) (vs : List AV), resultsA T S H l = some vs →
    ∃ Vs : List Value, (l.mapM f).run P w = .ok Vs w ∧ RelL G w vs Vs
  | [], vs, hr => by
    simp [resultsA] at hr; subst hr
    exact ⟨[], by simp, rfl⟩
  | r :: l, vs, hr => by
    simp only [resultsA] at hr
    split at hr
    · rename_i v vs' h1 h2
      simp at hr; subst hr
      obtain ⟨Vs, k1, k2⟩ := results_list f hf l vs' h2
      obtain ⟨V, q1, q2⟩ := hf r v h1
      refine ⟨V :: Vs, ?_, ⟨V, Vs, rfl, q2, k2⟩⟩
      rw [List.mapM_cons]
      simp [q1, k1]
    · simp at hr

theorem results_sound (hE : EnvOk E) {st : St} {a : Act} (h : StRel E N0 F G w st a) {fn : Func} {vs : List AV} (hr : resultsA E.ty st.tm st.heap fn.results.toList = some vs) :
    ∃ V, (results fn a.tmps).run E.P w = .ok V w ∧ Rel G w (oneA vs) V := by
  unfold results
  rw [Array.mapM_eq_mapM_toList]
  generalize hf : (fun x : ResultVar => _ : ResultVar → Sem Value) = f
  have key : ∀ r v, resultA E.ty st.tm st.heap r = some v → ∃ V, (f r).run E.P w = .ok V w ∧ Rel G w v V := by
    intro r v h1
    subst hf
    cases r with
    | tmp t =>
      obtain ⟨q1, q2⟩ := h.tm t v h1
      exact ⟨_, rfl, q2⟩
    | cell x t =>
      simp only [resultA] at h1
      split at h1
      · rename_i p hp
        obtain ⟨q1, q2⟩ := h.tm x p hp
        obtain ⟨V, q3, q4⟩ := loadA_sound hE.ty h.heap h1 q2
        refine ⟨V, ?_, q4⟩
        have : ∃ ad, a.tmps.getD x undef = .pointer (some ad) := by
          unfold loadA at h1
          split at h1
          · obtain ⟨_, q⟩ := q2; exact ⟨_, q⟩
          · obtain ⟨_, _, q, _⟩ := q2; exact ⟨_, q⟩
          · simp at h1
        obtain ⟨ad, e⟩ := this
        dsimp only
        rw [e] at q3 ⊢
        simpa [Instr.loadAt, Instr.sureAddr, asAddr] using q3
      · simp at h1
  obtain ⟨Vs, k1, k2⟩ := results_list f key _ _ hr
  refine ⟨if h : Vs.toArray.size = 1 then Vs.toArray[0] else .tuple Vs.toArray, ?_, ?_⟩
  · simp [k1]
  · cases vs with
    | nil => obtain rfl := k2; exact ⟨#[], rfl, rfl⟩
    | cons v vs =>
      obtain ⟨V, Vs', rfl, q1, q2⟩ := k2
      cases vs with
      | nil =>
        obtain rfl := q2
        exact q1
      | cons v' vs =>
        obtain ⟨V', Vs'', rfl, q3, q4⟩ := q2
        exact ⟨_, by simp, V, _, rfl, q1, V', Vs'', rfl, q3, q4⟩

/-- The slots when a function is entered. -/
theorem numbered_get : ∀ (args : List AV) (vs : List Value) (i t : Nat) (v : AV), RelL G w args vs → Pm.get (numbered i args) t = some v → i ≤ t ∧ ∃ V, vs[t - i]? = some V ∧ Rel G w v V
  | [], _, i, t, v, _, h => by simp [numbered] at h
  | x :: args, vs, i, t, v, hr, h => by
    obtain ⟨X, Xs, rfl, q1, q2⟩ := hr
    simp only [numbered, get_cons] at h
    cases hb : Nat.beq i t with
    | true =>
      have := Nat.eq_of_beq_eq_true hb
      subst this
      simp at h; subst h
      exact ⟨Nat.le_refl _, X, by simp, q1⟩
    | false =>
      simp [hb] at h
      obtain ⟨k1, V, k2, k3⟩ := numbered_get args Xs (i + 1) t v q2 h
      refine ⟨by omega, V, ?_, k3⟩
      have e : t - i = (t - (i + 1)) + 1 := by omega
      rw [e]; simpa using k2
theorem enter_rel {args : List AV} {vs : List Value} (h : RelL G w args vs) {n : Nat} (hn : args.length ≤ n) (mask : Nat) :
    TRel G w ⟨mask, numbered 0 args, []⟩ (vs.toArray ++ Array.replicate (n - vs.toArray.size) undef) ∧ (vs.toArray ++ Array.replicate (n - vs.toArray.size) undef).size = n := by
  have hl := h.length
  refine ⟨fun t v ht => ?_, by simp; omega⟩
  unfold Tm.get at ht
  cases hb : bit mask t with
  | false => simp [hb] at ht
  | true =>
    simp only [hb] at ht
    obtain ⟨_, V, k1, k2⟩ := numbered_get args vs 0 t v h ht
    have hlt := (List.getElem?_eq_some_iff.1 k1).1
    refine ⟨by simp; omega, ?_⟩
    have : (vs.toArray ++ Array.replicate (n - vs.toArray.size) undef).getD t undef = V := by
      have hlt' : t < vs.length := by simpa using hlt
      have k1' : vs[t]? = some V := by simpa using k1
      have e : (vs.toArray ++ Array.replicate (n - vs.toArray.size) undef)[t]? = some V := by
        rw [Array.getElem?_append_left (by simpa using hlt')]; simpa using k1'
      rw [Array.getD_eq_getD_getElem?, e]; rfl
    rw [this]; exact k2

/-- The code of a function, from its entry. -/
theorem runFn_sound (hE : EnvOk E) (hD : DrawSound E) {call : CallT} (hg : Good E call) {lf mask : Nat} {fn : Func} (hok : ∀ c, fn.body = some c → codeOk c = true) {args : List AV} {H : List ABlk} {ex : Ex} {st' : St} (hr : runFn E call lf mask fn args H = some (ex, st'))
    {vs : List Value} (h : HRel N0 F G w H) (hgl : GlobOk E G w) (ha : RelL G w args vs) {Q : Exit → Act → World → Prop} (hQ : ∀ e a' w', Left E N0 F G.n G w ex st' e a' w' → Q e a' w') :
    ∃ c, fn.body = some c ∧ c.wp E.P Q { tmps := vs.toArray ++ Array.replicate (fn.ntmps - vs.toArray.size) undef, defers := [] } w := by
  unfold runFn at hr
  split at hr
  · simp at hr
  · rename_i c hc
    obtain ⟨hb, hr⟩ := bc_some hr
    obtain ⟨k1, k2⟩ := enter_rel ha (Nat.le_of_ble_eq_true hb) mask
    have h0 : StRel E N0 F G w ⟨⟨mask, numbered 0 args, []⟩, H, fn.ntmps, []⟩ { tmps := vs.toArray ++ Array.replicate (fn.ntmps - vs.toArray.size) undef, defers := [] } := ⟨h, k1, k2, (rfl : ([] : List Deferred) = []), hgl⟩
    exact ⟨c, hc, runCode_sound hE hD hg lf c (hok c hc) _ _ _ hr N0 F G w _ h0 Q hQ⟩

theorem isEmptyD_nil {l : List (FuncId × List AV)} (h : isEmptyD l = true) : l = [] := by
  cases l with
  | nil => rfl
  | cons a l => simp [isEmptyD] at h

/-- A function that has deferred nothing. -/
theorem runPlain_sound (hE : EnvOk E) (hD : DrawSound E) {call : CallT} (hg : Good E call) {lf mask : Nat} {fn : Func} (hok : ∀ c, fn.body = some c → codeOk c = true) {args : List AV} {H H1 : List ABlk} {e : End} (hr : runPlain E call lf mask fn args H = some (e, H1))
    {vs : List Value} (h : HRel N0 F G w H) (hgl : GlobOk E G w) (ha : RelL G w args vs) :
    ∃ c, fn.body = some c ∧ c.wp E.P (bodyPost E.P fn fun en w' => ∃ G', HRel N0 F G' w' H1 ∧ Ext G w G' w' ∧ Step N0 F G.m w G'.m w' ∧ EndRel G' w' e en)
      { tmps := vs.toArray ++ Array.replicate (fn.ntmps - vs.toArray.size) undef, defers := [] } w := by
  unfold runPlain at hr
  have fin : ∀ {ex st}, runFn E call lf mask fn args H = some (ex, st) → (ex = .normal ∨ ex = .ret) → isEmptyD st.defers = true → finishA E fn st st.heap = some (e, H1) →
      ∃ c, fn.body = some c ∧ c.wp E.P (bodyPost E.P fn fun en w' => ∃ G', HRel N0 F G' w' H1 ∧ Ext G w G' w' ∧ Step N0 F G.m w G'.m w' ∧ EndRel G' w' e en)
        { tmps := vs.toArray ++ Array.replicate (fn.ntmps - vs.toArray.size) undef, defers := [] } w := by
    intro ex st hx hex hd hfin
    obtain ⟨rs, h1, h2⟩ := ob_some_iff hfin
    simp at h2; obtain ⟨rfl, rfl⟩ := h2
    refine runFn_sound hE hD hg hok hx h hgl ha fun en a' w' hl => ?_
    obtain ⟨G', q1, q2, q3, q4⟩ := hl
    obtain ⟨V, r1, r2⟩ := results_sound hE q1 h1
    have hdd := q1.defers
    rw [isEmptyD_nil hd] at hdd
    have post : a'.defers = [] ∧ ∃ v, (results fn a'.tmps).run E.P w' = .ok v w' ∧ ∃ G', HRel N0 F G' w' st.heap ∧ Ext G w G' w' ∧ Step N0 F G.m w G'.m w' ∧ EndRel G' w' (.ret (oneA rs)) (.returned v) :=
      ⟨hdd, V, r1, G', q1.heap, q3.ext, q2, r2⟩
    rcases hex with rfl | rfl
    · cases en with
      | normal => exact post
      | _ => exact q4.elim
    · cases en with
      | ret => exact post
      | _ => exact q4.elim
  split at hr
  · rename_i v st hx
    obtain ⟨hd, hr⟩ := bc_some hr
    simp at hr; obtain ⟨rfl, rfl⟩ := hr
    refine runFn_sound hE hD hg hok hx h hgl ha fun en a' w' hl => ?_
    obtain ⟨G', q1, q2, q3, q4⟩ := hl
    have hdd := q1.defers
    rw [isEmptyD_nil hd] at hdd
    cases en with
    | panic chain => exact ⟨hdd, G', q1.heap, q3.ext, q2, q4⟩
    | _ => exact q4.elim
  · rename_i st hx
    obtain ⟨hd, hr⟩ := bc_some hr
    exact fin hx (.inl rfl) hd hr
  · rename_i st hx
    obtain ⟨hd, hr⟩ := bc_some hr
    exact fin hx (.inr rfl) hd hr
  · simp at hr

/-- A deferred call. -/
theorem dcall_sound (hE : EnvOk E) (hD : DrawSound E) (hW : DrawsOk E) {call : CallT} (hg : Good E call) {lf : Nat} {f : FuncId} {args : List AV} {H H2 : List ABlk} {e : End} (hc : callAt (dcall E call lf) f args H = some (e, H2))
    {vs : List Value} (h : HRel N0 F G w H) (hgl : GlobOk E G w) (ha : RelL G w args vs) (u : FrameMode) :
    Enters E.P f ∧ CallsD E.P f vs.toArray u w fun en u' w' => u' = u ∧ ∃ G', HRel N0 F G' w' H2 ∧ Ext G w G' w' ∧ Step N0 F G.m w G'.m w' ∧ EndRel G' w' e en := by
  obtain ⟨args', H0, e1, H1, Gl, h1, h2, h3, h4, h5⟩ := callAt_frame hE hc h hgl ha
  obtain ⟨fn, hf, hr⟩ := ob_some_iff (show ob (E.func f) (fun fn => runPlain E call lf (E.mask f) fn args' H0) = some (e1, H1) from h1)
  obtain ⟨k1, k2, k3⟩ := hE.func f fn hf
  obtain ⟨c, hb, hw⟩ := runPlain_sound hE hD hg (hW f fn · hf) hr h2 h3 h4
  refine ⟨⟨fn, k1, k2, k3⟩, (callsD_of_wp (u := u) k1 hb hw).mono fun en u' w' hh => ⟨hh.1, h5 en w' hh.2⟩⟩

theorem invoke_fn {P : Program} {f : FuncId} (h : Enters P f) (cap dargs : Array Value) (w : World) : (invoke (.fn (.func f) cap) dargs).run P w = .ok (.enter f (dargs ++ cap)) w := by
  obtain ⟨fn, g1, g2, g3⟩ := h
  have g3' : fn.name ≠ "runtime.NumGoroutine" := by simpa using g3
  have hnone : fn.body ≠ none := by intro hb'; simp [hb'] at g2
  simp [invoke, callFunc, g1, g3']
  exact fun hh => absurd hh hnone

/-- The deferred calls, one behind the other. -/
theorem deferA_sound (hE : EnvOk E) (hD : DrawSound E) (hW : DrawsOk E) {call : CallT} (hg : Good E call) {lf : Nat} {fn : Func} {tmps : Array Value} {R : Ending → World → Prop} :
    ∀ (l : List (FuncId × List AV)) {ds : List Deferred} {G : Gh} {w : World} {H H2 : List ABlk}, deferA (dcall E call lf) l H = some H2 → HRel N0 F G w H → GlobOk E G w → DRel G w l ds →
      (∀ G' w', HRel N0 F G' w' H2 → Ext G w G' w' → Step N0 F G.m w G'.m w' → ∃ v, (results fn tmps).run E.P w' = .ok v w' ∧ R (.returned v) w') → Leaves E.P fn tmps R ds .returning w
  | [], ds, G, w, H, H2, hr, h, hgl, hd, hR => by
    simp [deferA] at hr; subst hr
    obtain rfl := hd
    exact hR G w h (Ext.refl _ _) (Step.refl _ _)
  | (f, as) :: l, ds, G, w, H, H2, hr, h, hgl, hd, hR => by
    obtain ⟨⟨tg, dargs⟩, ds', cap, rfl, ht, k1, k2⟩ := hd
    simp only at ht k1
    subst ht
    simp only [deferA] at hr
    split at hr
    · rename_i v H1 hcall
      obtain ⟨hen, hcs⟩ := dcall_sound hE hD hW hg hcall h hgl k1 .returning
      rw [Array.toArray_toList] at hcs
      refine leaves_cons (by simp) (invoke_fn hen cap dargs w) (hcs.mono fun en u' w' hh => ?_)
      obtain ⟨rfl, G', q1, q2, q3, q4⟩ := hh
      cases en with
      | returned V =>
        simp only [settle]
        exact deferA_sound hE hD hW hg l hr q1 (hgl.ext q2) (k2.ext q2) fun G2 w2 p1 p2 p3 => hR G2 w2 p1 (q2.trans p2) (q3.trans p3)
      | _ => exact q4.elim
    · simp at hr

/-- A function. -/
theorem runBody_sound (hE : EnvOk E) (hD : DrawSound E) (hW : DrawsOk E) {call : CallT} (hg : Good E call) {lf mask : Nat} {f : FuncId} {fn : Func} (hf : E.func f = some fn) : GoodAt E f (runBody E call lf mask fn) := by
  intro args H e H1 hr
  obtain ⟨k1, k2, k3⟩ := hE.func f fn hf
  have hok : ∀ c, fn.body = some c → codeOk c = true := (hW f fn · hf)
  refine ⟨⟨fn, k1, k2, k3⟩, fun G w vs h hgl ha => ?_⟩
  have fin : ∀ {ex st}, runFn E call lf mask fn args H = some (ex, st) → (ex = .normal ∨ ex = .ret) → ob (deferA (dcall E call lf) st.defers st.heap) (fun H => finishA E fn st H) = some (e, H1) →
      Calls E.P f vs.toArray w fun en w' => ∃ G', HRel w.heap.size (foot G H) G' w' H1 ∧ Ext G w G' w' ∧ Step w.heap.size (foot G H) G.m w G'.m w' ∧ EndRel G' w' e en := by
    intro ex st hx hex hfin
    obtain ⟨H2, hd, hfin⟩ := ob_some_iff hfin
    obtain ⟨rs, hres, he⟩ := ob_some_iff hfin
    simp at he; obtain ⟨rfl, rfl⟩ := he
    have post : ∀ G1 a' w1, StRel E w.heap.size (foot G H) G1 w1 st a' → Step w.heap.size (foot G H) G.m w G1.m w1 → Keep G.n G w G1 w1 →
        Leaves E.P fn a'.tmps (fun en w' => ∃ G', HRel w.heap.size (foot G H) G' w' H2 ∧ Ext G w G' w' ∧ Step w.heap.size (foot G H) G.m w G'.m w' ∧ EndRel G' w' (.ret (oneA rs)) en) a'.defers .returning w1 := by
      intro G1 a' w1 q1 q2 q3
      refine deferA_sound hE hD hW hg _ hd q1.heap q1.glob q1.defers fun G2 w2 p1 p2 p3 => ?_
      have hst : StRel E w.heap.size (foot G H) G2 w2 { st with heap := H2, defers := [] } { a' with defers := [] } := ⟨p1, q1.tm.ext p2, q1.n, (rfl : ([] : List Deferred) = []), q1.glob.ext p2⟩
      obtain ⟨V, r1, r2⟩ := results_sound hE hst (fn := fn) hres
      exact ⟨V, r1, G2, p1, q3.ext.trans p2, q2.trans p3, r2⟩
    obtain ⟨c, hb, hw⟩ := runFn_sound hE hD hg hok hx h hgl ha (Q := bodyPostD E.P fn fun en w' => ∃ G', HRel w.heap.size (foot G H) G' w' H2 ∧ Ext G w G' w' ∧ Step w.heap.size (foot G H) G.m w G'.m w' ∧ EndRel G' w' (.ret (oneA rs)) en) (by
      intro en a' w1 hl
      obtain ⟨G1, q1, q2, q3, q4⟩ := hl
      rcases hex with rfl | rfl
      · cases en with
        | normal => exact post G1 a' w1 q1 q2 q3
        | _ => exact q4.elim
      · cases en with
        | ret => exact post G1 a' w1 q1 q2 q3
        | _ => exact q4.elim)
    exact calls_of_wp_defers k1 hb hw
  unfold runBody at hr
  split at hr
  · rename_i v st hx
    obtain ⟨hd, hr⟩ := bc_some hr
    simp at hr; obtain ⟨rfl, rfl⟩ := hr
    obtain ⟨c, hb, hw⟩ := runFn_sound hE hD hg hok hx h hgl ha (Q := bodyPostD E.P fn fun en w' => ∃ G', HRel w.heap.size (foot G H) G' w' st.heap ∧ Ext G w G' w' ∧ Step w.heap.size (foot G H) G.m w G'.m w' ∧ EndRel G' w' (.panic v) en) (by
      intro en a' w1 hl
      obtain ⟨G1, q1, q2, q3, q4⟩ := hl
      have hdd := q1.defers
      rw [isEmptyD_nil hd] at hdd
      have hdd : a'.defers = [] := hdd
      cases en with
      | panic chain =>
        show Leaves E.P fn a'.tmps _ a'.defers (.panicking chain) w1
        rw [hdd]
        exact ⟨G1, q1.heap, q3.ext, q2, q4⟩
      | _ => exact q4.elim)
    exact calls_of_wp_defers k1 hb hw
  · rename_i st hx
    exact fin hx (.inl rfl) hr
  · rename_i st hx
    exact fin hx (.inr rfl) hr
  · simp at hr

/-- Calls to the depth k. -/
theorem callN_good (hE : EnvOk E) (hD : DrawSound E) (hW : DrawsOk E) (hI : IntrOk E) : ∀ k, Good E (callN E k)
  | 0 => fun f args H e H1 hr => by
    have hr : (none : Option (End × List ABlk)) = some (e, H1) := hr
    simp at hr
  | k + 1 => fun f args H e H1 hr => by
    have hr : Option.rec (ob (E.func f) fun fn => runBody E (callN E k) k (E.mask f) fn args H) (fun g => g args H) (E.intr f) = some (e, H1) := hr
    cases hi : E.intr f with
    | some g =>
      rw [hi] at hr
      exact hI f g hi args H e H1 hr
    | none =>
      rw [hi] at hr
      obtain ⟨fn, hf, hr⟩ := ob_some_iff hr
      exact runBody_sound hE hD hW (callN_good hE hD hW hI k) hf args H e H1 hr
end Go.Pm
