/-
slices.Clone of a slice that is then written.
All that the plain machine of the seat answers, the model's calls answer.
-/
import Derived.Test.YtpgdfpcihamldaaGreatDoorK12
import Derived.Deep.AppendSrc
namespace Go.Proofs
open Go Go.Pm Go.RowKit
set_option maxRecDepth 100000
theorem eqNil (a : Addr) (n cap : Nat) (w : World) : (binOp .eql 104 (.slice (some a) n cap) (.slice none 0 0)).run Tryz.prog w = .ok (.bool false) w := by
  simp only [binOp, equal_succ, Sem.run_bind, eq_vs 9999 Tryz.underlying104, Result.andThen_ok, Sem.run_pure]
theorem wpList_append_run {P : Program} {ops : Array Oper} {rest : List Oper} {o : Oper} {a : Act} {Q : Exit → Act → World → Prop} {w w' : World} (hgd : o.guard = none) (s x : Operand) (t : TypeId)
    (ho : o.op = .call { callee := .builtin .append, args := #[s, x], argTypes := #[t, t] }) {S X V : Value} (hs : a.eval s = S) (hx : a.eval x = X) (hrun : (Builtin.append_ #[t, t] o.type #[S, X]).run P w = .ok V w')
    (hK : wpList P ops Q rest (a.put o.dst V) w') : wpList P ops Q (o :: rest) a w := by
  refine wpList_plain hgd fun K hK' => ?_
  unfold Oper.wp
  simp [execOp, ho, resolve, invoke, builtin, hs, hx, hrun, Result.andThen]
  exact hK' _ _ hK
theorem clone_walk (b o n cap : Nat) (w : World) (vs : List Value) (hvl : vs.length = n * 2) (hc : ∀ j v, vs[j]? = some v → w.cell? ⟨b, o + j, none⟩ = some v) (h1 : ∀ u ∈ vs, u.oneCell' = true) (hn : 1 ≤ n) (hn2 : n ≤ 1073741824) (hb : b < w.heap.size) :
    Calls Tryz.prog 195 #[.slice (some ⟨b, o, none⟩) n cap] w fun e w' => ∃ g zs, e = .returned (.slice (some ⟨w.heap.size + 1, 0, none⟩) n g) ∧ n ≤ g ∧ w' = (w.alloc (.cells #[] 103)).drew.alloc (.cells (vs.toArray ++ zs) 103) := by
  have hi : Tryz.prog.info? 103 = some Tryz.t103 := by kernel_rfl
  have cells : ∀ j v, vs[j]? = some v → (w.alloc (.cells #[] 103)).cell? ((⟨b, o, none⟩ : Addr).add j) = some v := by
    intro j v hj
    have := hc j v hj
    rw [add_plain]
    have hh : (w.alloc (.cells #[] 103)).heap[b]? = w.heap[b]? := push_old w _ hb
    simp only [World.cell?, hh]
    simpa only [World.cell?] using this
  have hsrc : Src Tryz.prog Tryz.t103.size 104 (.slice (some ⟨b, o, none⟩) n cap) n vs (w.alloc (.cells #[] 103)) :=
    ⟨.inl ⟨103, Tryz.underlying104⟩, fun _ => rfl, run_firstCells_some _ _ n _ n cap vs hvl cells, run_firstCells_some _ _ n _ n cap vs hvl cells, hvl, h1⟩
  have hfit : Builtin.nextslicecap (0 + n) 0 * Tryz.t103.bytes ≤ 281474976710656 := by
    have := nextslicecap_le (need := 0 + n) (old := 0) (by omega)
    show Builtin.nextslicecap (0 + n) 0 * 40 ≤ 281474976710656
    omega
  have happ := run_append_grow_src (P := Tryz.prog) (w.alloc (.cells #[] 103)) 104 104 104 103 Tryz.t103 (.agg #[.string ⟨#[]⟩, .slice none 0 0]) Tryz.underlying104 hi rfl (some ⟨w.heap.size, 0, none⟩) 0 0 []
    (run_firstCells_some _ _ 0 _ 0 0 [] (by simp) (fun j v hj => by simp at hj)) (.slice (some ⟨b, o, none⟩) n cap) n vs hsrc (by omega) (by omega) hfit
  go_enter Tryz.func195, Tryz.ntmps195
  go_wp2
  rw [eqNil]
  simp only [Result.andThen]
  rw [Oper.upon_value]
  go_wp2_with (at_builtin; refine wpList_append_run rfl _ _ 104 rfl rfl rfl happ ?_)
  go_wp2
  go_ret
  refine ⟨_, _, rfl, ?_, rfl⟩
  have := grown_ge (w.alloc (.cells #[] 103)) (0 + n) 0 103
  simpa using this
theorem enters195 : Pm.Enters Tryz.prog 195 := ⟨Tryz.f195, Tryz.func195, by kernel_rfl, by kernel_rfl⟩
theorem good195 : GoodAt Pt.env 195 iClone := by
  intro args H e H1 hr
  refine ⟨enters195, fun G w vs h hgl ha => ?_⟩
  unfold iClone at hr
  split at hr
  · rename_i t n cs
    obtain ⟨hb, hr⟩ := bc_some hr
    simp [rET] at hr
    obtain ⟨rfl, rfl⟩ := hr
    simp only [Bool.and_eq_true] at hb
    have hn : 1 ≤ n := Nat.le_of_ble_eq_true hb.1.1.1
    have hn2 : n ≤ 1073741824 := Nat.le_of_ble_eq_true hb.1.1.2
    have hl : cs.length = n * 2 := Nat.eq_of_beq_eq_true hb.1.2
    obtain ⟨V, Vs, rfl, k1, rfl⟩ := ha
    obtain ⟨a, cap, rfl, hcap, hpure, hpub, _⟩ := k1
    rcases hpub with rfl | ⟨b, o, rfl, hpub⟩
    · simp at hl; omega
    · obtain ⟨us, r1, r2⟩ := hpub.list
      have hul : us.length = n * 2 := by rw [← hl]; exact r1.length.symm
      have hbk : b < w.heap.size := by
        cases cs with
        | nil => simp at hl; omega
        | cons c0 cs0 =>
          have hm : o < G.m b := hpub.1
          rcases Nat.lt_or_ge b w.heap.size with q | q
          · exact q
          · have := h.fresh b q; omega
      have hone : ∀ u ∈ us, u.oneCell' = true := r1.flat_one (all_flat hpure)
      refine (clone_walk b o n cap w us hul r2 hone hn hn2 hbk).mono ?_
      rintro en w' ⟨g, zs, rfl, hg, rfl⟩
      obtain ⟨q1, q2, q3⟩ := below_rel h (w' := (w.alloc (.cells #[] 103)).drew) ⟨rfl, rfl, rfl, by show w.heap.size ≤ (w.heap.push _).size; rw [Array.size_push]; omega, fun k hk => push_old w _ hk⟩
      have hr2 : RelP G (w.alloc (.cells #[] 103)).drew cs (us.toArray ++ zs) := ⟨us, zs.toList, by simp, r1.ext q2⟩
      obtain ⟨G', k1, k2, k3, k4, k5, k6⟩ := q1.newCells hr2 (fr := (0, 0)) (E := 103) (fun j _ _ hh => by simp at hh) (w' := (w.alloc (.cells #[] 103)).drew.alloc (.cells (us.toArray ++ zs) 103)) rfl rfl rfl rfl
      refine ⟨G', k1, q2.trans k2, q3.trans k3, ?_⟩
      show H.length < G'.n ∧ ∃ cap', n ≤ cap' ∧ Value.slice (some ⟨w.heap.size + 1, 0, none⟩) n g = .slice (some ⟨G'.β H.length, 0, none⟩) n cap'
      refine ⟨k4.1, g, hg, ?_⟩
      have : (w.alloc (.cells #[] 103)).drew.heap.size = w.heap.size + 1 := by show (w.heap.push _).size = _; rw [Array.size_push]
      rw [k5, this]
  · simp at hr
end Go.Proofs
namespace Go.Proofs
open Go Go.Pm
theorem intrOk : IntrOk Pt.env := by
  intro f g h
  have h : bc (Nat.beq f 168) (some iIndexByte) (bc (Nat.beq f 14) (some iJoin) (bc (Nat.beq f 41) (some iRepeat) (bc (Nat.beq f 195) (some iClone) none))) = some g := h
  rw [bc_eq, bc_eq, bc_eq, bc_eq] at h
  split at h
  · rename_i hb
    simp at h; subst h
    rw [Nat.eq_of_beq_eq_true hb]; exact good168
  split at h
  · rename_i hb
    simp at h; subst h
    rw [Nat.eq_of_beq_eq_true hb]; exact good14
  split at h
  · rename_i hb
    simp at h; subst h
    rw [Nat.eq_of_beq_eq_true hb]; exact good41
  split at h
  · rename_i hb
    simp at h; subst h
    rw [Nat.eq_of_beq_eq_true hb]; exact good195
  · simp at h
theorem allGood (k : Nat) : Pm.Good Pt.env (callN Pt.env k) := callN_good Pt.envOk (draw_sound Pt.envOk) Pt.drawsOk intrOk k
end Go.Proofs
