/-
envelope.reader: take, one, number, text.
envelope.Read.
envelope.Read of what Pack gives, of what has another sum, and of a few bytes; envelope.Answer.
-/
import Derived.Test.YtpgdfpcihamldaaGreatDoorK22
import Derived.Test.YtpgdfpcihamldaaGreatDoorK21
set_option linter.unusedSimpArgs false
namespace Go.Proofs
open Go Go.Pm Go.Proofs.Sum
set_option maxRecDepth 100000
noncomputable def rb (s : List UInt8) : ABlk := .cells [.str s, .bool false]
theorem ldr_b (s : List UInt8) (H : List ABlk) : loadA Pt.env.ty (rb s :: H) 9 (.ref 0 0) = some (.str s) := by kernel_rfl
theorem ldr_bad (s : List UInt8) (H : List ABlk) : loadA Pt.env.ty (rb s :: H) 4 (.ref 0 1) = some (.bool false) := by kernel_rfl
theorem str_b (s s' : List UInt8) (H : List ABlk) : storeA Pt.env.ty (rb s :: H) 9 (.str s') (.ref 0 0) = some (rb s' :: H) := by kernel_rfl
theorem fo159_0 : fieldOff Pt.env.ty 159 0 = some 0 := by kernel_rfl
theorem fo159_1 : fieldOff Pt.env.ty 159 1 = some 1 := by kernel_rfl
theorem bound_ok (k : IntKind) (i d m : Nat) (h : i ≤ m) : bound (some (some (.int k i))) d m = some i := by
  have h0 : (decide ((0 : Int) ≤ i) && decide ((i : Int) ≤ m)) = true := by simp; omega
  simp only [bound, h0, bc_true, Int.toNat_natCast]
theorem bound_none (d m : Nat) (h : d ≤ m) : bound none d m = some d := by
  have h0 : Nat.ble d m = true := Nat.ble_eq_true_of_le h
  simp only [bound, h0, bc_true]
theorem slice_hi (k : IntKind) (p q : List UInt8) : sliceA Pt.env.ty 9 (.str (p ++ q)) none (some (some (.int k p.length))) none = some (.str p) := by
  simp only [sliceA, d9, bounds2]
  rw [bound_ok k p.length _ _ (by simp), ob_some, bound_none 0 _ (by omega), ob_some, ob_some]
  simp
theorem slice_lo (k : IntKind) (p q : List UInt8) : sliceA Pt.env.ty 9 (.str (p ++ q)) (some (some (.int k p.length))) none none = some (.str q) := by
  simp only [sliceA, d9, bounds2]
  rw [bound_none (p ++ q).length _ (by omega), ob_some, bound_ok k p.length _ _ (by simp), ob_some, ob_some, List.take_length, List.drop_left' rfl]
theorem callAt_rd (call : CallT) (f : FuncId) (s s' : List UInt8) (rest : List AV) (v : AV) (h : refsL rest = []) (hv : v.refs = []) (hc : call f (.ref 0 0 :: rest) [rb s] = some (.ret v, [rb s'])) :
    callAt call f (.ref 0 0 :: rest) [rb s] = some (.ret v, [rb s']) := by
  have hr : refsL (.ref 0 0 :: rest) = [0] := by simp [refsL, AV.refs, h]
  rw [callAt_by call f (.ref 0 0 :: rest) (.ref 0 0 :: rest) [rb s] [rb s] [0] _ (by rw [hr]; rfl) (by rw [renL, renL_bare _ rest h]; rfl) rfl hc]
  unfold callBack
  show (let L1 := close [rb s'] 2 (addNew [0] v.refs) 0; ob (v.ren (backR 1 [0] L1)) fun v' => ob (pickB (backR 1 [0] L1) [rb s'] L1) fun bs => some (End.withVal (.ret v) v', putBack [rb s] [0] (bs.take 1) ++ bs.drop 1)) = _
  rw [hv]
  show ob (v.ren _) _ = _
  rw [ren_bare _ _ hv, ob_some]
  rfl
theorem callAt_rd1 (call : CallT) (f : FuncId) (A C : ABlk) (s s' : List UInt8) (rest : List AV) (v : AV) (h : refsL rest = []) (hv : v.refs = []) (hc : call f (.ref 0 0 :: rest) [rb s] = some (.ret v, [rb s'])) :
    callAt call f (.ref 1 0 :: rest) [A, rb s, C] = some (.ret v, [A, rb s', C]) := by
  have hr : refsL (.ref 1 0 :: rest) = [1] := by simp [refsL, AV.refs, h]
  rw [callAt_by call f (.ref 1 0 :: rest) (.ref 0 0 :: rest) [A, rb s, C] [rb s] [1] _ (by rw [hr]; rfl) (by rw [renL, renL_bare _ rest h]; rfl) rfl hc]
  unfold callBack
  show (let L1 := close [rb s'] 2 (addNew [0] v.refs) 0; ob (v.ren (backR 3 [1] L1)) fun v' => ob (pickB (backR 3 [1] L1) [rb s'] L1) fun bs => some (End.withVal (.ret v) v', putBack [A, rb s, C] [1] (bs.take 1) ++ bs.drop 1)) = _
  rw [hv]
  show ob (v.ren _) _ = _
  rw [ren_bare _ _ hv, ob_some]
  rfl
theorem m82 : Pt.env.mask 82 = 51 := by kernel_rfl
theorem f82_run (call : CallT) (lf : Nat) (p q : List UInt8) (hl : (p ++ q).length < 18446744073709551616) :
    ∃ st, runCode Pt.env call lf (codeOf Tryz.f82) ⟨⟨Pt.env.mask 82, [(0, .ref 0 0), (1, .int .u64 p.length)], []⟩, [rb (p ++ q)], 39, []⟩ = some (.ret, st) ∧ st.defers = [] ∧ finishA Pt.env Tryz.f82 st st.heap = some (.ret (.str p), [rb q]) := by
  have h1 : decide ((p.length : Int) > ((p ++ q).length : Nat)) = false := by simp; omega
  have hc (H : List ABlk) := conv3_25 H (p ++ q).length hl
  rw [m82]
  dsimp only [codeOf, Tryz.f82]
  simp (disch := decide) only [c_seq, c_cond, c_block, c_exit, c_skip, c_ret, c_region, o_cons, o_guard, o_nil, sg_true, sg_false, t_normal, t_exit, t_ret, lv_ret, lv_normal, lv_exit, w_move, w_assign, w_bin, w_conv, w_build, w_call, w_pick, w_alloc, w_box, w_agg, w_load, w_store, w_nil, w_un, w_iface, w_func, w_slice, w_faddr, w_field, w_iaddr, w_index, w_extract, e_loc, e_reg, e_const, e_func, e_glob, g_hit, g_miss, p_hit, p_miss, p_nil, s_done, s_go, s_put_loc, s_put_reg, s_put_none, s_back, okV, okH, ob_some, cond_bool, bc_true, bc_false, v_int, v_bool, v_str, v_nil, oBin, oConv, oBuildSlice, oUn, oLoad, oStore, oFieldAddr, oIndexAddr, oIndex, oSlice, oExtract, oPick, oAlloc, oBox, oNil, oBuild, stepC, s_call, oBuiltin, oLen, oAppend, optV_none, optV_some, parts_nil, parts_cons, vals_nil, vals_cons, wg, wo_some, wv_bool, wv_undef, nth_zero, nth_succ, beq_tt, beq_ff, beq_tf, beq_ft, Bool.not_true, Bool.not_false, a_ref, Nat.zero_add, ldr_b, ldr_bad, str_b, fo159_0, fo159_1, len9', hc, b_gtr, h1, slice_hi, slice_lo]
  exact ⟨_, rfl, rfl, by kernel_rfl⟩
theorem f82_ok (k : Nat) (p q : List UInt8) (hl : (p ++ q).length < 18446744073709551616) : callN Pt.env (k + 1) 82 [.ref 0 0, .int .u64 p.length] [rb (p ++ q)] = some (.ret (.str p), [rb q]) := by
  obtain ⟨st, h1, h2, h3⟩ := f82_run (callN Pt.env k) k p q hl
  exact callN_ret Pt.env _ k 82 _ Tryz.f82 (codeOf Tryz.f82) st _ (by kernel_rfl) (by kernel_rfl) rfl (by kernel_rfl) h1 h2 h3
theorem own82 : Pt.env.owns 82 = false := by kernel_rfl
theorem own140 : Pt.env.owns 140 = false := by kernel_rfl
theorem own80 : Pt.env.owns 80 = false := by kernel_rfl
theorem melt_ref (r o : Nat) : AV.melt (.ref r o) = .ref r o := rfl
theorem index0 (b : UInt8) (l : List UInt8) : indexA Pt.env.ty 9 (.str (b :: l)) 0 = some (.int .u8 (b.toNat : Int)) := index9 (b :: l) 0 b rfl
theorem m79 : Pt.env.mask 79 = 13 := by kernel_rfl
theorem m80 : Pt.env.mask 80 = 29 := by kernel_rfl
theorem m81 : Pt.env.mask 81 = 5 := by kernel_rfl
theorem nth_pair0 (a b : AV) : nth [a, b] 0 = some a := rfl
theorem nth_pair1 (a b : AV) : nth [a, b] 1 = some b := rfl
theorem f79_run (call : CallT) (lf : Nat) (b : UInt8) (q : List UInt8) (h : callAt call 82 [.ref 0 0, .int .u64 1] [rb (b :: q)] = some (.ret (.str [b]), [rb q])) :
    ∃ st, runCode Pt.env call lf (codeOf Tryz.f79) ⟨⟨Pt.env.mask 79, [(0, .ref 0 0)], []⟩, [rb (b :: q)], 12, []⟩ = some (.ret, st) ∧ st.defers = [] ∧ finishA Pt.env Tryz.f79 st st.heap = some (.ret (.int .u8 (b.toNat : Int)), [rb q]) := by
  rw [m79]
  dsimp only [codeOf, Tryz.f79]
  simp (disch := decide) only [c_seq, c_cond, c_block, c_exit, c_skip, c_ret, c_region, o_cons, o_guard, o_nil, sg_true, sg_false, t_normal, t_exit, t_ret, lv_ret, lv_normal, lv_exit, w_move, w_assign, w_bin, w_conv, w_build, w_call, w_pick, w_alloc, w_box, w_agg, w_load, w_store, w_nil, w_un, w_iface, w_func, w_slice, w_faddr, w_field, w_iaddr, w_index, w_extract, e_loc, e_reg, e_const, e_func, e_glob, g_hit, g_miss, p_hit, p_miss, p_nil, s_done, s_go, s_put_loc, s_put_reg, s_put_none, s_back, okV, okH, ob_some, cond_bool, bc_true, bc_false, v_int, v_bool, v_str, v_nil, oBin, oConv, oBuildSlice, oUn, oLoad, oStore, oFieldAddr, oIndexAddr, oIndex, oSlice, oExtract, oPick, oAlloc, oBox, oNil, oBuild, stepC, s_call, oBuiltin, oLen, oAppend, optV_none, optV_some, parts_nil, parts_cons, vals_nil, vals_cons, a_ref, Nat.zero_add, ldr_b, ldr_bad, str_b, fo159_0, fo159_1, own82, List.append_nil, List.nil_append, List.map_cons, List.map_nil, melt_int, melt_ref, h, index0]
  exact ⟨_, rfl, rfl, by kernel_rfl⟩
theorem f79_ok (k : Nat) (hk : 1 ≤ k) (b : UInt8) (q : List UInt8) (hl : q.length < 1000000) : callN Pt.env (k + 1) 79 [.ref 0 0] [rb (b :: q)] = some (.ret (.int .u8 (b.toNat : Int)), [rb q]) := by
  obtain ⟨k, rfl⟩ : ∃ j, k = j + 1 := ⟨k - 1, by omega⟩
  obtain ⟨st, h1, h2, h3⟩ := f79_run (callN Pt.env (k + 1)) (k + 1) b q (callAt_rd _ 82 (b :: q) q [.int .u64 1] (.str [b]) rfl rfl (f82_ok k [b] q (by simp; omega)))
  exact callN_ret Pt.env _ (k + 1) 79 _ Tryz.f79 (codeOf Tryz.f79) st _ (by kernel_rfl) (by kernel_rfl) rfl (by kernel_rfl) h1 h2 h3
theorem f80_run (call : CallT) (lf : Nat) (X : Nat) (p q : List UInt8) (hp1 : 0 < p.length) (hp : p.length < 1000000) (h : callAt call 140 [.str (p ++ q)] [rb (p ++ q)] = some (.ret (.tuple [.int .u64 X, .int .i64 p.length]), [rb (p ++ q)]))
    (h2 : callAt call 82 [.ref 0 0, .int .u64 p.length] [rb (p ++ q)] = some (.ret (.str p), [rb q])) :
    ∃ st, runCode Pt.env call lf (codeOf Tryz.f80) ⟨⟨Pt.env.mask 80, [(0, .ref 0 0)], []⟩, [rb (p ++ q)], 29, []⟩ = some (.ret, st) ∧ st.defers = [] ∧ finishA Pt.env Tryz.f80 st st.heap = some (.ret (.int .u64 X), [rb q]) := by
  have h1 : decide ((p.length : Int) ≤ 0) = false := by simp; intro h; rw [h] at hp1; simp at hp1
  have hc (H : List ABlk) := conv3_25 H p.length (by omega)
  rw [m80]
  dsimp only [codeOf, Tryz.f80]
  simp (disch := decide) only [c_seq, c_cond, c_block, c_exit, c_skip, c_ret, c_region, o_cons, o_guard, o_nil, sg_true, sg_false, t_normal, t_exit, t_ret, lv_ret, lv_normal, lv_exit, w_move, w_assign, w_bin, w_conv, w_build, w_call, w_pick, w_alloc, w_box, w_agg, w_load, w_store, w_nil, w_un, w_iface, w_func, w_slice, w_faddr, w_field, w_iaddr, w_index, w_extract, e_loc, e_reg, e_const, e_func, e_glob, g_hit, g_miss, p_hit, p_miss, p_nil, s_done, s_go, s_put_loc, s_put_reg, s_put_none, s_back, okV, okH, ob_some, cond_bool, bc_true, bc_false, v_int, v_bool, v_str, v_nil, oBin, oConv, oBuildSlice, oUn, oLoad, oStore, oFieldAddr, oIndexAddr, oIndex, oSlice, oExtract, oPick, oAlloc, oBox, oNil, oBuild, stepC, s_call, oBuiltin, oLen, oAppend, optV_none, optV_some, parts_nil, parts_cons, vals_nil, vals_cons, wg, wo_some, wv_bool, wv_undef, nth_zero, nth_succ, beq_tt, beq_ff, beq_tf, beq_ft, Bool.not_true, Bool.not_false, a_ref, Nat.zero_add, ldr_b, ldr_bad, str_b, fo159_0, fo159_1, own82, own140, List.append_nil, List.nil_append, List.map_cons, List.map_nil, melt_int, melt_ref, melt_str, h, h2, nth_pair0, nth_pair1, b_leq, h1, hc]
  exact ⟨_, rfl, rfl, by kernel_rfl⟩
theorem f80_ok (k : Nat) (hk : 14 < k) (X : Nat) (hX : X < 18446744073709551616) (q : List UInt8) (hl : q.length < 1000000) : callN Pt.env (k + 1) 80 [.ref 0 0] [rb (vb 9 X ++ q)] = some (.ret (.int .u64 X), [rb q]) := by
  obtain ⟨k, rfl⟩ : ∃ j, k = j + 1 := ⟨k - 1, by omega⟩
  have hv := vb_length 9 X
  obtain ⟨st, h1, h2, h3⟩ := f80_run (callN Pt.env (k + 1)) (k + 1) X (vb 9 X) q (vb_pos 9 X) (by omega) (callAt_bare _ 140 _ _ _ _ rfl (f140_ok k (by omega) X hX q) rfl)
    (callAt_rd _ 82 (vb 9 X ++ q) q [.int .u64 (vb 9 X).length] (.str (vb 9 X)) rfl rfl (f82_ok k (vb 9 X) q (by simp; omega)))
  exact callN_ret Pt.env _ (k + 1) 80 _ Tryz.f80 (codeOf Tryz.f80) st _ (by kernel_rfl) (by kernel_rfl) rfl (by kernel_rfl) h1 h2 h3
theorem f81_run (call : CallT) (lf : Nat) (n : Int) (s s' s'' t : List UInt8) (h : callAt call 80 [.ref 0 0] [rb s] = some (.ret (.int .u64 n), [rb s']))
    (h2 : callAt call 82 [.ref 0 0, .int .u64 n] [rb s'] = some (.ret (.str t), [rb s''])) :
    ∃ st, runCode Pt.env call lf (codeOf Tryz.f81) ⟨⟨Pt.env.mask 81, [(0, .ref 0 0)], []⟩, [rb s], 7, []⟩ = some (.ret, st) ∧ st.defers = [] ∧ finishA Pt.env Tryz.f81 st st.heap = some (.ret (.str t), [rb s'']) := by
  rw [m81]
  dsimp only [codeOf, Tryz.f81]
  simp (disch := decide) only [c_seq, c_cond, c_block, c_exit, c_skip, c_ret, c_region, o_cons, o_guard, o_nil, sg_true, sg_false, t_normal, t_exit, t_ret, lv_ret, lv_normal, lv_exit, w_move, w_assign, w_bin, w_conv, w_build, w_call, w_pick, w_alloc, w_box, w_agg, w_load, w_store, w_nil, w_un, w_iface, w_func, w_slice, w_faddr, w_field, w_iaddr, w_index, w_extract, e_loc, e_reg, e_const, e_func, e_glob, g_hit, g_miss, p_hit, p_miss, p_nil, s_done, s_go, s_put_loc, s_put_reg, s_put_none, s_back, okV, okH, ob_some, cond_bool, bc_true, bc_false, v_int, v_bool, v_str, v_nil, oBin, oConv, oBuildSlice, oUn, oLoad, oStore, oFieldAddr, oIndexAddr, oIndex, oSlice, oExtract, oPick, oAlloc, oBox, oNil, oBuild, stepC, s_call, oBuiltin, oLen, oAppend, optV_none, optV_some, parts_nil, parts_cons, vals_nil, vals_cons, own82, own80, List.append_nil, List.nil_append, List.map_cons, List.map_nil, melt_int, melt_ref, h, h2]
  exact ⟨_, rfl, rfl, by kernel_rfl⟩
theorem f81_ok (k : Nat) (hk : 16 < k) (t q : List UInt8) (ht : t.length < 100000) (hl : q.length < 100000) : callN Pt.env (k + 1) 81 [.ref 0 0] [rb (vb 9 t.length ++ t ++ q)] = some (.ret (.str t), [rb q]) := by
  obtain ⟨k, rfl⟩ : ∃ j, k = j + 1 := ⟨k - 1, by omega⟩
  obtain ⟨st, h1, h2, h3⟩ := f81_run (callN Pt.env (k + 1)) (k + 1) t.length (vb 9 t.length ++ t ++ q) (t ++ q) q t
    (callAt_rd _ 80 _ _ [] (.int .u64 t.length) rfl rfl (by rw [List.append_assoc]; exact f80_ok k (by omega) t.length (by omega) (t ++ q) (by simp; omega)))
    (callAt_rd _ 82 (t ++ q) q [.int .u64 t.length] (.str t) rfl rfl (f82_ok k t q (by simp; omega)))
  exact callN_ret Pt.env _ (k + 1) 81 _ Tryz.f81 (codeOf Tryz.f81) st _ (by kernel_rfl) (by kernel_rfl) rfl (by kernel_rfl) h1 h2 h3
end Go.Proofs
set_option linter.unusedSimpArgs false
namespace Go.Proofs
open Go Go.Pm Go.Proofs.Sum
set_option maxRecDepth 100000
theorem m28 : Pt.env.mask 28 = 1021 := by kernel_rfl
theorem own78 : Pt.env.owns 78 = false := by kernel_rfl
theorem own79 : Pt.env.owns 79 = false := by kernel_rfl
theorem own81 : Pt.env.owns 81 = false := by kernel_rfl
theorem own83 : Pt.env.owns 83 = false := by kernel_rfl
theorem own27 : Pt.env.owns 27 = false := by kernel_rfl
theorem hd77 (l : List AV) : handed Pt.env 77 l = l.map AV.melt := nr rfl
theorem hd78 (l : List AV) : handed Pt.env 78 l = l.map AV.melt := nr rfl
theorem lb1 (H : List ABlk) (s : List UInt8) : leads H [.str s] = [] := leads_bare H _ rfl
theorem lb2 (H : List ABlk) (s : List UInt8) (k : IntKind) (x : Int) : leads H [.str s, .int k x] = [] := leads_bare H _ rfl
theorem bld28 : buildA Pt.env.ty 28 [] = some (.agg (lc 0 0 0 0 [] 0 [] [] 0 [])) := by kernel_rfl
noncomputable def rbv (s : List UInt8) : AV := .agg [.str s, .bool false]
theorem bld159 (s : List UInt8) : buildA Pt.env.ty 159 [(0, .str s)] = some (rbv s) := by kernel_rfl
theorem cells_rbv (s : List UInt8) : ABlk.cells (AV.cells (rbv s)) = rb s := by kernel_rfl
theorem ldr1_bad (A : ABlk) (s : List UInt8) (H : List ABlk) : loadA Pt.env.ty (A :: rb s :: H) 4 (.ref 1 1) = some (.bool false) := by kernel_rfl
theorem conv5_3 (H : List ABlk) (b : UInt8) : convertA Pt.env.ty 5 3 H (.int .u8 (b.toNat : Int)) = some (.int .i64 (b.toNat : Int), H) := by
  have d3 : descT Pt.env.ty 3 = some (.int .i64) := by kernel_rfl
  have h : ∀ n : Fin 256, IntKind.wrap .i64 (n.1 : Int) = (n.1 : Int) := by decide +kernel
  have := h ⟨b.toNat, b.toNat_lt⟩
  simp only [convertA, d5, d3, this]
theorem conv25_3 (H : List ABlk) (n : Nat) (hn : n < 9223372036854775808) : convertA Pt.env.ty 25 3 H (.int .u64 (n : Int)) = some (.int .i64 (n : Int), H) := by
  have d3 : descT Pt.env.ty 3 = some (.int .i64) := by kernel_rfl
  have : IntKind.wrap .i64 (n : Int) = n := by simp only [IntKind.wrap, IntKind.signed, IntKind.bits]; simp [Int.bmod]; omega
  simp only [convertA, d25, d3, this]
theorem sub4 (n : Nat) (hn : n < 9223372036854775000) : IntKind.wrap .i64 (((n + 4 : Nat) : Int) - 4) = (n : Int) := by
  rw [show ((n + 4 : Nat) : Int) - 4 = (n : Int) from by omega]
  simp only [IntKind.wrap, IntKind.signed, IntKind.bits]; simp [Int.bmod]; omega
section
variable (call : CallT) (lf : Nat)
theorem f28_short (b : List UInt8) (hb : b.length < 4) :
    ∃ st, runCode Pt.env call lf (codeOf Tryz.f28) ⟨⟨Pt.env.mask 28, [(0, .str b)], []⟩, [], 93, []⟩ = some (.ret, st) ∧ st.defers = [] ∧ finishA Pt.env Tryz.f28 st st.heap = some (.ret (.tuple [.agg (lc 0 0 0 0 [] 0 [] [] 0 []), .int .i64 8]), st.heap) := by
  have h1 : decide ((b.length : Int) < 4) = true := by simp; omega
  rw [m28]
  dsimp only [codeOf, Tryz.f28]
  simp (disch := decide) only [c_seq, c_cond, c_block, c_exit, c_skip, c_ret, c_region, o_cons, o_guard, o_nil, sg_true, sg_false, t_normal, t_exit, t_ret, lv_ret, lv_normal, lv_exit, w_move, w_assign, w_bin, w_conv, w_build, w_call, w_pick, w_alloc, w_box, w_agg, w_load, w_store, w_nil, w_un, w_iface, w_func, w_slice, w_faddr, w_field, w_iaddr, w_index, w_extract, e_loc, e_reg, e_const, e_func, e_glob, g_hit, g_miss, p_hit, p_miss, p_nil, s_done, s_go, s_put_loc, s_put_reg, s_put_none, s_back, okV, okH, ob_some, cond_bool, bc_true, bc_false, v_int, v_bool, v_str, v_nil, oBin, oConv, oBuildSlice, oUn, oLoad, oStore, oFieldAddr, oIndexAddr, oIndex, oSlice, oExtract, oPick, oAlloc, oBox, oNil, oBuild, stepC, s_call, oBuiltin, oLen, oAppend, optV_none, optV_some, parts_nil, parts_cons, vals_nil, vals_cons, List.length_nil, List.nil_append, cellsA, zero28, len9', b_lss, h1, bld28, st0_28]
  exact ⟨_, rfl, rfl, by kernel_rfl⟩
theorem f28_sum (hd tl : List UInt8) (ht : tl.length = 4) (hl : hd.length < 1000000) (sm : BitVec 32) (n : Nat) (hne : sm.toNat ≠ n)
    (h77 : ∀ H, callAt call 77 [.str hd] H = some (.ret (.int .u32 (sm.toNat : Nat)), H)) (h78 : ∀ H, callAt call 78 [.str tl, .int .i64 4] H = some (.ret (.int .u64 n), H)) :
    ∃ st, runCode Pt.env call lf (codeOf Tryz.f28) ⟨⟨Pt.env.mask 28, [(0, .str (hd ++ tl))], []⟩, [], 93, []⟩ = some (.ret, st) ∧ st.defers = [] ∧ finishA Pt.env Tryz.f28 st st.heap = some (.ret (.tuple [.agg (lc 0 0 0 0 [] 0 [] [] 0 []), .int .i64 8]), st.heap) := by
  have h1 : decide (((hd ++ tl).length : Int) < 4) = false := by simp; omega
  have h2 := sub4 hd.length (by omega)
  rw [show hd.length + 4 = (hd ++ tl).length from by simp [ht]] at h2
  have h3 : ((sm.toNat : Int) != (n : Int)) = true := by simp; omega
  rw [m28]
  dsimp only [codeOf, Tryz.f28]
  simp (disch := decide) only [c_seq, c_cond, c_block, c_exit, c_skip, c_ret, c_region, o_cons, o_guard, o_nil, sg_true, sg_false, t_normal, t_exit, t_ret, lv_ret, lv_normal, lv_exit, w_move, w_assign, w_bin, w_conv, w_build, w_call, w_pick, w_alloc, w_box, w_agg, w_load, w_store, w_nil, w_un, w_iface, w_func, w_slice, w_faddr, w_field, w_iaddr, w_index, w_extract, e_loc, e_reg, e_const, e_func, e_glob, g_hit, g_miss, p_hit, p_miss, p_nil, s_done, s_go, s_put_loc, s_put_reg, s_put_none, s_back, okV, okH, ob_some, cond_bool, bc_true, bc_false, v_int, v_bool, v_str, v_nil, oBin, oConv, oBuildSlice, oUn, oLoad, oStore, oFieldAddr, oIndexAddr, oIndex, oSlice, oExtract, oPick, oAlloc, oBox, oNil, oBuild, stepC, s_call, oBuiltin, oLen, oAppend, optV_none, optV_some, parts_nil, parts_cons, vals_nil, vals_cons, List.length_nil, List.nil_append, List.append_nil, List.map_cons, List.map_nil, melt_str, melt_int, cellsA, zero28, len9', b_lss, b_sub, b_neq, h1, h2, h3, bld28, st0_28, slice_hi, slice_lo, own77, own78, h77, h78, conv150_25,
    c_draw, d_cons, d_nil, ko_move, ko_bin, ko_call, ko_len, ko_slice, kl_str, ko_conv, kc_int, kf_call, dk_plain, dk_read0, dk_write0, dk_read, dk_write, tn_normal, lb1, lb2, hd77, hd78, allOf_nil]
  exact ⟨_, rfl, rfl, by kernel_rfl⟩
theorem f28_good (hd tl : List UInt8) (ht : tl.length = 4) (hl : hd.length < 1000000) (sm : BitVec 32) (a f t : UInt8) (sq pr cd : Nat) (key sv md bd p8 : List UInt8) (r1 r2 r3 r4 r5 r6 r7 r8 r9 r10 : List UInt8) (hcd : cd ≤ 999)
    (h77 : ∀ H, callAt call 77 [.str hd] H = some (.ret (.int .u32 (sm.toNat : Nat)), H)) (h78 : ∀ H, callAt call 78 [.str tl, .int .i64 4] H = some (.ret (.int .u64 sm.toNat), H))
    (g1 : ∀ A C, callAt call 79 [.ref 1 0] [A, rb hd, C] = some (.ret (.int .u8 (a.toNat : Int)), [A, rb r1, C]))
    (g2 : ∀ A C, callAt call 79 [.ref 1 0] [A, rb r1, C] = some (.ret (.int .u8 (f.toNat : Int)), [A, rb r2, C]))
    (g3 : ∀ A C, callAt call 79 [.ref 1 0] [A, rb r2, C] = some (.ret (.int .u8 (t.toNat : Int)), [A, rb r3, C]))
    (g4 : ∀ A C, callAt call 80 [.ref 1 0] [A, rb r3, C] = some (.ret (.int .u64 sq), [A, rb r4, C]))
    (g5 : ∀ A C, callAt call 81 [.ref 1 0] [A, rb r4, C] = some (.ret (.str key), [A, rb r5, C]))
    (g6 : ∀ A C, callAt call 82 [.ref 1 0, .int .u64 8] [A, rb r5, C] = some (.ret (.str p8), [A, rb r6, C]))
    (g6' : ∀ H, callAt call 83 [.str p8, .int .i64 8] H = some (.ret (.int .u64 pr), H))
    (g7 : ∀ A C, callAt call 81 [.ref 1 0] [A, rb r6, C] = some (.ret (.str sv), [A, rb r7, C]))
    (g8 : ∀ A C, callAt call 81 [.ref 1 0] [A, rb r7, C] = some (.ret (.str md), [A, rb r8, C]))
    (g9 : ∀ A C, callAt call 80 [.ref 1 0] [A, rb r8, C] = some (.ret (.int .u64 cd), [A, rb r9, C]))
    (g10 : ∀ A C, callAt call 81 [.ref 1 0] [A, rb r9, C] = some (.ret (.str bd), [A, rb r10, C]))
    (g27 : ∀ H, callAt call 27 [.agg (lc a.toNat f.toNat t.toNat sq key pr sv md cd bd)] H = some (.ret (.tuple [.str (hd ++ tl), .int .i64 0]), H)) :
    ∃ st, runCode Pt.env call lf (codeOf Tryz.f28) ⟨⟨Pt.env.mask 28, [(0, .str (hd ++ tl))], []⟩, [], 93, []⟩ = some (.ret, st) ∧ st.defers = [] ∧ finishA Pt.env Tryz.f28 st st.heap = some (.ret (.tuple [.agg (lc a.toNat f.toNat t.toNat sq key pr sv md cd bd), .int .i64 0]), st.heap) := by
  have h1 : decide (((hd ++ tl).length : Int) < 4) = false := by simp; omega
  have h2 := sub4 hd.length (by omega)
  rw [show hd.length + 4 = (hd ++ tl).length from by simp [ht]] at h2
  have h3 : ((sm.toNat : Int) != (sm.toNat : Int)) = false := by simp
  have hmin : (if (1000 : Int) < (cd : Int) then (1000 : Int) else (cd : Int)) = (cd : Int) := by rw [if_neg (by omega)]
  have hcv (H : List ABlk) := conv25_3 H cd (by omega)
  have h4 : ((0 : Int) != 0) = false := rfl
  rw [m28]
  dsimp only [codeOf, Tryz.f28]
  simp (disch := decide) only [c_seq, c_cond, c_block, c_exit, c_skip, c_ret, c_region, o_cons, o_guard, o_nil, sg_true, sg_false, t_normal, t_exit, t_ret, lv_ret, lv_normal, lv_exit, w_move, w_assign, w_bin, w_conv, w_build, w_call, w_pick, w_alloc, w_box, w_agg, w_load, w_store, w_nil, w_un, w_iface, w_func, w_slice, w_faddr, w_field, w_iaddr, w_index, w_extract, e_loc, e_reg, e_const, e_func, e_glob, g_hit, g_miss, p_hit, p_miss, p_nil, s_done, s_go, s_put_loc, s_put_reg, s_put_none, s_back, okV, okH, ob_some, cond_bool, bc_true, bc_false, v_int, v_bool, v_str, v_nil, oBin, oConv, oBuildSlice, oUn, oLoad, oStore, oFieldAddr, oIndexAddr, oIndex, oSlice, oExtract, oPick, oAlloc, oBox, oNil, oBuild, stepC, s_call, oBuiltin, oLen, oAppend, optV_none, optV_some, parts_nil, parts_cons, vals_nil, vals_cons, wg, wo_some, wv_bool, wv_undef, nth_zero, nth_succ, beq_tt, beq_ff, beq_tf, beq_ft, Bool.not_true, Bool.not_false, List.length_nil, List.length_cons, List.nil_append, List.append_nil, List.cons_append, List.map_cons, List.map_nil, melt_str, melt_int, melt_ref, melt_lc, cellsA, zero28, len9', b_lss, b_sub, b_neq, b_sne, beq_self_eq_true, u_not, h1, h2, h3, h4, slice_hi, slice_lo, own77, own78, own79, own80, own81, own82, own83, own27, h77, h78, g1, g2, g3, g4, g5, g6, g6', g7, g8, g9, g10, g27, conv150_25, conv5_3, hcv, mm_min, hmin, bld159, cells_rbv, ldr1_bad, a_ref, Nat.zero_add, Nat.reduceAdd, fo159_1, fo28_0, fo28_1, fo28_2, fo28_3, fo28_4, fo28_5, fo28_6, fo28_7, fo28_8, fo28_9, st0_28, ld2_28, st2_kd, st2_fr, st2_to, st2_sq, st2_key, st2_pr, st2_sv, st2_md, st2_cd, st2_bd, nth_pair0, nth_pair1,
    c_draw, d_cons, d_nil, ko_move, ko_bin, ko_call, ko_len, ko_slice, kl_str, ko_conv, kc_int, kf_call, dk_plain, dk_read0, dk_write0, dk_read, dk_write, tn_normal, lb1, lb2, hd77, hd78, allOf_nil]
  exact ⟨_, rfl, rfl, by kernel_rfl⟩
end
end Go.Proofs
set_option linter.unusedSimpArgs false
namespace Go.Proofs
open Go Go.Pm Go.Proofs.Sum
set_option maxRecDepth 100000
theorem crc_at (k : Nat) (hk : 300 ≤ k) (s : List UInt8) (hs : s.length + 2 < k) (H : List ABlk) : (hs2 : s.length < 9223372036854775807) → callAt (callN Pt.env k) 77 [.str s] H = some (.ret (.int .u32 ((Sum.sum s).toNat : Nat)), H) := by
  intro hs2
  obtain ⟨k, rfl⟩ : ∃ j, k = j + 1 := ⟨k - 1, by omega⟩
  exact callAt_bare _ 77 _ H _ _ rfl (f77_ok k s hs2 (by omega) (by omega)) rfl
theorem little_at (k : Nat) (hk : 10 ≤ k) (s : List UInt8) (hs : s.length = 4) (H : List ABlk) : callAt (callN Pt.env k) 78 [.str s, .int .i64 4] H = some (.ret (.int .u64 (little s)), H) := by
  obtain ⟨k, rfl⟩ : ∃ j, k = j + 1 := ⟨k - 1, by omega⟩
  exact callAt_bare _ 78 _ H _ _ rfl (f78_ok k (by omega) s hs) rfl
theorem read_short (k : Nat) (hk : 1 ≤ k) (b : List UInt8) (hb : b.length < 4) (H : List ABlk) : callAt (callN Pt.env k) 28 [.str b] H = some (.ret (.tuple [.agg (lc 0 0 0 0 [] 0 [] [] 0 []), .int .i64 8]), H) := by
  obtain ⟨k, rfl⟩ : ∃ j, k = j + 1 := ⟨k - 1, by omega⟩
  obtain ⟨st, h1, h2, h3⟩ := f28_short (callN Pt.env k) k b hb
  exact callAt_bare _ 28 _ H st.heap _ rfl (callN_ret Pt.env _ k 28 _ Tryz.f28 (codeOf Tryz.f28) st _ (by kernel_rfl) (by kernel_rfl) rfl (by kernel_rfl) h1 h2 h3) rfl
theorem read_sum (k : Nat) (hk : 302 ≤ k) (hd tl : List UInt8) (ht : tl.length = 4) (hl : hd.length < 1000000) (hk2 : hd.length + 3 < k) (hne : (Sum.sum hd).toNat ≠ little tl) (H : List ABlk) :
    callAt (callN Pt.env k) 28 [.str (hd ++ tl)] H = some (.ret (.tuple [.agg (lc 0 0 0 0 [] 0 [] [] 0 []), .int .i64 8]), H) := by
  obtain ⟨k, rfl⟩ : ∃ j, k = j + 1 := ⟨k - 1, by omega⟩
  obtain ⟨st, h1, h2, h3⟩ := f28_sum (callN Pt.env k) k hd tl ht hl (Sum.sum hd) (little tl) hne (fun H => crc_at k (by omega) hd (by omega) H (by omega)) (fun H => little_at k (by omega) tl ht H)
  exact callAt_bare _ 28 _ H st.heap _ rfl (callN_ret Pt.env _ k 28 _ Tryz.f28 (codeOf Tryz.f28) st _ (by kernel_rfl) (by kernel_rfl) rfl (by kernel_rfl) h1 h2 h3) rfl
section
variable (k : Nat) (A C : ABlk)
theorem rd79 (hk : 2 ≤ k) (b : UInt8) (q : List UInt8) (hl : q.length < 1000000) : callAt (callN Pt.env k) 79 [.ref 1 0] [A, rb (b :: q), C] = some (.ret (.int .u8 (b.toNat : Int)), [A, rb q, C]) := by
  obtain ⟨k, rfl⟩ : ∃ j, k = j + 1 := ⟨k - 1, by omega⟩
  exact callAt_rd1 _ 79 A C _ _ [] _ rfl rfl (f79_ok k (by omega) b q hl)
theorem rd80 (hk : 17 ≤ k) (X : Nat) (hX : X < 18446744073709551616) (q : List UInt8) (hl : q.length < 100000) : callAt (callN Pt.env k) 80 [.ref 1 0] [A, rb (vb 9 X ++ q), C] = some (.ret (.int .u64 X), [A, rb q, C]) := by
  obtain ⟨k, rfl⟩ : ∃ j, k = j + 1 := ⟨k - 1, by omega⟩
  exact callAt_rd1 _ 80 A C _ _ [] _ rfl rfl (f80_ok k (by omega) X hX q (by omega))
theorem rd81 (hk : 18 ≤ k) (t q : List UInt8) (ht : t.length < 100000) (hl : q.length < 100000) : callAt (callN Pt.env k) 81 [.ref 1 0] [A, rb (vb 9 t.length ++ t ++ q), C] = some (.ret (.str t), [A, rb q, C]) := by
  obtain ⟨k, rfl⟩ : ∃ j, k = j + 1 := ⟨k - 1, by omega⟩
  exact callAt_rd1 _ 81 A C _ _ [] _ rfl rfl (f81_ok k (by omega) t q ht hl)
theorem rd82 (hk : 2 ≤ k) (p q : List UInt8) (hp : p.length = 8) (hl : q.length < 100000) : callAt (callN Pt.env k) 82 [.ref 1 0, .int .u64 8] [A, rb (p ++ q), C] = some (.ret (.str p), [A, rb q, C]) := by
  obtain ⟨k, rfl⟩ : ∃ j, k = j + 1 := ⟨k - 1, by omega⟩
  have h := f82_ok k p q (by simp; omega)
  rw [hp] at h
  exact callAt_rd1 _ 82 A C _ _ [.int .u64 8] _ rfl rfl h
theorem rd83 (hk : 12 ≤ k) (p : List UInt8) (hp : p.length = 8) (H : List ABlk) : callAt (callN Pt.env k) 83 [.str p, .int .i64 8] H = some (.ret (.int .u64 (bigN p)), H) := by
  obtain ⟨k, rfl⟩ : ∃ j, k = j + 1 := ⟨k - 1, by omega⟩
  exact callAt_bare _ 83 _ H _ _ rfl (f83_ok k (by omega) p hp) rfl
end
section
variable (a f t : UInt8) (sq : Nat) (key : List UInt8) (pr : Nat) (sv md : List UInt8) (cd : Nat) (bd : List UInt8)
theorem read_ok (k : Nat) (hk : 800 ≤ k) (L : LOk a f t sq key pr sv md cd bd) (H : List ABlk) :
    callAt (callN Pt.env k) 28 [.str (pk a f t sq key pr sv md cd bd ++ four (Sum.sum (pk a f t sq key pr sv md cd bd)))] H = some (.ret (.tuple [.agg (lc a.toNat f.toNat t.toNat sq key pr sv md cd bd), .int .i64 0]), H) := by
  obtain ⟨k, rfl⟩ : ∃ j, k = j + 1 := ⟨k - 1, by omega⟩
  have hlen := L.len
  obtain ⟨r9, e9⟩ : ∃ r, r = vb 9 bd.length ++ bd ++ [] := ⟨_, rfl⟩
  obtain ⟨r8, e8⟩ : ∃ r, r = vb 9 cd ++ r9 := ⟨_, rfl⟩
  obtain ⟨r7, e7⟩ : ∃ r, r = vb 9 md.length ++ md ++ r8 := ⟨_, rfl⟩
  obtain ⟨r6, e6⟩ : ∃ r, r = vb 9 sv.length ++ sv ++ r7 := ⟨_, rfl⟩
  obtain ⟨r5, e5⟩ : ∃ r, r = big 8 pr ++ r6 := ⟨_, rfl⟩
  obtain ⟨r4, e4⟩ : ∃ r, r = vb 9 key.length ++ key ++ r5 := ⟨_, rfl⟩
  obtain ⟨r3, e3⟩ : ∃ r, r = vb 9 sq ++ r4 := ⟨_, rfl⟩
  have e0 : pk a f t sq key pr sv md cd bd = a :: f :: t :: r3 := by
    rw [e3, e4, e5, e6, e7, e8, e9, pk]
    simp only [List.append_assoc, List.cons_append, List.nil_append, List.append_nil]
  have l3 : r3.length ≤ 560 := by rw [e0] at hlen; simp at hlen; omega
  have l4 : r4.length ≤ 560 := by rw [e3] at l3; simp at l3; omega
  have l5 : r5.length ≤ 560 := by rw [e4] at l4; simp at l4; omega
  have l6 : r6.length ≤ 560 := by rw [e5] at l5; simp at l5; omega
  have l7 : r7.length ≤ 560 := by rw [e6] at l6; simp at l6; omega
  have l8 : r8.length ≤ 560 := by rw [e7] at l7; simp at l7; omega
  have l9 : r9.length ≤ 560 := by rw [e8] at l8; simp at l8; omega
  have lsv : sv.length ≤ 560 := by rw [e6] at l6; simp at l6; omega
  have lmd : md.length ≤ 560 := by rw [e7] at l7; simp at l7; omega
  have lbd : bd.length ≤ 560 := by rw [e9] at l9; simp at l9; omega
  have h78 : ∀ H, callAt (callN Pt.env k) 78 [.str (four (Sum.sum (pk a f t sq key pr sv md cd bd))), .int .i64 4] H = some (.ret (.int .u64 ((Sum.sum (pk a f t sq key pr sv md cd bd)).toNat : Nat)), H) := by
    intro H
    rw [little_at k (by omega) _ rfl H, little_four]
  have hb : bigN (big 8 pr) = pr := by rw [bigN_big]; exact Nat.mod_eq_of_lt L.hpr
  obtain ⟨st, h1, h2, h3⟩ := f28_good (callN Pt.env k) k (pk a f t sq key pr sv md cd bd) (four (Sum.sum (pk a f t sq key pr sv md cd bd))) rfl (by omega) (Sum.sum (pk a f t sq key pr sv md cd bd)) a f t sq pr cd key sv md bd (big 8 pr)
    (f :: t :: r3) (t :: r3) r3 r4 r5 r6 r7 r8 r9 [] L.hcd (fun H => crc_at k (by omega) _ (by omega) H (by omega)) h78
    (fun A C => by rw [e0]; exact rd79 k A C (by omega) a _ (by simp; omega))
    (fun A C => rd79 k A C (by omega) f _ (by simp; omega))
    (fun A C => rd79 k A C (by omega) t _ (by omega))
    (fun A C => by rw [e3]; exact rd80 k A C (by omega) sq L.hsq r4 (by omega))
    (fun A C => by rw [e4]; exact rd81 k A C (by omega) key r5 (by have := L.hk2; omega) (by omega))
    (fun A C => by rw [e5]; exact rd82 k A C (by omega) _ r6 (big_length 8 pr) (by omega))
    (fun H => by rw [rd83 k (by omega) _ (big_length 8 pr) H, hb])
    (fun A C => by rw [e6]; exact rd81 k A C (by omega) sv r7 (by omega) (by omega))
    (fun A C => by rw [e7]; exact rd81 k A C (by omega) md r8 (by omega) (by omega))
    (fun A C => by rw [e8]; exact rd80 k A C (by omega) cd (by have := L.hcd; omega) r9 (by omega))
    (fun A C => by rw [e9]; exact rd81 k A C (by omega) bd [] (by omega) (by simp))
    (fun H => pack_ok a f t sq key pr sv md cd bd k (by omega) L H)
  exact callAt_bare _ 28 _ H st.heap _ rfl (callN_ret Pt.env _ k 28 _ Tryz.f28 (codeOf Tryz.f28) st _ (by kernel_rfl) (by kernel_rfl) rfl (by kernel_rfl) h1 h2 h3) rfl
end
end Go.Proofs
