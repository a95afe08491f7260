/-
envelope.Answer.
redresstop.lettered: the letter's bytes by hand, up to its print.
redresstop.lettered: service and method.
-/
import Derived.Test.YtpgdfpcihamldaaGreatDoorK23
set_option linter.unusedSimpArgs false
namespace Go.Proofs
open Go Go.Pm Go.Proofs.Sum
set_option maxRecDepth 100000
theorem m29 : Pt.env.mask 29 = 4194511 := by kernel_rfl
theorem bldA (fr to sq : Int) (key : List UInt8) (pr cd : Int) (bd : List UInt8) : buildA Pt.env.ty 28 [(1, .int .i64 fr), (2, .int .i64 to), (3, .int .u64 sq), (4, .str key), (5, .int .u64 pr), (8, .int .i64 cd), (9, .str bd)] = some (.agg (lc 0 fr to sq key pr [] [] cd bd)) := by kernel_rfl
section
variable (call : CallT) (lf : Nat) (fr to sq pr cd cd' : Int) (key sv md bd bd' : List UInt8)
theorem f29_1 : ∃ st, runCode Pt.env call lf (codeOf Tryz.f29) ⟨⟨Pt.env.mask 29, [(0, .agg (lc 1 fr to sq key pr sv md cd bd)), (1, .int .i64 cd'), (2, .str bd')], []⟩, [], 30, []⟩ = some (.ret, st) ∧ st.defers = [] ∧ finishA Pt.env Tryz.f29 st st.heap = some (.ret (.agg (lc 2 to fr sq key pr [] [] cd' bd')), st.heap) := by
  rw [m29]
  dsimp only [codeOf, Tryz.f29]
  simp (disch := decide) only [c_seq, c_cond, c_block, c_exit, c_skip, c_ret, c_region, o_cons, o_guard, o_nil, sg_true, sg_false, t_normal, t_exit, t_ret, lv_ret, lv_normal, lv_exit, w_move, w_assign, w_bin, w_conv, w_build, w_call, w_pick, w_alloc, w_box, w_agg, w_load, w_store, w_nil, w_un, w_iface, w_func, w_slice, w_faddr, w_field, w_iaddr, w_index, w_extract, e_loc, e_reg, e_const, e_func, e_glob, g_hit, g_miss, p_hit, p_miss, p_nil, s_done, s_go, s_put_loc, s_put_reg, s_put_none, s_back, okV, okH, ob_some, cond_bool, bc_true, bc_false, v_int, v_bool, v_str, v_nil, oBin, oConv, oBuildSlice, oUn, oLoad, oStore, oFieldAddr, oIndexAddr, oIndex, oSlice, oExtract, oPick, oAlloc, oBox, oNil, oBuild, stepC, s_call, oBuiltin, oLen, oAppend, optV_none, optV_some, parts_nil, parts_cons, vals_nil, vals_cons, ld0_kd, ld0_fr, ld0_to, ld0_sq, ld0_key, ld0_pr, ld0_sv, ld0_md, ld0_cd, ld0_bd, ld0_28, fo28_0, fo28_1, fo28_2, fo28_3, fo28_4, fo28_5, fo28_6, fo28_7, fo28_8, fo28_9, a_ref, cellsA, u_not, Nat.zero_add, List.length_nil, List.length_cons, List.nil_append, List.append_nil, List.cons_append, Nat.reduceAdd, zero28, bldA, st2_28, st2_kd, ld2_28, st1_28, b_eql, Int.reduceBEq]
  exact ⟨_, rfl, rfl, by kernel_rfl⟩
theorem f29_2 : ∃ st, runCode Pt.env call lf (codeOf Tryz.f29) ⟨⟨Pt.env.mask 29, [(0, .agg (lc 2 fr to sq key pr sv md cd bd)), (1, .int .i64 cd'), (2, .str bd')], []⟩, [], 30, []⟩ = some (.ret, st) ∧ st.defers = [] ∧ finishA Pt.env Tryz.f29 st st.heap = some (.ret (.agg (lc 0 to fr sq key pr [] [] cd' bd')), st.heap) := by
  rw [m29]
  dsimp only [codeOf, Tryz.f29]
  simp (disch := decide) only [c_seq, c_cond, c_block, c_exit, c_skip, c_ret, c_region, o_cons, o_guard, o_nil, sg_true, sg_false, t_normal, t_exit, t_ret, lv_ret, lv_normal, lv_exit, w_move, w_assign, w_bin, w_conv, w_build, w_call, w_pick, w_alloc, w_box, w_agg, w_load, w_store, w_nil, w_un, w_iface, w_func, w_slice, w_faddr, w_field, w_iaddr, w_index, w_extract, e_loc, e_reg, e_const, e_func, e_glob, g_hit, g_miss, p_hit, p_miss, p_nil, s_done, s_go, s_put_loc, s_put_reg, s_put_none, s_back, okV, okH, ob_some, cond_bool, bc_true, bc_false, v_int, v_bool, v_str, v_nil, oBin, oConv, oBuildSlice, oUn, oLoad, oStore, oFieldAddr, oIndexAddr, oIndex, oSlice, oExtract, oPick, oAlloc, oBox, oNil, oBuild, stepC, s_call, oBuiltin, oLen, oAppend, optV_none, optV_some, parts_nil, parts_cons, vals_nil, vals_cons, ld0_kd, ld0_fr, ld0_to, ld0_sq, ld0_key, ld0_pr, ld0_sv, ld0_md, ld0_cd, ld0_bd, ld0_28, fo28_0, fo28_1, fo28_2, fo28_3, fo28_4, fo28_5, fo28_6, fo28_7, fo28_8, fo28_9, a_ref, cellsA, u_not, Nat.zero_add, List.length_nil, List.length_cons, List.nil_append, List.append_nil, List.cons_append, Nat.reduceAdd, zero28, bldA, st2_28, st2_kd, ld2_28, st1_28, b_eql, Int.reduceBEq]
  exact ⟨_, rfl, rfl, by kernel_rfl⟩
theorem f29_3 : ∃ st, runCode Pt.env call lf (codeOf Tryz.f29) ⟨⟨Pt.env.mask 29, [(0, .agg (lc 3 fr to sq key pr sv md cd bd)), (1, .int .i64 cd'), (2, .str bd')], []⟩, [], 30, []⟩ = some (.ret, st) ∧ st.defers = [] ∧ finishA Pt.env Tryz.f29 st st.heap = some (.ret (.agg (lc 4 to fr sq key pr [] [] cd' bd')), st.heap) := by
  rw [m29]
  dsimp only [codeOf, Tryz.f29]
  simp (disch := decide) only [c_seq, c_cond, c_block, c_exit, c_skip, c_ret, c_region, o_cons, o_guard, o_nil, sg_true, sg_false, t_normal, t_exit, t_ret, lv_ret, lv_normal, lv_exit, w_move, w_assign, w_bin, w_conv, w_build, w_call, w_pick, w_alloc, w_box, w_agg, w_load, w_store, w_nil, w_un, w_iface, w_func, w_slice, w_faddr, w_field, w_iaddr, w_index, w_extract, e_loc, e_reg, e_const, e_func, e_glob, g_hit, g_miss, p_hit, p_miss, p_nil, s_done, s_go, s_put_loc, s_put_reg, s_put_none, s_back, okV, okH, ob_some, cond_bool, bc_true, bc_false, v_int, v_bool, v_str, v_nil, oBin, oConv, oBuildSlice, oUn, oLoad, oStore, oFieldAddr, oIndexAddr, oIndex, oSlice, oExtract, oPick, oAlloc, oBox, oNil, oBuild, stepC, s_call, oBuiltin, oLen, oAppend, optV_none, optV_some, parts_nil, parts_cons, vals_nil, vals_cons, ld0_kd, ld0_fr, ld0_to, ld0_sq, ld0_key, ld0_pr, ld0_sv, ld0_md, ld0_cd, ld0_bd, ld0_28, fo28_0, fo28_1, fo28_2, fo28_3, fo28_4, fo28_5, fo28_6, fo28_7, fo28_8, fo28_9, a_ref, cellsA, u_not, Nat.zero_add, List.length_nil, List.length_cons, List.nil_append, List.append_nil, List.cons_append, Nat.reduceAdd, zero28, bldA, st2_28, st2_kd, ld2_28, st1_28, b_eql, Int.reduceBEq]
  exact ⟨_, rfl, rfl, by kernel_rfl⟩
theorem f29_4 : ∃ st, runCode Pt.env call lf (codeOf Tryz.f29) ⟨⟨Pt.env.mask 29, [(0, .agg (lc 4 fr to sq key pr sv md cd bd)), (1, .int .i64 cd'), (2, .str bd')], []⟩, [], 30, []⟩ = some (.ret, st) ∧ st.defers = [] ∧ finishA Pt.env Tryz.f29 st st.heap = some (.ret (.agg (lc 0 to fr sq key pr [] [] cd' bd')), st.heap) := by
  rw [m29]
  dsimp only [codeOf, Tryz.f29]
  simp (disch := decide) only [c_seq, c_cond, c_block, c_exit, c_skip, c_ret, c_region, o_cons, o_guard, o_nil, sg_true, sg_false, t_normal, t_exit, t_ret, lv_ret, lv_normal, lv_exit, w_move, w_assign, w_bin, w_conv, w_build, w_call, w_pick, w_alloc, w_box, w_agg, w_load, w_store, w_nil, w_un, w_iface, w_func, w_slice, w_faddr, w_field, w_iaddr, w_index, w_extract, e_loc, e_reg, e_const, e_func, e_glob, g_hit, g_miss, p_hit, p_miss, p_nil, s_done, s_go, s_put_loc, s_put_reg, s_put_none, s_back, okV, okH, ob_some, cond_bool, bc_true, bc_false, v_int, v_bool, v_str, v_nil, oBin, oConv, oBuildSlice, oUn, oLoad, oStore, oFieldAddr, oIndexAddr, oIndex, oSlice, oExtract, oPick, oAlloc, oBox, oNil, oBuild, stepC, s_call, oBuiltin, oLen, oAppend, optV_none, optV_some, parts_nil, parts_cons, vals_nil, vals_cons, ld0_kd, ld0_fr, ld0_to, ld0_sq, ld0_key, ld0_pr, ld0_sv, ld0_md, ld0_cd, ld0_bd, ld0_28, fo28_0, fo28_1, fo28_2, fo28_3, fo28_4, fo28_5, fo28_6, fo28_7, fo28_8, fo28_9, a_ref, cellsA, u_not, Nat.zero_add, List.length_nil, List.length_cons, List.nil_append, List.append_nil, List.cons_append, Nat.reduceAdd, zero28, bldA, st2_28, st2_kd, ld2_28, st1_28, b_eql, Int.reduceBEq]
  exact ⟨_, rfl, rfl, by kernel_rfl⟩
theorem answer_ok (k : Nat) (hk : 1 ≤ k) (a : UInt8) (ha : a = 1 ∨ a = 2 ∨ a = 3 ∨ a = 4) (H : List ABlk) :
    callAt (callN Pt.env k) 29 [.agg (lc a.toNat fr to sq key pr sv md cd bd), .int .i64 cd', .str bd'] H = some (.ret (.agg (lc (if a = 1 then 2 else if a = 3 then 4 else 0) to fr sq key pr [] [] cd' bd')), H) := by
  obtain ⟨k, rfl⟩ : ∃ j, k = j + 1 := ⟨k - 1, by omega⟩
  have : ∃ st, runCode Pt.env (callN Pt.env k) k (codeOf Tryz.f29) ⟨⟨Pt.env.mask 29, [(0, .agg (lc a.toNat fr to sq key pr sv md cd bd)), (1, .int .i64 cd'), (2, .str bd')], []⟩, [], 30, []⟩ = some (.ret, st) ∧ st.defers = [] ∧ finishA Pt.env Tryz.f29 st st.heap = some (.ret (.agg (lc (if a = 1 then 2 else if a = 3 then 4 else 0) to fr sq key pr [] [] cd' bd')), st.heap) := by
    rcases ha with rfl | rfl | rfl | rfl
    · exact f29_1 _ _ fr to sq pr cd cd' key sv md bd bd'
    · exact f29_2 _ _ fr to sq pr cd cd' key sv md bd bd'
    · exact f29_3 _ _ fr to sq pr cd cd' key sv md bd bd'
    · exact f29_4 _ _ fr to sq pr cd cd' key sv md bd bd'
  obtain ⟨st, h1, h2, h3⟩ := this
  exact callAt_bare _ 29 _ H st.heap _ rfl (callN_ret Pt.env _ k 29 _ Tryz.f29 (codeOf Tryz.f29) st _ (by kernel_rfl) (by kernel_rfl) rfl (by kernel_rfl) h1 h2 h3) rfl
end
end Go.Proofs
set_option linter.unusedSimpArgs false
namespace Go.Proofs
open Go Go.Pm Go.Proofs.Sum
set_option maxRecDepth 100000
theorem m9 : Pt.env.mask 9 = 4035225266124488143 := by kernel_rfl
theorem own25 : Pt.env.owns 25 = false := by kernel_rfl
theorem own26 : Pt.env.owns 26 = false := by kernel_rfl
theorem own28 : Pt.env.owns 28 = false := by kernel_rfl
theorem own29 : Pt.env.owns 29 = false := by kernel_rfl
theorem hd25 (l : List AV) : handed Pt.env 25 l = l.map AV.melt := nr rfl
theorem lb3 (H : List ABlk) (k : IntKind) (x : Int) : leads H [.int k x] = [] := leads_bare H _ rfl
theorem kc_sS (b : Bool) (bs : List UInt8) : kConvK (some (sS b bs)) = some .plain := nr rfl
theorem toStrS (H : List ABlk) (b : Bool) (s : List UInt8) : convertA Pt.env.ty 22 9 H (sS b s) = some (.str s, H) := toStr H _ s _ rfl
theorem small_at (k : Nat) (hk : 12 ≤ k) (x : Nat) (hx : x < 18446744073709551616) (H : List ABlk) : callAt (callN Pt.env k) 25 [.int .u64 x] H = some (.ret (.str (vb 9 x)), H) := by
  obtain ⟨k, rfl⟩ : ∃ j, k = j + 1 := ⟨k - 1, by omega⟩
  obtain ⟨H1, h⟩ := f25_ok k (by omega) x hx
  exact callAt_bare _ 25 _ H _ _ rfl h rfl
theorem ble_add (x y : List UInt8) (hx : x.length ≤ 1000000) (hy : y.length ≤ 1000000) : Nat.ble (x.length + y.length) 4611686018427387904 = true := Nat.ble_eq_true_of_le (by omega)
section
variable (call : CallT) (lf : Nat) (a f t : UInt8) (sq pr cd : Nat) (key sv md bd : List UInt8)
noncomputable def lb (a f t : UInt8) (sq pr cd : Nat) (key sv md bd : List UInt8) : List AV := lc a.toNat f.toNat t.toNat sq key pr sv md cd bd
theorem f9_head (at_ mask : AV) (hk : key.length ≤ 64) (h25 : ∀ x : Nat, x < 18446744073709551616 → ∀ H, callAt call 25 [.int .u64 x] H = some (.ret (.str (vb 9 x)), H)) (hsq : sq < 18446744073709551616) (c : Code) :
    ∃ reg, runCode Pt.env call lf (.seq (subC [0] (codeOf Tryz.f9)) (.seq (subC [1, 0] (codeOf Tryz.f9)) c)) ⟨⟨4035225266124488143, [(0, .agg (lc a.toNat f.toNat t.toNat sq key pr sv md cd bd)), (1, at_), (2, mask)], []⟩, [], 185, []⟩ =
      runCode Pt.env call lf c ⟨⟨4035225266124488143, [(0, .agg (lc a.toNat f.toNat t.toNat sq key pr sv md cd bd)), (1, at_), (2, mask), (3, .ref 0 0), (6, .bool false), (7, .str ([a, f, t] ++ vb 9 sq ++ vb 9 key.length ++ key))], reg⟩, [.cells (lc a.toNat f.toNat t.toNat sq key pr sv md cd bd)], 185, []⟩ := by
  have v1 := vb_length 9 sq
  have v2 := vb_length 9 key.length
  have s1 := h25 sq hsq
  have s2 := h25 key.length (by omega)
  have hc (H : List ABlk) := conv3_25 H key.length (by omega)
  have a1 := ble_add [a, f, t] (vb 9 sq) (by simp) (by omega)
  have a2 := ble_add ([a, f, t] ++ vb 9 sq) (vb 9 key.length) (by simp; omega) (by omega)
  have a3 := ble_add ([a, f, t] ++ vb 9 sq ++ vb 9 key.length) key (by simp; omega) (by omega)
  clear v1 v2 h25
  dsimp only [codeOf, Tryz.f9, subC, bc, Nat.beq]
  simp (disch := first | decide | assumption) only [c_seq, c_cond, c_block, c_exit, c_skip, c_ret, c_region, o_cons, o_guard, o_nil, sg_true, sg_false, t_normal, t_exit, t_ret, lv_ret, lv_normal, lv_exit, w_move, w_assign, w_bin, w_conv, w_build, w_call, w_pick, w_alloc, w_box, w_agg, w_load, w_store, w_nil, w_un, w_iface, w_func, w_slice, w_faddr, w_field, w_iaddr, w_index, w_extract, e_loc, e_reg, e_const, e_func, e_glob, g_hit, g_miss, p_hit, p_miss, p_nil, s_done, s_go, s_put_loc, s_put_reg, s_put_none, s_back, okV, okH, ob_some, cond_bool, bc_true, bc_false, v_int, v_bool, v_str, v_nil, oBin, oConv, oBuildSlice, oUn, oLoad, oStore, oFieldAddr, oIndexAddr, oIndex, oSlice, oExtract, oPick, oAlloc, oBox, oNil, oBuild, stepC, s_call, oBuiltin, oLen, oAppend, optV_none, optV_some, parts_nil, parts_cons, vals_nil, vals_cons, ld0_kd, ld0_fr, ld0_to, ld0_sq, ld0_key, ld0_pr, ld0_sv, ld0_md, ld0_cd, ld0_bd, ld0_28, fo28_0, fo28_1, fo28_2, fo28_3, fo28_4, fo28_5, fo28_6, fo28_7, fo28_8, fo28_9, a_ref, cellsA, u_not, Nat.zero_add, List.length_nil, List.nil_append, List.append_nil, List.map_cons, List.map_nil, melt_str, melt_int, own25, s1, s2, hc, len9', conv3_5, byte3, toStrS, b_sadd,
    c_draw, d_cons, d_nil, ko_move, ko_bin, ko_call, ko_len, ko_load, ko_faddr, ko_build, ko_assign, kl_str, ko_conv, kc_int, kc_sS, kf_call, dk_plain, dk_read0, dk_write0, dk_read, dk_write, tn_normal, lf_ref, z3, z5, z9, z25, span_lit, readK_lit, lb3, hd25, allOf_nil]
  exact ⟨_, rfl⟩
noncomputable def B9 : Code := subC [1, 1, 0, 1, 0, 0] (codeOf Tryz.f9)
theorem toStr_1 (H : List ABlk) (w : UInt8) : convertA Pt.env.ty 22 9 H (.slice .exact 1 [.int .u8 (w.toNat : Int)]) = some (.str [w], H) := toStr H .exact [w] 1 rfl
theorem sub8 (n : Nat) (hn : n < 8) : IntKind.wrap .i64 (((8 * n : Nat) : Int) - 8) = ((8 * n : Nat) : Int) - 8 := by
  have h : ∀ n : Fin 8, IntKind.wrap .i64 (((8 * n.1 : Nat) : Int) - 8) = ((8 * n.1 : Nat) : Int) - 8 := by decide
  exact h ⟨n, hn⟩
theorem f9_round (at_ mask : AV) (r0 : List (Nat × AV)) (n : Nat) (hn : n < 8) (b : List UInt8) (hb : b.length ≤ 100000) :
    ∃ reg, runCode Pt.env call lf B9 ⟨⟨4035225266124488143, [(0, .agg (lc a.toNat f.toNat t.toNat sq key pr sv md cd bd)), (1, at_), (2, mask), (3, .ref 0 0), (6, .bool false), (7, .str b), (8, .int .i64 (8 * n : Nat))], r0⟩, [.cells (lc a.toNat f.toNat t.toNat sq key pr sv md cd bd)], 185, []⟩ =
      some (.normal, ⟨⟨4035225266124488143, [(0, .agg (lc a.toNat f.toNat t.toNat sq key pr sv md cd bd)), (1, at_), (2, mask), (3, .ref 0 0), (6, .bool false), (7, .str (b ++ [UInt8.ofNat (pr / 2 ^ (8 * n))])), (8, .int .i64 (((8 * n : Nat) : Int) - 8))], reg⟩, [.cells (lc a.toNat f.toNat t.toNat sq key pr sv md cd bd)], 185, []⟩) := by
  have h1 : decide (((8 * n : Nat) : Int) ≥ 0) = true := by simp; omega
  have hj0 : decide (((8 * n : Nat) : Int) < 0) = false := by simp; omega
  have h2 := shrI_nat pr n hn
  unfold shrI at h2
  have h3 := sub8 n hn
  have a1 := ble_add b [UInt8.ofNat (pr / 2 ^ (8 * n))] (by omega) (by simp)
  dsimp only [B9, codeOf, Tryz.f9, subC, bc, Nat.beq]
  simp (disch := first | decide | assumption) only [c_seq, c_cond, c_block, c_exit, c_skip, c_ret, c_region, o_cons, o_guard, o_nil, sg_true, sg_false, t_normal, t_exit, t_ret, lv_ret, lv_normal, lv_exit, w_move, w_assign, w_bin, w_conv, w_build, w_call, w_pick, w_alloc, w_box, w_agg, w_load, w_store, w_nil, w_un, w_iface, w_func, w_slice, w_faddr, w_field, w_iaddr, w_index, w_extract, e_loc, e_reg, e_const, e_func, e_glob, g_hit, g_miss, p_hit, p_miss, p_nil, s_done, s_go, s_put_loc, s_put_reg, s_put_none, s_back, okV, okH, ob_some, cond_bool, bc_true, bc_false, v_int, v_bool, v_str, v_nil, oBin, oConv, oBuildSlice, oUn, oLoad, oStore, oFieldAddr, oIndexAddr, oIndex, oSlice, oExtract, oPick, oAlloc, oBox, oNil, oBuild, stepC, s_call, oBuiltin, oLen, oAppend, optV_none, optV_some, parts_nil, parts_cons, vals_nil, vals_cons, ld0_kd, ld0_fr, ld0_to, ld0_sq, ld0_key, ld0_pr, ld0_sv, ld0_md, ld0_cd, ld0_bd, ld0_28, fo28_0, fo28_1, fo28_2, fo28_3, fo28_4, fo28_5, fo28_6, fo28_7, fo28_8, fo28_9, a_ref, cellsA, u_not, Nat.zero_add, b_geq, b_sub, b_shr _ _ _ _ _ _ _ hj0, h1, h2, h3, conv25_5, byte1, toStr_1, b_sadd]
  exact ⟨_, rfl⟩
theorem f9_stop (at_ mask bb la : AV) (H : List ABlk) (r0 : List (Nat × AV)) :
    ∃ reg, runCode Pt.env call lf B9 ⟨⟨4035225266124488143, [(0, la), (1, at_), (2, mask), (3, .ref 0 0), (6, .bool false), (7, bb), (8, .int .i64 (-8))], r0⟩, H, 185, []⟩ =
      some (.exit 0, ⟨⟨4035225266124488143, [(0, la), (1, at_), (2, mask), (3, .ref 0 0), (6, .bool false), (7, bb), (8, .int .i64 (-8))], reg⟩, H, 185, []⟩) := by
  have h1 : decide ((-8 : Int) ≥ 0) = false := by decide
  dsimp only [B9, codeOf, Tryz.f9, subC, bc, Nat.beq]
  simp (disch := decide) only [c_seq, c_cond, c_block, c_exit, c_skip, c_ret, c_region, o_cons, o_guard, o_nil, sg_true, sg_false, t_normal, t_exit, t_ret, lv_ret, lv_normal, lv_exit, w_move, w_assign, w_bin, w_conv, w_build, w_call, w_pick, w_alloc, w_box, w_agg, w_load, w_store, w_nil, w_un, w_iface, w_func, w_slice, w_faddr, w_field, w_iaddr, w_index, w_extract, e_loc, e_reg, e_const, e_func, e_glob, g_hit, g_miss, p_hit, p_miss, p_nil, s_done, s_go, s_put_loc, s_put_reg, s_put_none, s_back, okV, okH, ob_some, cond_bool, bc_true, bc_false, v_int, v_bool, v_str, v_nil, oBin, oConv, oBuildSlice, oUn, oLoad, oStore, oFieldAddr, oIndexAddr, oIndex, oSlice, oExtract, oPick, oAlloc, oBox, oNil, oBuild, stepC, s_call, oBuiltin, oLen, oAppend, optV_none, optV_some, parts_nil, parts_cons, vals_nil, vals_cons, b_geq, h1]
  exact ⟨_, rfl⟩
theorem f9_loop (at_ mask : AV) : ∀ (n k : Nat) (b : List UInt8) (r0 : List (Nat × AV)), n ≤ 8 → b.length + n ≤ 100000 → n < k → ∃ reg,
    loopN 7 1 (runCode Pt.env call lf B9) k ⟨⟨4035225266124488143, [(0, .agg (lc a.toNat f.toNat t.toNat sq key pr sv md cd bd)), (1, at_), (2, mask), (3, .ref 0 0), (6, .bool false), (7, .str b), (8, .int .i64 (((8 * n : Nat) : Int) - 8))], r0⟩, [.cells (lc a.toNat f.toNat t.toNat sq key pr sv md cd bd)], 185, []⟩ =
      some (.exit 0, ⟨⟨4035225266124488143, [(0, .agg (lc a.toNat f.toNat t.toNat sq key pr sv md cd bd)), (1, at_), (2, mask), (3, .ref 0 0), (6, .bool false), (7, .str (b ++ big n pr)), (8, .int .i64 (-8))], reg⟩, [.cells (lc a.toNat f.toNat t.toNat sq key pr sv md cd bd)], 185, []⟩) := by
  intro n
  induction n with
  | zero =>
    intro k b r0 _ hb hk
    obtain ⟨k, rfl⟩ : ∃ j, k = j + 1 := ⟨k - 1, by omega⟩
    obtain ⟨reg, hr⟩ := f9_stop call lf at_ mask (.str b) (.agg (lc a.toNat f.toNat t.toNat sq key pr sv md cd bd)) [.cells (lc a.toNat f.toNat t.toNat sq key pr sv md cd bd)] r0
    refine ⟨reg, ?_⟩
    rw [loopN_succ, show (((8 * 0 : Nat) : Int) - 8) = -8 from rfl, hr, t_exit]
    simp only [big, List.append_nil]
  | succ n ih =>
    intro k b r0 hn hb hk
    obtain ⟨k, rfl⟩ : ∃ j, k = j + 1 := ⟨k - 1, by omega⟩
    obtain ⟨reg, hr⟩ := f9_round call lf a f t sq pr cd key sv md bd at_ mask r0 n (by omega) b (by omega)
    obtain ⟨reg', h2⟩ := ih k (b ++ [UInt8.ofNat (pr / 2 ^ (8 * n))]) [] (by omega) (by simp; omega) (by omega)
    refine ⟨reg', ?_⟩
    rw [loopN_succ, show (((8 * (n + 1) : Nat) : Int) - 8) = (8 * n : Nat) from by omega, hr, t_normal]
    rw [show trim 7 1 _ = _ from trim0 4035225266124488143 7 _ reg 185 [] [.cells (lc a.toNat f.toNat t.toNat sq key pr sv md cd bd)], ob_some]
    show loopN 7 1 _ k ⟨⟨4035225266124488143, [(0, .agg (lc a.toNat f.toNat t.toNat sq key pr sv md cd bd)), (1, at_), (2, mask), (3, .ref 0 0), (6, .bool false), (7, .str (b ++ [UInt8.ofNat (pr / 2 ^ (8 * n))])), (8, .int .i64 (((8 * n : Nat) : Int) - 8))], []⟩, [.cells (lc a.toNat f.toNat t.toNat sq key pr sv md cd bd)], 185, []⟩ = _
    rw [h2, List.append_assoc]
    rfl
end
end Go.Proofs
set_option linter.unusedSimpArgs false
namespace Go.Proofs
open Go Go.Pm Go.Proofs.Sum
set_option maxRecDepth 100000
noncomputable def two (sv md : List UInt8) : AV := .slice .exact 2 [.str sv, .str md]
theorem bs33 (sv md : List UInt8) : buildSliceA Pt.env.ty 33 2 [(0, .str sv), (1, .str md)] = some (two sv md) := by kernel_rfl
theorem len33 (H : List ABlk) (sv md : List UInt8) : lenA Pt.env.ty H 33 (two sv md) = some (.int .i64 2) := by kernel_rfl
theorem ia33_0 (sv md : List UInt8) : indexAddrA Pt.env.ty 33 (two sv md) 0 = some (.eptr [.str sv, .str md]) := by kernel_rfl
theorem ia33_1 (sv md : List UInt8) : indexAddrA Pt.env.ty 33 (two sv md) 1 = some (.eptr [.str md]) := by kernel_rfl
theorem lde (H : List ABlk) (s : List UInt8) (l : List AV) : loadA Pt.env.ty H 9 (.eptr (.str s :: l)) = some (.str s) := by kernel_rfl
section
variable (call : CallT) (lf : Nat)
noncomputable def D9 : Code := subC [1, 1, 1, 0, 1, 0, 0] (codeOf Tryz.f9)
noncomputable def l9 (la at_ mask x8 : AV) (sv md b : List UInt8) (j : Int) : List (Nat × AV) := [(0, la), (1, at_), (2, mask), (3, .ref 0 0), (6, .bool false), (7, .str b), (8, x8), (59, two sv md), (60, .int .i64 2), (61, .int .i64 j)]
theorem f9_svc (la at_ mask x8 : AV) (H : List ABlk) (sv md b s : List UInt8) (j j' : Int) (l : List AV) (r0 : List (Nat × AV)) (hj : decide (j < 2) = true) (hia : indexAddrA Pt.env.ty 33 (two sv md) j = some (.eptr (.str s :: l))) (hj' : IntKind.wrap .i64 (j + 1) = j')
    (h25 : ∀ H, callAt call 25 [.int .u64 s.length] H = some (.ret (.str (vb 9 s.length)), H)) (hs : s.length ≤ 1000) (hb : b.length ≤ 100000) :
    ∃ v reg, runCode Pt.env call lf D9 ⟨⟨4035225266124488143, l9 la at_ mask x8 sv md b j, r0⟩, H, 185, []⟩ =
      some (.normal, ⟨⟨4035225266124488143, l9 la at_ mask x8 sv md (b ++ (vb 9 s.length ++ s)) j' ++ [(10, v)], reg⟩, H, 185, []⟩) := by
  have v1 := vb_length 9 s.length
  have hc (H : List ABlk) := conv3_25 H s.length (by omega)
  have a1 := ble_add (vb 9 s.length) s (by omega) (by omega)
  have a2 := ble_add b (vb 9 s.length ++ s) (by omega) (by simp; omega)
  dsimp only [D9, l9, codeOf, Tryz.f9, subC, bc, Nat.beq, List.cons_append, List.nil_append]
  simp (disch := first | decide | assumption) only [c_seq, c_cond, c_block, c_exit, c_skip, c_ret, c_region, o_cons, o_guard, o_nil, sg_true, sg_false, t_normal, t_exit, t_ret, lv_ret, lv_normal, lv_exit, w_move, w_assign, w_bin, w_conv, w_build, w_call, w_pick, w_alloc, w_box, w_agg, w_load, w_store, w_nil, w_un, w_iface, w_func, w_slice, w_faddr, w_field, w_iaddr, w_index, w_extract, e_loc, e_reg, e_const, e_func, e_glob, g_hit, g_miss, p_hit, p_miss, p_nil, s_done, s_go, s_put_loc, s_put_reg, s_put_none, s_back, okV, okH, ob_some, cond_bool, bc_true, bc_false, v_int, v_bool, v_str, v_nil, oBin, oConv, oBuildSlice, oUn, oLoad, oStore, oFieldAddr, oIndexAddr, oIndex, oSlice, oExtract, oPick, oAlloc, oBox, oNil, oBuild, stepC, s_call, oBuiltin, oLen, oAppend, optV_none, optV_some, parts_nil, parts_cons, vals_nil, vals_cons, b_lss, b_add, hj, hia, hj', lde, len9', hc, own25, h25, b_sadd, List.nil_append, List.append_nil, List.map_cons, List.map_nil, melt_int]
  exact ⟨_, _, rfl⟩
theorem f9_svc_stop (la at_ mask x8 : AV) (H : List ABlk) (sv md b : List UInt8) (r0 : List (Nat × AV)) :
    ∃ reg, runCode Pt.env call lf D9 ⟨⟨4035225266124488143, l9 la at_ mask x8 sv md b 2, r0⟩, H, 185, []⟩ =
      some (.exit 2, ⟨⟨4035225266124488143, l9 la at_ mask x8 sv md b 2, reg⟩, H, 185, []⟩) := by
  have h1 : decide ((2 : Int) < 2) = false := by decide
  dsimp only [D9, l9, codeOf, Tryz.f9, subC, bc, Nat.beq]
  simp (disch := decide) only [c_seq, c_cond, c_block, c_exit, c_skip, c_ret, c_region, o_cons, o_guard, o_nil, sg_true, sg_false, t_normal, t_exit, t_ret, lv_ret, lv_normal, lv_exit, w_move, w_assign, w_bin, w_conv, w_build, w_call, w_pick, w_alloc, w_box, w_agg, w_load, w_store, w_nil, w_un, w_iface, w_func, w_slice, w_faddr, w_field, w_iaddr, w_index, w_extract, e_loc, e_reg, e_const, e_func, e_glob, g_hit, g_miss, p_hit, p_miss, p_nil, s_done, s_go, s_put_loc, s_put_reg, s_put_none, s_back, okV, okH, ob_some, cond_bool, bc_true, bc_false, v_int, v_bool, v_str, v_nil, oBin, oConv, oBuildSlice, oUn, oLoad, oStore, oFieldAddr, oIndexAddr, oIndex, oSlice, oExtract, oPick, oAlloc, oBox, oNil, oBuild, stepC, s_call, oBuiltin, oLen, oAppend, optV_none, optV_some, parts_nil, parts_cons, vals_nil, vals_cons, b_lss, h1]
  exact ⟨_, rfl⟩
theorem f9_svcs (la at_ mask x8 : AV) (B : ABlk) (sv md b : List UInt8) (k : Nat) (hk : 3 < k) (r0 : List (Nat × AV)) (hs : sv.length ≤ 1000) (hm : md.length ≤ 1000) (hb : b.length ≤ 1000)
    (h25 : ∀ x : Nat, x < 18446744073709551616 → ∀ H, callAt call 25 [.int .u64 x] H = some (.ret (.str (vb 9 x)), H)) : ∃ reg,
    loopN 10 1 (runCode Pt.env call lf D9) k ⟨⟨4035225266124488143, l9 la at_ mask x8 sv md b 0, r0⟩, [B], 185, []⟩ =
      some (.exit 2, ⟨⟨4035225266124488143, l9 la at_ mask x8 sv md (b ++ (vb 9 sv.length ++ sv) ++ (vb 9 md.length ++ md)) 2, reg⟩, [B], 185, []⟩) := by
  obtain ⟨k, rfl⟩ : ∃ j, k = j + 3 := ⟨k - 3, by omega⟩
  have v1 := vb_length 9 sv.length
  obtain ⟨w1, q1, e1⟩ := f9_svc call lf la at_ mask x8 [B] sv md b sv 0 1 [.str md] r0 (by decide) (ia33_0 sv md) (by decide) (h25 sv.length (by omega)) hs (by omega)
  obtain ⟨w2, q2, e2⟩ := f9_svc call lf la at_ mask x8 [B] sv md (b ++ (vb 9 sv.length ++ sv)) md 1 2 [] [] (by decide) (ia33_1 sv md) (by decide) (h25 md.length (by omega)) hm (by simp; omega)
  obtain ⟨q3, e3⟩ := f9_svc_stop call lf la at_ mask x8 [B] sv md (b ++ (vb 9 sv.length ++ sv) ++ (vb 9 md.length ++ md)) []
  refine ⟨q3, ?_⟩
  rw [loopN_succ, e1, t_normal, show trim 10 1 _ = _ from trim0 4035225266124488143 10 _ q1 185 [] [B], ob_some]
  rw [show List.take 10 (l9 la at_ mask x8 sv md (b ++ (vb 9 sv.length ++ sv)) 1 ++ [(10, w1)]) = l9 la at_ mask x8 sv md (b ++ (vb 9 sv.length ++ sv)) 1 from rfl]
  rw [loopN_succ, e2, t_normal, show trim 10 1 _ = _ from trim0 4035225266124488143 10 _ q2 185 [] [B], ob_some]
  rw [show List.take 10 (l9 la at_ mask x8 sv md (b ++ (vb 9 sv.length ++ sv) ++ (vb 9 md.length ++ md)) 2 ++ [(10, w2)]) = l9 la at_ mask x8 sv md (b ++ (vb 9 sv.length ++ sv) ++ (vb 9 md.length ++ md)) 2 from rfl]
  rw [loopN_succ, e3, t_exit]
end
end Go.Proofs
