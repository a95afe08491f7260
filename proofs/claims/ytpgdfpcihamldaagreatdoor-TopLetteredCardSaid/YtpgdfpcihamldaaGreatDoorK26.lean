/-
redresstop.TopLettered: the letter that it makes, and the four by hand.
redresstop.TopLettered, whole, in the plain machine.
-/
import Derived.Test.YtpgdfpcihamldaaGreatDoorK25
set_option linter.unusedSimpArgs false
namespace Go.Proofs
open Go Go.Pm Go.Proofs.Sum
set_option maxRecDepth 100000
theorem m4 : Pt.env.mask 4 = 15729663 := by kernel_rfl
theorem own9 : Pt.env.owns 9 = false := by kernel_rfl
theorem own8 : Pt.env.owns 8 = false := by kernel_rfl
theorem bldL (kd fr to sq : Int) (key : List UInt8) (pr : Int) (bd : List UInt8) : buildA Pt.env.ty 28 [(0, .int .u8 kd), (1, .int .i64 fr), (2, .int .i64 to), (3, .int .u64 sq), (4, .str key), (5, .int .u64 pr), (9, .str bd)] = some (.agg (lc kd fr to sq key pr [] [] 0 bd)) := by kernel_rfl
theorem bldX (kd to sq : Int) (key : List UInt8) (pr : Int) : buildA Pt.env.ty 28 [(0, .int .u8 kd), (2, .int .i64 to), (3, .int .u64 sq), (4, .str key), (5, .int .u64 pr)] = some (.agg (lc kd 0 to sq key pr [] [] 0 [])) := by kernel_rfl
theorem d26 : descT Pt.env.ty 26 = some (.int .u16) := by kernel_rfl
theorem wrap_small (n : Nat) (hn : n < 65536) : IntKind.wrap .i64 (n : Int) = n := by
  simp only [IntKind.wrap, IntKind.signed, IntKind.bits]; simp [Int.bmod]; omega
theorem conv26_3 (H : List ABlk) (n : Nat) (hn : n < 65536) : convertA Pt.env.ty 26 3 H (.int .u16 (n : Int)) = some (.int .i64 (n : Int), H) := by
  have d3 : descT Pt.env.ty 3 = some (.int .i64) := by kernel_rfl
  simp only [convertA, d26, d3, wrap_small n hn]
theorem z28 : sizeT Pt.env.ty 28 = some 10 := by kernel_rfl
theorem anc_fold (anc : List Nat) (i : Nat) : ∀ (es : List Edge) (s : Nat), (s.testBit i = true ∨ (es.any fun e => Region.binds .any e && Nat.beq e.on i) = true) → (es.foldl (fun s e => bc (Region.binds .any e) (s ||| 2 ^ e.on ||| (match nth anc e.on with | some a => a | none => 0)) s) s).testBit i = true := by
  intro es
  induction es with
  | nil =>
    intro s h
    rcases h with h | h
    · exact h
    · simp at h
  | cons e es ih =>
    intro s h
    rw [List.foldl_cons]
    apply ih
    cases hb : Region.binds .any e with
    | false =>
      rw [bc_false]
      rcases h with h | h
      · exact .inl h
      · rw [List.any_cons, hb, Bool.false_and, Bool.false_or] at h
        exact .inr h
    | true =>
      rw [bc_true]
      rcases h with h | h
      · left
        rw [Nat.testBit_or, Nat.testBit_or, h]; rfl
      · rw [List.any_cons, hb, Bool.true_and, Bool.or_eq_true] at h
        rcases h with h | h
        · left
          rw [Nat.testBit_or, Nat.testBit_or, Nat.eq_of_beq_eq_true h, Nat.testBit_two_pow_self]
          simp
        · exact .inr h
theorem dk_write1 (anc : List Nat) (dst : Option Tmp) (op : Op) (ty : TypeId) (pos : String) (es : List Edge) (i j : Nat) (wr : Bool) (fp fp' : List (Nat × Nat × Nat)) (k : List Rec → StR) (h : (es.any fun e => Region.binds .any e && Nat.beq e.on j) = true) :
    drawK (some (.write fp)) [⟨j, wr, fp'⟩] (ancOf anc ⟨dst, op, ty, pos, ⟨es⟩, none⟩) i k = k [⟨i, true, fp⟩, ⟨j, wr, fp'⟩] := by
  have h1 : (ancOf anc ⟨dst, op, ty, pos, ⟨es⟩, none⟩).testBit j = true := anc_fold anc j es 0 (.inr h)
  have h2 : freeA [⟨j, wr, fp'⟩] (ancOf anc ⟨dst, op, ty, pos, ⟨es⟩, none⟩) true fp = true := by simp only [freeA, List.all_cons, List.all_nil, h1, Bool.true_or, Bool.and_true]
  exact dk_write _ _ _ _ _ h2
section
variable (call : CallT) (lf : Nat)
noncomputable def a4 (kd fr to : UInt8) (sq : Nat) (key : List UInt8) (pr cd : Nat) (bd : List UInt8) (at_ : Nat) (mask : UInt8) : List (Nat × AV) :=
  [(0, .int .u8 (kd.toNat : Nat)), (1, .int .u8 (fr.toNat : Nat)), (2, .int .u8 (to.toNat : Nat)), (3, .int .u64 sq), (4, .str key), (5, .int .u64 pr), (6, .int .u16 cd), (7, .str bd), (8, .int .u16 at_), (9, .int .u8 (mask.toNat : Nat))]
theorem f4_head (kd fr to mask : UInt8) (sq pr cd at_ : Nat) (key bd : List UInt8) (a f t : UInt8) (ha : a.toNat = 1 + kd.toNat % 4) (hf : f.toNat = fr.toNat % 4) (ht : t.toNat = to.toNat % 4) (c : Code) :
    ∃ reg, runCode Pt.env call lf (.seq (subC [0] (codeOf Tryz.f4)) (.seq (subC [1, 0] (codeOf Tryz.f4)) c)) ⟨⟨15729663, a4 kd fr to sq key pr cd bd at_ mask, []⟩, [], 96, []⟩ =
      runCode Pt.env call lf c ⟨⟨15729663, a4 kd fr to sq key pr cd bd at_ mask ++ [(20, .bool false), (21, .ref 0 0)], reg⟩, [.cells (lc a.toNat f.toNat t.toNat sq ([107] ++ key.take (min key.length 63)) pr [] [] 0 (bd.take (min bd.length 300)))], 96, []⟩ := by
  have e1 : ((kd.toNat : Int).tmod 4) = ((kd.toNat % 4 : Nat) : Int) := Int.ofNat_tmod kd.toNat 4
  have e2 : IntKind.wrap .u8 (1 + ((kd.toNat % 4 : Nat) : Int)) = (a.toNat : Int) := by
    rw [show (1 : Int) + ((kd.toNat % 4 : Nat) : Int) = ((1 + kd.toNat % 4 : Nat) : Int) from by omega, wrap_u8, ha]
    congr 1; omega
  have e3 : ((fr.toNat : Int).tmod 4) = (f.toNat : Int) := by rw [hf]; exact Int.ofNat_tmod fr.toNat 4
  have e4 : ((to.toNat : Int).tmod 4) = (t.toNat : Int) := by rw [ht]; exact Int.ofNat_tmod to.toNat 4
  have e5 : (if (63 : Int) < (key.length : Int) then (63 : Int) else (key.length : Int)) = ((min key.length 63 : Nat) : Int) := by split <;> omega
  have e6 : (if (300 : Int) < (bd.length : Int) then (300 : Int) else (bd.length : Int)) = ((min bd.length 300 : Nat) : Int) := by split <;> omega
  have s1 (k : IntKind) := slice_take k key (min key.length 63) (by omega)
  have s2 (k : IntKind) := slice_take k bd (min bd.length 300) (by omega)
  have a1 := ble_add [107] (key.take (min key.length 63)) (by simp) (by simp; omega)
  dsimp only [a4, codeOf, Tryz.f4, subC, bc, Nat.beq, List.cons_append, List.nil_append]
  simp (disch := first | decide | assumption) only [c_seq, c_cond, c_block, c_exit, c_skip, c_ret, c_region, o_cons, o_guard, o_nil, sg_true, sg_false, t_normal, t_exit, t_ret, lv_ret, lv_normal, lv_exit, w_move, w_assign, w_bin, w_conv, w_build, w_call, w_pick, w_alloc, w_box, w_agg, w_load, w_store, w_nil, w_un, w_iface, w_func, w_slice, w_faddr, w_field, w_iaddr, w_index, w_extract, e_loc, e_reg, e_const, e_func, e_glob, g_hit, g_miss, p_hit, p_miss, p_nil, s_done, s_go, s_put_loc, s_put_reg, s_put_none, s_back, okV, okH, ob_some, cond_bool, bc_true, bc_false, v_int, v_bool, v_str, v_nil, oBin, oConv, oBuildSlice, oUn, oLoad, oStore, oFieldAddr, oIndexAddr, oIndex, oSlice, oExtract, oPick, oAlloc, oBox, oNil, oBuild, stepC, s_call, oBuiltin, oLen, oAppend, optV_none, optV_some, parts_nil, parts_cons, vals_nil, vals_cons, List.length_nil, List.length_cons, List.nil_append, List.append_nil, List.cons_append, cellsA, b_rem, b_add, e1, e2, e3, e4, e5, e6, conv5_3, len9', mm_min, s1, s2, b_sadd, bldL, zero28, st0_28,
    c_draw, d_cons, d_nil, ko_move, ko_bin, ko_len, ko_slice, ko_agg, ko_assign, ko_alloc, ko_store, ko_min, kl_str, ko_conv, kc_int, dk_plain, dk_write0, dk_write1, tn_normal, lf_ref, z28, span_lit, writeK_lit]
  exact ⟨_, rfl⟩
theorem f4_mid1 (kd fr to mask : UInt8) (sq pr cd at_ : Nat) (key bd key' bd' : List UInt8) (f t : Int) (r0 : List (Nat × AV)) (c : Code) :
    ∃ reg, runCode Pt.env call lf (.seq (subC [1, 1, 0] (codeOf Tryz.f4)) (.seq (subC [1, 1, 1, 0] (codeOf Tryz.f4)) c)) ⟨⟨15729663, a4 kd fr to sq key pr cd bd at_ mask ++ [(20, .bool false), (21, .ref 0 0)], r0⟩, [.cells (lc 1 f t sq key' pr [] [] 0 bd')], 96, []⟩ =
      runCode Pt.env call lf c ⟨⟨15729663, a4 kd fr to sq key pr cd bd at_ mask ++ [(20, .bool false), (21, .ref 0 0)], reg⟩, [.cells (lc 1 f t sq key' pr [83] [116, 97, 107, 101, 95, 49] 0 bd')], 96, []⟩ := by
  have e1 : ((cd : Int).tmod 1000) = ((cd % 1000 : Nat) : Int) := Int.ofNat_tmod cd 1000
  have hc (H : List ABlk) := conv26_3 H (cd % 1000) (by omega)
  dsimp only [a4, codeOf, Tryz.f4, subC, bc, Nat.beq, List.cons_append, List.nil_append]
  simp (disch := decide) only [c_seq, c_cond, c_block, c_exit, c_skip, c_ret, c_region, o_cons, o_guard, o_nil, sg_true, sg_false, t_normal, t_exit, t_ret, lv_ret, lv_normal, lv_exit, w_move, w_assign, w_bin, w_conv, w_build, w_call, w_pick, w_alloc, w_box, w_agg, w_load, w_store, w_nil, w_un, w_iface, w_func, w_slice, w_faddr, w_field, w_iaddr, w_index, w_extract, e_loc, e_reg, e_const, e_func, e_glob, g_hit, g_miss, p_hit, p_miss, p_nil, s_done, s_go, s_put_loc, s_put_reg, s_put_none, s_back, okV, okH, ob_some, cond_bool, bc_true, bc_false, v_int, v_bool, v_str, v_nil, oBin, oConv, oBuildSlice, oUn, oLoad, oStore, oFieldAddr, oIndexAddr, oIndex, oSlice, oExtract, oPick, oAlloc, oBox, oNil, oBuild, stepC, s_call, oBuiltin, oLen, oAppend, optV_none, optV_some, parts_nil, parts_cons, vals_nil, vals_cons, ld0_kd, ld0_fr, ld0_to, ld0_sq, ld0_key, ld0_pr, ld0_sv, ld0_md, ld0_cd, ld0_bd, ld0_28, fo28_0, fo28_1, fo28_2, fo28_3, fo28_4, fo28_5, fo28_6, fo28_7, fo28_8, fo28_9, a_ref, cellsA, u_not, Nat.zero_add, wg, wo_some, wv_bool, wv_undef, nth_zero, nth_succ, beq_tt, beq_ff, beq_tf, beq_ft, Bool.not_true, Bool.not_false, Int.reduceBEq, b_eql, b_rem, e1, hc, st0_sv, st0_md, st0_cd, st0_bd]
  exact ⟨_, rfl⟩
theorem f4_mid2 (kd fr to mask : UInt8) (sq pr cd at_ : Nat) (key bd key' bd' : List UInt8) (f t : Int) (r0 : List (Nat × AV)) (c : Code) :
    ∃ reg, runCode Pt.env call lf (.seq (subC [1, 1, 0] (codeOf Tryz.f4)) (.seq (subC [1, 1, 1, 0] (codeOf Tryz.f4)) c)) ⟨⟨15729663, a4 kd fr to sq key pr cd bd at_ mask ++ [(20, .bool false), (21, .ref 0 0)], r0⟩, [.cells (lc 2 f t sq key' pr [] [] 0 bd')], 96, []⟩ =
      runCode Pt.env call lf c ⟨⟨15729663, a4 kd fr to sq key pr cd bd at_ mask ++ [(20, .bool false), (21, .ref 0 0)], reg⟩, [.cells (lc 2 f t sq key' pr [] [] (cd % 1000 : Nat) bd')], 96, []⟩ := by
  have e1 : ((cd : Int).tmod 1000) = ((cd % 1000 : Nat) : Int) := Int.ofNat_tmod cd 1000
  have hc (H : List ABlk) := conv26_3 H (cd % 1000) (by omega)
  dsimp only [a4, codeOf, Tryz.f4, subC, bc, Nat.beq, List.cons_append, List.nil_append]
  simp (disch := decide) only [c_seq, c_cond, c_block, c_exit, c_skip, c_ret, c_region, o_cons, o_guard, o_nil, sg_true, sg_false, t_normal, t_exit, t_ret, lv_ret, lv_normal, lv_exit, w_move, w_assign, w_bin, w_conv, w_build, w_call, w_pick, w_alloc, w_box, w_agg, w_load, w_store, w_nil, w_un, w_iface, w_func, w_slice, w_faddr, w_field, w_iaddr, w_index, w_extract, e_loc, e_reg, e_const, e_func, e_glob, g_hit, g_miss, p_hit, p_miss, p_nil, s_done, s_go, s_put_loc, s_put_reg, s_put_none, s_back, okV, okH, ob_some, cond_bool, bc_true, bc_false, v_int, v_bool, v_str, v_nil, oBin, oConv, oBuildSlice, oUn, oLoad, oStore, oFieldAddr, oIndexAddr, oIndex, oSlice, oExtract, oPick, oAlloc, oBox, oNil, oBuild, stepC, s_call, oBuiltin, oLen, oAppend, optV_none, optV_some, parts_nil, parts_cons, vals_nil, vals_cons, ld0_kd, ld0_fr, ld0_to, ld0_sq, ld0_key, ld0_pr, ld0_sv, ld0_md, ld0_cd, ld0_bd, ld0_28, fo28_0, fo28_1, fo28_2, fo28_3, fo28_4, fo28_5, fo28_6, fo28_7, fo28_8, fo28_9, a_ref, cellsA, u_not, Nat.zero_add, wg, wo_some, wv_bool, wv_undef, nth_zero, nth_succ, beq_tt, beq_ff, beq_tf, beq_ft, Bool.not_true, Bool.not_false, Int.reduceBEq, b_eql, b_rem, e1, hc, st0_sv, st0_md, st0_cd, st0_bd]
  exact ⟨_, rfl⟩
theorem f4_mid3 (kd fr to mask : UInt8) (sq pr cd at_ : Nat) (key bd key' bd' : List UInt8) (f t : Int) (r0 : List (Nat × AV)) (c : Code) :
    ∃ reg, runCode Pt.env call lf (.seq (subC [1, 1, 0] (codeOf Tryz.f4)) (.seq (subC [1, 1, 1, 0] (codeOf Tryz.f4)) c)) ⟨⟨15729663, a4 kd fr to sq key pr cd bd at_ mask ++ [(20, .bool false), (21, .ref 0 0)], r0⟩, [.cells (lc 3 f t sq key' pr [] [] 0 bd')], 96, []⟩ =
      runCode Pt.env call lf c ⟨⟨15729663, a4 kd fr to sq key pr cd bd at_ mask ++ [(20, .bool false), (21, .ref 0 0)], reg⟩, [.cells (lc 3 f t sq key' pr [83] [116, 97, 107, 101, 95, 49] 0 [])], 96, []⟩ := by
  have e1 : ((cd : Int).tmod 1000) = ((cd % 1000 : Nat) : Int) := Int.ofNat_tmod cd 1000
  have hc (H : List ABlk) := conv26_3 H (cd % 1000) (by omega)
  dsimp only [a4, codeOf, Tryz.f4, subC, bc, Nat.beq, List.cons_append, List.nil_append]
  simp (disch := decide) only [c_seq, c_cond, c_block, c_exit, c_skip, c_ret, c_region, o_cons, o_guard, o_nil, sg_true, sg_false, t_normal, t_exit, t_ret, lv_ret, lv_normal, lv_exit, w_move, w_assign, w_bin, w_conv, w_build, w_call, w_pick, w_alloc, w_box, w_agg, w_load, w_store, w_nil, w_un, w_iface, w_func, w_slice, w_faddr, w_field, w_iaddr, w_index, w_extract, e_loc, e_reg, e_const, e_func, e_glob, g_hit, g_miss, p_hit, p_miss, p_nil, s_done, s_go, s_put_loc, s_put_reg, s_put_none, s_back, okV, okH, ob_some, cond_bool, bc_true, bc_false, v_int, v_bool, v_str, v_nil, oBin, oConv, oBuildSlice, oUn, oLoad, oStore, oFieldAddr, oIndexAddr, oIndex, oSlice, oExtract, oPick, oAlloc, oBox, oNil, oBuild, stepC, s_call, oBuiltin, oLen, oAppend, optV_none, optV_some, parts_nil, parts_cons, vals_nil, vals_cons, ld0_kd, ld0_fr, ld0_to, ld0_sq, ld0_key, ld0_pr, ld0_sv, ld0_md, ld0_cd, ld0_bd, ld0_28, fo28_0, fo28_1, fo28_2, fo28_3, fo28_4, fo28_5, fo28_6, fo28_7, fo28_8, fo28_9, a_ref, cellsA, u_not, Nat.zero_add, wg, wo_some, wv_bool, wv_undef, nth_zero, nth_succ, beq_tt, beq_ff, beq_tf, beq_ft, Bool.not_true, Bool.not_false, Int.reduceBEq, b_eql, b_rem, e1, hc, st0_sv, st0_md, st0_cd, st0_bd]
  exact ⟨_, rfl⟩
theorem f4_mid4 (kd fr to mask : UInt8) (sq pr cd at_ : Nat) (key bd key' bd' : List UInt8) (f t : Int) (r0 : List (Nat × AV)) (c : Code) :
    ∃ reg, runCode Pt.env call lf (.seq (subC [1, 1, 0] (codeOf Tryz.f4)) (.seq (subC [1, 1, 1, 0] (codeOf Tryz.f4)) c)) ⟨⟨15729663, a4 kd fr to sq key pr cd bd at_ mask ++ [(20, .bool false), (21, .ref 0 0)], r0⟩, [.cells (lc 4 f t sq key' pr [] [] 0 bd')], 96, []⟩ =
      runCode Pt.env call lf c ⟨⟨15729663, a4 kd fr to sq key pr cd bd at_ mask ++ [(20, .bool false), (21, .ref 0 0)], reg⟩, [.cells (lc 4 f t sq key' pr [] [] (cd % 1000 : Nat) bd')], 96, []⟩ := by
  have e1 : ((cd : Int).tmod 1000) = ((cd % 1000 : Nat) : Int) := Int.ofNat_tmod cd 1000
  have hc (H : List ABlk) := conv26_3 H (cd % 1000) (by omega)
  dsimp only [a4, codeOf, Tryz.f4, subC, bc, Nat.beq, List.cons_append, List.nil_append]
  simp (disch := decide) only [c_seq, c_cond, c_block, c_exit, c_skip, c_ret, c_region, o_cons, o_guard, o_nil, sg_true, sg_false, t_normal, t_exit, t_ret, lv_ret, lv_normal, lv_exit, w_move, w_assign, w_bin, w_conv, w_build, w_call, w_pick, w_alloc, w_box, w_agg, w_load, w_store, w_nil, w_un, w_iface, w_func, w_slice, w_faddr, w_field, w_iaddr, w_index, w_extract, e_loc, e_reg, e_const, e_func, e_glob, g_hit, g_miss, p_hit, p_miss, p_nil, s_done, s_go, s_put_loc, s_put_reg, s_put_none, s_back, okV, okH, ob_some, cond_bool, bc_true, bc_false, v_int, v_bool, v_str, v_nil, oBin, oConv, oBuildSlice, oUn, oLoad, oStore, oFieldAddr, oIndexAddr, oIndex, oSlice, oExtract, oPick, oAlloc, oBox, oNil, oBuild, stepC, s_call, oBuiltin, oLen, oAppend, optV_none, optV_some, parts_nil, parts_cons, vals_nil, vals_cons, ld0_kd, ld0_fr, ld0_to, ld0_sq, ld0_key, ld0_pr, ld0_sv, ld0_md, ld0_cd, ld0_bd, ld0_28, fo28_0, fo28_1, fo28_2, fo28_3, fo28_4, fo28_5, fo28_6, fo28_7, fo28_8, fo28_9, a_ref, cellsA, u_not, Nat.zero_add, wg, wo_some, wv_bool, wv_undef, nth_zero, nth_succ, beq_tt, beq_ff, beq_tf, beq_ft, Bool.not_true, Bool.not_false, Int.reduceBEq, b_eql, b_rem, e1, hc, st0_sv, st0_md, st0_cd, st0_bd]
  exact ⟨_, rfl⟩
noncomputable def B4 : Code := subC [1, 1, 1, 1, 0, 1, 0, 0] (codeOf Tryz.f4)
theorem f4_round1 (B : ABlk) (kd fr to mask : UInt8) (sq pr cd at_ : Nat) (key bd : List UInt8) (r0 : List (Nat × AV)) (h9 : ∀ H, callAt call 9 [.agg (lc 1 0 1 300 [107] 5 [83] [116] 0 [120]), .int .i64 5, .int .u8 128] H = some (.ret (.bool true), H)) :
    ∃ reg, runCode Pt.env call lf B4 ⟨⟨15729663, a4 kd fr to sq key pr cd bd at_ mask ++ [(20, .bool false), (21, .ref 0 0), (22, .int .u8 1)], r0⟩, [B], 96, []⟩ =
      some (.normal, ⟨⟨15729663, a4 kd fr to sq key pr cd bd at_ mask ++ [(20, .bool false), (21, .ref 0 0), (22, .int .u8 2), (23, .ref 1 0)], reg⟩, [B, .cells (lc 1 0 1 300 [107] 5 [83] [116] 0 [120])], 96, []⟩) := by
  have w1 : IntKind.wrap .u8 (1 + 1) = 2 := by decide
  have w2 : IntKind.wrap .i64 (1 * 5) = 5 := by decide
  have c1 (H : List ABlk) : convertA Pt.env.ty 5 3 H (.int .u8 1) = some (.int .i64 1, H) := conv5_3 H 1
  have l1 : decide ((1 : Int) < 5) = true := by decide
  dsimp only [B4, a4, codeOf, Tryz.f4, subC, bc, Nat.beq, List.cons_append, List.nil_append]
  simp (disch := decide) only [c_seq, c_cond, c_block, c_exit, c_skip, c_ret, c_region, o_cons, o_guard, o_nil, sg_true, sg_false, t_normal, t_exit, t_ret, lv_ret, lv_normal, lv_exit, w_move, w_assign, w_bin, w_conv, w_build, w_call, w_pick, w_alloc, w_box, w_agg, w_load, w_store, w_nil, w_un, w_iface, w_func, w_slice, w_faddr, w_field, w_iaddr, w_index, w_extract, e_loc, e_reg, e_const, e_func, e_glob, g_hit, g_miss, p_hit, p_miss, p_nil, s_done, s_go, s_put_loc, s_put_reg, s_put_none, s_back, okV, okH, ob_some, cond_bool, bc_true, bc_false, v_int, v_bool, v_str, v_nil, oBin, oConv, oBuildSlice, oUn, oLoad, oStore, oFieldAddr, oIndexAddr, oIndex, oSlice, oExtract, oPick, oAlloc, oBox, oNil, oBuild, stepC, s_call, oBuiltin, oLen, oAppend, optV_none, optV_some, parts_nil, parts_cons, vals_nil, vals_cons, ld0_kd, ld0_fr, ld0_to, ld0_sq, ld0_key, ld0_pr, ld0_sv, ld0_md, ld0_cd, ld0_bd, ld0_28, fo28_0, fo28_1, fo28_2, fo28_3, fo28_4, fo28_5, fo28_6, fo28_7, fo28_8, fo28_9, a_ref, cellsA, u_not, Nat.zero_add, wg, wo_some, wv_bool, wv_undef, nth_zero, nth_succ, beq_tt, beq_ff, beq_tf, beq_ft, Bool.not_true, Bool.not_false, List.length_nil, List.length_cons, List.nil_append, List.append_nil, List.cons_append, Nat.reduceAdd, List.map_cons, List.map_nil, melt_int, melt_lc, Int.reduceBEq, Int.reduceBNe, b_eql, b_neq, b_lss, b_add, b_mul, w1, w2, l1, c1, bldX, zero28, st1_28, st1_sv, st1_md, st1_bd, ld1_28, own9, h9]
  exact ⟨_, rfl⟩
theorem f4_round2 (B : ABlk) (kd fr to mask : UInt8) (sq pr cd at_ : Nat) (key bd : List UInt8) (r0 : List (Nat × AV)) (h9 : ∀ H, callAt call 9 [.agg (lc 2 0 1 300 [107] 5 [] [] 0 [120]), .int .i64 10, .int .u8 128] H = some (.ret (.bool true), H)) :
    ∃ reg, runCode Pt.env call lf B4 ⟨⟨15729663, a4 kd fr to sq key pr cd bd at_ mask ++ [(20, .bool false), (21, .ref 0 0), (22, .int .u8 2)], r0⟩, [B], 96, []⟩ =
      some (.normal, ⟨⟨15729663, a4 kd fr to sq key pr cd bd at_ mask ++ [(20, .bool false), (21, .ref 0 0), (22, .int .u8 3), (23, .ref 1 0)], reg⟩, [B, .cells (lc 2 0 1 300 [107] 5 [] [] 0 [120])], 96, []⟩) := by
  have w1 : IntKind.wrap .u8 (2 + 1) = 3 := by decide
  have w2 : IntKind.wrap .i64 (2 * 5) = 10 := by decide
  have c1 (H : List ABlk) : convertA Pt.env.ty 5 3 H (.int .u8 2) = some (.int .i64 2, H) := conv5_3 H 2
  have l1 : decide ((2 : Int) < 5) = true := by decide
  dsimp only [B4, a4, codeOf, Tryz.f4, subC, bc, Nat.beq, List.cons_append, List.nil_append]
  simp (disch := decide) only [c_seq, c_cond, c_block, c_exit, c_skip, c_ret, c_region, o_cons, o_guard, o_nil, sg_true, sg_false, t_normal, t_exit, t_ret, lv_ret, lv_normal, lv_exit, w_move, w_assign, w_bin, w_conv, w_build, w_call, w_pick, w_alloc, w_box, w_agg, w_load, w_store, w_nil, w_un, w_iface, w_func, w_slice, w_faddr, w_field, w_iaddr, w_index, w_extract, e_loc, e_reg, e_const, e_func, e_glob, g_hit, g_miss, p_hit, p_miss, p_nil, s_done, s_go, s_put_loc, s_put_reg, s_put_none, s_back, okV, okH, ob_some, cond_bool, bc_true, bc_false, v_int, v_bool, v_str, v_nil, oBin, oConv, oBuildSlice, oUn, oLoad, oStore, oFieldAddr, oIndexAddr, oIndex, oSlice, oExtract, oPick, oAlloc, oBox, oNil, oBuild, stepC, s_call, oBuiltin, oLen, oAppend, optV_none, optV_some, parts_nil, parts_cons, vals_nil, vals_cons, ld0_kd, ld0_fr, ld0_to, ld0_sq, ld0_key, ld0_pr, ld0_sv, ld0_md, ld0_cd, ld0_bd, ld0_28, fo28_0, fo28_1, fo28_2, fo28_3, fo28_4, fo28_5, fo28_6, fo28_7, fo28_8, fo28_9, a_ref, cellsA, u_not, Nat.zero_add, wg, wo_some, wv_bool, wv_undef, nth_zero, nth_succ, beq_tt, beq_ff, beq_tf, beq_ft, Bool.not_true, Bool.not_false, List.length_nil, List.length_cons, List.nil_append, List.append_nil, List.cons_append, Nat.reduceAdd, List.map_cons, List.map_nil, melt_int, melt_lc, Int.reduceBEq, Int.reduceBNe, b_eql, b_neq, b_lss, b_add, b_mul, w1, w2, l1, c1, bldX, zero28, st1_28, st1_sv, st1_md, st1_bd, ld1_28, own9, h9]
  exact ⟨_, rfl⟩
theorem f4_round3 (B : ABlk) (kd fr to mask : UInt8) (sq pr cd at_ : Nat) (key bd : List UInt8) (r0 : List (Nat × AV)) (h9 : ∀ H, callAt call 9 [.agg (lc 3 0 1 300 [107] 5 [83] [116] 0 []), .int .i64 15, .int .u8 128] H = some (.ret (.bool true), H)) :
    ∃ reg, runCode Pt.env call lf B4 ⟨⟨15729663, a4 kd fr to sq key pr cd bd at_ mask ++ [(20, .bool false), (21, .ref 0 0), (22, .int .u8 3)], r0⟩, [B], 96, []⟩ =
      some (.normal, ⟨⟨15729663, a4 kd fr to sq key pr cd bd at_ mask ++ [(20, .bool false), (21, .ref 0 0), (22, .int .u8 4), (23, .ref 1 0)], reg⟩, [B, .cells (lc 3 0 1 300 [107] 5 [83] [116] 0 [])], 96, []⟩) := by
  have w1 : IntKind.wrap .u8 (3 + 1) = 4 := by decide
  have w2 : IntKind.wrap .i64 (3 * 5) = 15 := by decide
  have c1 (H : List ABlk) : convertA Pt.env.ty 5 3 H (.int .u8 3) = some (.int .i64 3, H) := conv5_3 H 3
  have l1 : decide ((3 : Int) < 5) = true := by decide
  dsimp only [B4, a4, codeOf, Tryz.f4, subC, bc, Nat.beq, List.cons_append, List.nil_append]
  simp (disch := decide) only [c_seq, c_cond, c_block, c_exit, c_skip, c_ret, c_region, o_cons, o_guard, o_nil, sg_true, sg_false, t_normal, t_exit, t_ret, lv_ret, lv_normal, lv_exit, w_move, w_assign, w_bin, w_conv, w_build, w_call, w_pick, w_alloc, w_box, w_agg, w_load, w_store, w_nil, w_un, w_iface, w_func, w_slice, w_faddr, w_field, w_iaddr, w_index, w_extract, e_loc, e_reg, e_const, e_func, e_glob, g_hit, g_miss, p_hit, p_miss, p_nil, s_done, s_go, s_put_loc, s_put_reg, s_put_none, s_back, okV, okH, ob_some, cond_bool, bc_true, bc_false, v_int, v_bool, v_str, v_nil, oBin, oConv, oBuildSlice, oUn, oLoad, oStore, oFieldAddr, oIndexAddr, oIndex, oSlice, oExtract, oPick, oAlloc, oBox, oNil, oBuild, stepC, s_call, oBuiltin, oLen, oAppend, optV_none, optV_some, parts_nil, parts_cons, vals_nil, vals_cons, ld0_kd, ld0_fr, ld0_to, ld0_sq, ld0_key, ld0_pr, ld0_sv, ld0_md, ld0_cd, ld0_bd, ld0_28, fo28_0, fo28_1, fo28_2, fo28_3, fo28_4, fo28_5, fo28_6, fo28_7, fo28_8, fo28_9, a_ref, cellsA, u_not, Nat.zero_add, wg, wo_some, wv_bool, wv_undef, nth_zero, nth_succ, beq_tt, beq_ff, beq_tf, beq_ft, Bool.not_true, Bool.not_false, List.length_nil, List.length_cons, List.nil_append, List.append_nil, List.cons_append, Nat.reduceAdd, List.map_cons, List.map_nil, melt_int, melt_lc, Int.reduceBEq, Int.reduceBNe, b_eql, b_neq, b_lss, b_add, b_mul, w1, w2, l1, c1, bldX, zero28, st1_28, st1_sv, st1_md, st1_bd, ld1_28, own9, h9]
  exact ⟨_, rfl⟩
theorem f4_round4 (B : ABlk) (kd fr to mask : UInt8) (sq pr cd at_ : Nat) (key bd : List UInt8) (r0 : List (Nat × AV)) (h9 : ∀ H, callAt call 9 [.agg (lc 4 0 1 300 [107] 5 [] [] 0 [120]), .int .i64 20, .int .u8 128] H = some (.ret (.bool true), H)) :
    ∃ reg, runCode Pt.env call lf B4 ⟨⟨15729663, a4 kd fr to sq key pr cd bd at_ mask ++ [(20, .bool false), (21, .ref 0 0), (22, .int .u8 4)], r0⟩, [B], 96, []⟩ =
      some (.normal, ⟨⟨15729663, a4 kd fr to sq key pr cd bd at_ mask ++ [(20, .bool false), (21, .ref 0 0), (22, .int .u8 5), (23, .ref 1 0)], reg⟩, [B, .cells (lc 4 0 1 300 [107] 5 [] [] 0 [120])], 96, []⟩) := by
  have w1 : IntKind.wrap .u8 (4 + 1) = 5 := by decide
  have w2 : IntKind.wrap .i64 (4 * 5) = 20 := by decide
  have c1 (H : List ABlk) : convertA Pt.env.ty 5 3 H (.int .u8 4) = some (.int .i64 4, H) := conv5_3 H 4
  have l1 : decide ((4 : Int) < 5) = true := by decide
  dsimp only [B4, a4, codeOf, Tryz.f4, subC, bc, Nat.beq, List.cons_append, List.nil_append]
  simp (disch := decide) only [c_seq, c_cond, c_block, c_exit, c_skip, c_ret, c_region, o_cons, o_guard, o_nil, sg_true, sg_false, t_normal, t_exit, t_ret, lv_ret, lv_normal, lv_exit, w_move, w_assign, w_bin, w_conv, w_build, w_call, w_pick, w_alloc, w_box, w_agg, w_load, w_store, w_nil, w_un, w_iface, w_func, w_slice, w_faddr, w_field, w_iaddr, w_index, w_extract, e_loc, e_reg, e_const, e_func, e_glob, g_hit, g_miss, p_hit, p_miss, p_nil, s_done, s_go, s_put_loc, s_put_reg, s_put_none, s_back, okV, okH, ob_some, cond_bool, bc_true, bc_false, v_int, v_bool, v_str, v_nil, oBin, oConv, oBuildSlice, oUn, oLoad, oStore, oFieldAddr, oIndexAddr, oIndex, oSlice, oExtract, oPick, oAlloc, oBox, oNil, oBuild, stepC, s_call, oBuiltin, oLen, oAppend, optV_none, optV_some, parts_nil, parts_cons, vals_nil, vals_cons, ld0_kd, ld0_fr, ld0_to, ld0_sq, ld0_key, ld0_pr, ld0_sv, ld0_md, ld0_cd, ld0_bd, ld0_28, fo28_0, fo28_1, fo28_2, fo28_3, fo28_4, fo28_5, fo28_6, fo28_7, fo28_8, fo28_9, a_ref, cellsA, u_not, Nat.zero_add, wg, wo_some, wv_bool, wv_undef, nth_zero, nth_succ, beq_tt, beq_ff, beq_tf, beq_ft, Bool.not_true, Bool.not_false, List.length_nil, List.length_cons, List.nil_append, List.append_nil, List.cons_append, Nat.reduceAdd, List.map_cons, List.map_nil, melt_int, melt_lc, Int.reduceBEq, Int.reduceBNe, b_eql, b_neq, b_lss, b_add, b_mul, w1, w2, l1, c1, bldX, zero28, st1_28, st1_sv, st1_md, st1_bd, ld1_28, own9, h9]
  exact ⟨_, rfl⟩
end
end Go.Proofs
set_option linter.unusedSimpArgs false
namespace Go.Proofs
open Go Go.Pm Go.Proofs.Sum
set_option maxRecDepth 100000
section
variable (call : CallT) (lf : Nat) (kd fr to mask : UInt8) (sq pr cd at_ : Nat) (key bd : List UInt8)
theorem f4_stop (B : ABlk) (r0 : List (Nat × AV)) :
    ∃ reg, runCode Pt.env call lf B4 ⟨⟨15729663, a4 kd fr to sq key pr cd bd at_ mask ++ [(20, .bool false), (21, .ref 0 0), (22, .int .u8 5)], r0⟩, [B], 96, []⟩ =
      some (.exit 0, ⟨⟨15729663, a4 kd fr to sq key pr cd bd at_ mask ++ [(20, .bool false), (21, .ref 0 0), (22, .int .u8 5)], reg⟩, [B], 96, []⟩) := by
  have l1 : decide ((5 : Int) < 5) = false := by decide
  dsimp only [B4, a4, codeOf, Tryz.f4, subC, bc, Nat.beq, List.cons_append, List.nil_append]
  simp (disch := decide) only [c_seq, c_cond, c_block, c_exit, c_skip, c_ret, c_region, o_cons, o_guard, o_nil, sg_true, sg_false, t_normal, t_exit, t_ret, lv_ret, lv_normal, lv_exit, w_move, w_assign, w_bin, w_conv, w_build, w_call, w_pick, w_alloc, w_box, w_agg, w_load, w_store, w_nil, w_un, w_iface, w_func, w_slice, w_faddr, w_field, w_iaddr, w_index, w_extract, e_loc, e_reg, e_const, e_func, e_glob, g_hit, g_miss, p_hit, p_miss, p_nil, s_done, s_go, s_put_loc, s_put_reg, s_put_none, s_back, okV, okH, ob_some, cond_bool, bc_true, bc_false, v_int, v_bool, v_str, v_nil, oBin, oConv, oBuildSlice, oUn, oLoad, oStore, oFieldAddr, oIndexAddr, oIndex, oSlice, oExtract, oPick, oAlloc, oBox, oNil, oBuild, stepC, s_call, oBuiltin, oLen, oAppend, optV_none, optV_some, parts_nil, parts_cons, vals_nil, vals_cons, b_lss, l1]
  exact ⟨_, rfl⟩
theorem trim4 (a f t s : Int) (key' : List UInt8) (p : Int) (sv md : List UInt8) (c : Int) (bd' : List UInt8) (cs : List AV) (n : Int) (reg : List (Nat × AV)) :
    trim 13 1 ⟨⟨15729663, a4 kd fr to sq key pr cd bd at_ mask ++ [(20, .bool false), (21, .ref 0 0), (22, .int .u8 n), (23, .ref 1 0)], reg⟩, [.cells (lc a f t s key' p sv md c bd'), .cells cs], 96, []⟩ =
      some ⟨⟨15729663, a4 kd fr to sq key pr cd bd at_ mask ++ [(20, .bool false), (21, .ref 0 0), (22, .int .u8 n)], []⟩, [.cells (lc a f t s key' p sv md c bd')], 96, []⟩ := by kernel_rfl
theorem f4_loop (a f t s : Int) (key' : List UInt8) (p : Int) (sv md : List UInt8) (c : Int) (bd' : List UInt8) (k : Nat) (r0 : List (Nat × AV))
    (h1 : ∀ H, callAt call 9 [.agg (lc 1 0 1 300 [107] 5 [83] [116] 0 [120]), .int .i64 5, .int .u8 128] H = some (.ret (.bool true), H))
    (h2 : ∀ H, callAt call 9 [.agg (lc 2 0 1 300 [107] 5 [] [] 0 [120]), .int .i64 10, .int .u8 128] H = some (.ret (.bool true), H))
    (h3 : ∀ H, callAt call 9 [.agg (lc 3 0 1 300 [107] 5 [83] [116] 0 []), .int .i64 15, .int .u8 128] H = some (.ret (.bool true), H))
    (h4 : ∀ H, callAt call 9 [.agg (lc 4 0 1 300 [107] 5 [] [] 0 [120]), .int .i64 20, .int .u8 128] H = some (.ret (.bool true), H)) :
    ∃ reg, loopN 13 1 (runCode Pt.env call lf B4) (k + 5) ⟨⟨15729663, a4 kd fr to sq key pr cd bd at_ mask ++ [(20, .bool false), (21, .ref 0 0), (22, .int .u8 1)], r0⟩, [.cells (lc a f t s key' p sv md c bd')], 96, []⟩ =
      some (.exit 0, ⟨⟨15729663, a4 kd fr to sq key pr cd bd at_ mask ++ [(20, .bool false), (21, .ref 0 0), (22, .int .u8 5)], reg⟩, [.cells (lc a f t s key' p sv md c bd')], 96, []⟩) := by
  obtain ⟨q1, e1⟩ := f4_round1 call lf (.cells (lc a f t s key' p sv md c bd')) kd fr to mask sq pr cd at_ key bd r0 h1
  obtain ⟨q2, e2⟩ := f4_round2 call lf (.cells (lc a f t s key' p sv md c bd')) kd fr to mask sq pr cd at_ key bd [] h2
  obtain ⟨q3, e3⟩ := f4_round3 call lf (.cells (lc a f t s key' p sv md c bd')) kd fr to mask sq pr cd at_ key bd [] h3
  obtain ⟨q4, e4⟩ := f4_round4 call lf (.cells (lc a f t s key' p sv md c bd')) kd fr to mask sq pr cd at_ key bd [] h4
  obtain ⟨q5, e5⟩ := f4_stop call lf kd fr to mask sq pr cd at_ key bd (.cells (lc a f t s key' p sv md c bd')) []
  refine ⟨q5, ?_⟩
  rw [loopN_succ, e1, t_normal, trim4, ob_some]
  rw [loopN_succ, e2, t_normal, trim4, ob_some]
  rw [loopN_succ, e3, t_normal, trim4, ob_some]
  rw [loopN_succ, e4, t_normal, trim4, ob_some]
  rw [loopN_succ, e5, t_exit]
theorem f4_end (la : List AV) (L : AV) (hla : ∀ H, loadA Pt.env.ty (.cells la :: H) 28 (.ref 0 0) = some L) (hm : AV.melt L = L) (hat : at_ < 65536) (n : AV) (r0 : List (Nat × AV))
    (h9 : ∀ H, callAt call 9 [L, .int .i64 at_, .int .u8 (mask.toNat : Nat)] H = some (.ret (.bool true), H)) (h8 : ∀ H, callAt call 8 [] H = some (.ret (.bool true), H)) :
    ∃ st, runCode Pt.env call lf (subC [1, 1, 1, 1, 1] (codeOf Tryz.f4)) ⟨⟨15729663, a4 kd fr to sq key pr cd bd at_ mask ++ [(20, .bool false), (21, .ref 0 0), (22, n)], r0⟩, [.cells la], 96, []⟩ = some (.ret, st) ∧ st.defers = [] ∧ finishA Pt.env Tryz.f4 st st.heap = some (.ret (.bool true), st.heap) := by
  have hc (H : List ABlk) := conv26_3 H at_ hat
  dsimp only [a4, codeOf, Tryz.f4, subC, bc, Nat.beq, List.cons_append, List.nil_append]
  simp (disch := decide) only [c_seq, c_cond, c_block, c_exit, c_skip, c_ret, c_region, o_cons, o_guard, o_nil, sg_true, sg_false, t_normal, t_exit, t_ret, lv_ret, lv_normal, lv_exit, w_move, w_assign, w_bin, w_conv, w_build, w_call, w_pick, w_alloc, w_box, w_agg, w_load, w_store, w_nil, w_un, w_iface, w_func, w_slice, w_faddr, w_field, w_iaddr, w_index, w_extract, e_loc, e_reg, e_const, e_func, e_glob, g_hit, g_miss, p_hit, p_miss, p_nil, s_done, s_go, s_put_loc, s_put_reg, s_put_none, s_back, okV, okH, ob_some, cond_bool, bc_true, bc_false, v_int, v_bool, v_str, v_nil, oBin, oConv, oBuildSlice, oUn, oLoad, oStore, oFieldAddr, oIndexAddr, oIndex, oSlice, oExtract, oPick, oAlloc, oBox, oNil, oBuild, stepC, s_call, oBuiltin, oLen, oAppend, optV_none, optV_some, parts_nil, parts_cons, vals_nil, vals_cons, wg, wo_some, wv_bool, wv_undef, nth_zero, nth_succ, beq_tt, beq_ff, beq_tf, beq_ft, Bool.not_true, Bool.not_false, List.nil_append, List.append_nil, List.map_cons, List.map_nil, melt_int, hm, hla, hc, own8, own9, h9, h8]
  exact ⟨_, rfl, rfl, by kernel_rfl⟩
end
theorem f4_r7 (call : CallT) (lf : Nat) (kd fr to mask : UInt8) (sq pr cd at_ : Nat) (key bd : List UInt8) (H : List ABlk) (r0 : List (Nat × AV)) :
    runCode Pt.env call lf (subC [1, 1, 1, 1, 0, 0] (codeOf Tryz.f4)) ⟨⟨15729663, a4 kd fr to sq key pr cd bd at_ mask ++ [(20, .bool false), (21, .ref 0 0)], r0⟩, H, 96, []⟩ = some (.normal, ⟨⟨15729663, a4 kd fr to sq key pr cd bd at_ mask ++ [(20, .bool false), (21, .ref 0 0), (22, .int .u8 1)], []⟩, H, 96, []⟩) := by
  dsimp only [a4, codeOf, Tryz.f4, subC, bc, Nat.beq, List.cons_append, List.nil_append]
  simp (disch := decide) only [c_seq, c_cond, c_block, c_exit, c_skip, c_ret, c_region, o_cons, o_guard, o_nil, sg_true, sg_false, t_normal, t_exit, t_ret, lv_ret, lv_normal, lv_exit, w_move, w_assign, w_bin, w_conv, w_build, w_call, w_pick, w_alloc, w_box, w_agg, w_load, w_store, w_nil, w_un, w_iface, w_func, w_slice, w_faddr, w_field, w_iaddr, w_index, w_extract, e_loc, e_reg, e_const, e_func, e_glob, g_hit, g_miss, p_hit, p_miss, p_nil, s_done, s_go, s_put_loc, s_put_reg, s_put_none, s_back, okV, okH, ob_some, cond_bool, bc_true, bc_false, v_int, v_bool, v_str, v_nil, oBin, oConv, oBuildSlice, oUn, oLoad, oStore, oFieldAddr, oIndexAddr, oIndex, oSlice, oExtract, oPick, oAlloc, oBox, oNil, oBuild, stepC, s_call, oBuiltin, oLen, oAppend, optV_none, optV_some, parts_nil, parts_cons, vals_nil, vals_cons]
theorem f4_args (kd fr to mask : UInt8) (sq pr cd at_ : Nat) (key bd : List UInt8) : numbered 0 [.int .u8 (kd.toNat : Nat), .int .u8 (fr.toNat : Nat), .int .u8 (to.toNat : Nat), .int .u64 sq, .str key, .int .u64 pr, .int .u16 cd, .str bd, .int .u16 at_, .int .u8 (mask.toNat : Nat)] = a4 kd fr to sq key pr cd bd at_ mask := rfl
theorem f4_ok (k : Nat) (hk : 900 ≤ k) (hw : ∀ H, callAt (callN Pt.env k) 8 [] H = some (.ret (.bool true), H)) (kd fr to mask : UInt8) (sq pr cd at_ : Nat) (hsq : sq < 18446744073709551616) (hpr : pr < 18446744073709551616) (hat : at_ < 65536) (key bd : List UInt8) :
    ∃ H1, callN Pt.env (k + 1) 4 [.int .u8 (kd.toNat : Nat), .int .u8 (fr.toNat : Nat), .int .u8 (to.toNat : Nat), .int .u64 sq, .str key, .int .u64 pr, .int .u16 cd, .str bd, .int .u16 at_, .int .u8 (mask.toNat : Nat)] [] = some (.ret (.bool true), H1) := by
  obtain ⟨a, ha⟩ : ∃ a : UInt8, a.toNat = 1 + kd.toNat % 4 := ⟨UInt8.ofNat (1 + kd.toNat % 4), by rw [UInt8.toNat_ofNat']; omega⟩
  obtain ⟨f, hf⟩ : ∃ a : UInt8, a.toNat = fr.toNat % 4 := ⟨UInt8.ofNat (fr.toNat % 4), by rw [UInt8.toNat_ofNat']; omega⟩
  obtain ⟨t, ht⟩ : ∃ a : UInt8, a.toNat = to.toNat % 4 := ⟨UInt8.ofNat (to.toNat % 4), by rw [UInt8.toNat_ofNat']; omega⟩
  have h1 : ∀ H, callAt (callN Pt.env k) 9 [.agg (lc 1 0 1 300 [107] 5 [83] [116] 0 [120]), .int .i64 5, .int .u8 128] H = some (.ret (.bool true), H) := fun H =>
    lettered_ok 1 0 1 300 [107] 5 [83] [116] 0 [120] k hk ⟨by decide, by decide, by decide, by decide, by decide, by decide, by decide, by decide, .inl ⟨.inl rfl, .inl rfl, .inr (.inl rfl), rfl⟩⟩ 5 128 H
  have h2 : ∀ H, callAt (callN Pt.env k) 9 [.agg (lc 2 0 1 300 [107] 5 [] [] 0 [120]), .int .i64 10, .int .u8 128] H = some (.ret (.bool true), H) := fun H =>
    lettered_ok 2 0 1 300 [107] 5 [] [] 0 [120] k hk ⟨by decide, by decide, by decide, by decide, by decide, by decide, by decide, by decide, .inr ⟨.inl rfl, rfl, rfl⟩⟩ 10 128 H
  have h3 : ∀ H, callAt (callN Pt.env k) 9 [.agg (lc 3 0 1 300 [107] 5 [83] [116] 0 []), .int .i64 15, .int .u8 128] H = some (.ret (.bool true), H) := fun H =>
    lettered_ok 3 0 1 300 [107] 5 [83] [116] 0 [] k hk ⟨by decide, by decide, by decide, by decide, by decide, by decide, by decide, by decide, .inl ⟨.inr ⟨rfl, rfl⟩, .inl rfl, .inr (.inl rfl), rfl⟩⟩ 15 128 H
  have h4 : ∀ H, callAt (callN Pt.env k) 9 [.agg (lc 4 0 1 300 [107] 5 [] [] 0 [120]), .int .i64 20, .int .u8 128] H = some (.ret (.bool true), H) := fun H =>
    lettered_ok 4 0 1 300 [107] 5 [] [] 0 [120] k hk ⟨by decide, by decide, by decide, by decide, by decide, by decide, by decide, by decide, .inr ⟨.inr rfl, rfl, rfl⟩⟩ 20 128 H
  obtain ⟨key', ek⟩ : ∃ l, l = [107] ++ key.take (min key.length 63) := ⟨_, rfl⟩
  obtain ⟨bd', eb⟩ : ∃ l, l = bd.take (min bd.length 300) := ⟨_, rfl⟩
  have hk1 : 1 ≤ key'.length := by rw [ek]; simp
  have hk2 : key'.length ≤ 64 := by rw [ek]; simp; omega
  have hb : bd'.length ≤ 400 := by rw [eb]; simp; omega
  -- what the middle gives
  have mid : ∃ sv md cd' bd'', LOk a f t sq key' pr sv md cd' bd'' ∧ ∀ (r0 : List (Nat × AV)) (c : Code), ∃ reg,
      runCode Pt.env (callN Pt.env k) k (.seq (subC [1, 1, 0] (codeOf Tryz.f4)) (.seq (subC [1, 1, 1, 0] (codeOf Tryz.f4)) c)) ⟨⟨15729663, a4 kd fr to sq key pr cd bd at_ mask ++ [(20, .bool false), (21, .ref 0 0)], r0⟩, [.cells (lc a.toNat f.toNat t.toNat sq key' pr [] [] 0 bd')], 96, []⟩ =
      runCode Pt.env (callN Pt.env k) k c ⟨⟨15729663, a4 kd fr to sq key pr cd bd at_ mask ++ [(20, .bool false), (21, .ref 0 0)], reg⟩, [.cells (lc a.toNat f.toNat t.toNat sq key' pr sv md (cd' : Nat) bd'')], 96, []⟩ := by
    have ha4 : a = 1 ∨ a = 2 ∨ a = 3 ∨ a = 4 := by
      have : a.toNat = 1 ∨ a.toNat = 2 ∨ a.toNat = 3 ∨ a.toNat = 4 := by omega
      rcases this with h | h | h | h
      · exact .inl (UInt8.toNat_inj.1 h)
      · exact .inr (.inl (UInt8.toNat_inj.1 h))
      · exact .inr (.inr (.inl (UInt8.toNat_inj.1 h)))
      · exact .inr (.inr (.inr (UInt8.toNat_inj.1 h)))
    have base : f.toNat < 4 ∧ t.toNat < 4 := by omega
    rcases ha4 with rfl | rfl | rfl | rfl
    · exact ⟨[83], [116, 97, 107, 101, 95, 49], 0, bd', ⟨base.1, base.2, hsq, hk1, hk2, hpr, hb, by omega, .inl ⟨.inl rfl, .inl rfl, .inr (.inr rfl), rfl⟩⟩, fun r0 c => f4_mid1 (callN Pt.env k) k kd fr to mask sq pr cd at_ key bd key' bd' f.toNat t.toNat r0 c⟩
    · exact ⟨[], [], cd % 1000, bd', ⟨base.1, base.2, hsq, hk1, hk2, hpr, hb, by omega, .inr ⟨.inl rfl, rfl, rfl⟩⟩, fun r0 c => f4_mid2 (callN Pt.env k) k kd fr to mask sq pr cd at_ key bd key' bd' f.toNat t.toNat r0 c⟩
    · exact ⟨[83], [116, 97, 107, 101, 95, 49], 0, [], ⟨base.1, base.2, hsq, hk1, hk2, hpr, by simp, by omega, .inl ⟨.inr ⟨rfl, rfl⟩, .inl rfl, .inr (.inr rfl), rfl⟩⟩, fun r0 c => f4_mid3 (callN Pt.env k) k kd fr to mask sq pr cd at_ key bd key' bd' f.toNat t.toNat r0 c⟩
    · exact ⟨[], [], cd % 1000, bd', ⟨base.1, base.2, hsq, hk1, hk2, hpr, hb, by omega, .inr ⟨.inr rfl, rfl, rfl⟩⟩, fun r0 c => f4_mid4 (callN Pt.env k) k kd fr to mask sq pr cd at_ key bd key' bd' f.toNat t.toNat r0 c⟩
  obtain ⟨sv, md, cd', bd'', L, mid⟩ := mid
  obtain ⟨q1, e1⟩ := f4_head (callN Pt.env k) k kd fr to mask sq pr cd at_ key bd a f t ha hf ht (.seq (subC [1, 1, 0] (codeOf Tryz.f4)) (.seq (subC [1, 1, 1, 0] (codeOf Tryz.f4)) (.seq (.seq (subC [1, 1, 1, 1, 0, 0] (codeOf Tryz.f4)) (.block 0 (.loop B4))) (subC [1, 1, 1, 1, 1] (codeOf Tryz.f4)))))
  rw [← ek, ← eb] at e1
  obtain ⟨q2, e2⟩ := mid q1 (.seq (.seq (subC [1, 1, 1, 1, 0, 0] (codeOf Tryz.f4)) (.block 0 (.loop B4))) (subC [1, 1, 1, 1, 1] (codeOf Tryz.f4)))
  obtain ⟨j, rfl⟩ : ∃ j, k = j + 5 := ⟨k - 5, by omega⟩
  obtain ⟨q3, e3⟩ := f4_loop (callN Pt.env (j + 5)) (j + 5) kd fr to mask sq pr cd at_ key bd a.toNat f.toNat t.toNat sq key' pr sv md cd' bd'' j [] h1 h2 h3 h4
  obtain ⟨st, r1, r2, r3⟩ := f4_end (callN Pt.env (j + 5)) (j + 5) kd fr to mask sq pr cd at_ key bd (lc a.toNat f.toNat t.toNat sq key' pr sv md (cd' : Nat) bd'') (.agg (lc a.toNat f.toNat t.toNat sq key' pr sv md (cd' : Nat) bd'')) (fun H => ld0_28 ..) (melt_lc ..) hat (.int .u8 5) q3 (fun H => lettered_ok a f t sq key' pr sv md cd' bd'' (j + 5) hk L at_ mask H) hw
  refine ⟨st.heap, callN_ret Pt.env _ (j + 5) 4 _ Tryz.f4 (codeOf Tryz.f4) st _ (by kernel_rfl) (by kernel_rfl) rfl (by kernel_rfl) ?_ r2 r3⟩
  rw [m4, f4_args]
  have e0 := e1.trans e2
  rw [show ∀ (c d : Code) (st : St), runCode Pt.env (callN Pt.env (j + 5)) (j + 5) (.seq (.seq (subC [1, 1, 1, 1, 0, 0] (codeOf Tryz.f4)) c) d) st = thenA (thenA (runCode Pt.env (callN Pt.env (j + 5)) (j + 5) (subC [1, 1, 1, 1, 0, 0] (codeOf Tryz.f4)) st) (runCode Pt.env (callN Pt.env (j + 5)) (j + 5) c)) (runCode Pt.env (callN Pt.env (j + 5)) (j + 5) d) from fun _ _ _ => rfl] at e0
  rw [f4_r7, t_normal, c_block, c_loop] at e0
  have e0' : _ = thenA (ob (loopN 13 1 (runCode Pt.env (callN Pt.env (j + 5)) (j + 5) B4) (j + 5) ⟨⟨15729663, a4 kd fr to sq key pr cd bd at_ mask ++ [(20, .bool false), (21, .ref 0 0), (22, .int .u8 1)], []⟩, [.cells (lc a.toNat f.toNat t.toNat sq key' pr sv md (cd' : Nat) bd'')], 96, []⟩) _) _ := e0
  rw [e3, ob_some] at e0'
  simp only [lv_exit, Nat.beq_refl, bc_true, t_normal] at e0'
  exact e0'.trans r1
end Go.Proofs
