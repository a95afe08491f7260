/-
redresstop.lettered: the whole text, packed and read.
redresstop.lettered: another byte, a few bytes, no letter, the answer.
redresstop.lettered, whole: true of each letter.
-/
import Derived.Test.YtpgdfpcihamldaaGreatDoorK24
set_option linter.unusedSimpArgs false
namespace Go.Proofs
open Go Go.Pm Go.Proofs.Sum
set_option maxRecDepth 100000
section
variable (call : CallT) (lf : Nat) (a f t : UInt8) (sq pr cd : Nat) (key sv md bd : List UInt8)
theorem f9_t1 (at_ mask x8 : AV) (b bb : List UInt8) (hb : b.length ≤ 1000) (hbd : bd.length ≤ 400) (hcd : cd ≤ 999) (hbb : bb.length ≤ 3000)
    (e : bb = b ++ (vb 9 cd ++ vb 9 bd.length ++ bd)) (fo : List UInt8) (hfo : fo.length = 4)
    (h25 : ∀ x : Nat, x < 18446744073709551616 → ∀ H, callAt call 25 [.int .u64 x] H = some (.ret (.str (vb 9 x)), H))
    (h26 : ∀ H, callAt call 26 [.str bb] H = some (.ret (.str fo), H))
    (h27 : ∀ H, callAt call 27 [.agg (lc a.toNat f.toNat t.toNat sq key pr sv md cd bd)] H = some (.ret (.tuple [.str (bb ++ fo), .int .i64 0]), H))
    (h28 : ∀ H, callAt call 28 [.str (bb ++ fo)] H = some (.ret (.tuple [.agg (lc a.toNat f.toNat t.toNat sq key pr sv md cd bd), .int .i64 0]), H))
    (r0 : List (Nat × AV)) (c : Code) :
    ∃ reg, runCode Pt.env call lf (.seq (subC [1, 1, 1, 1, 0] (codeOf Tryz.f9)) (.seq (subC [1, 1, 1, 1, 1, 0] (codeOf Tryz.f9)) (.seq (subC [1, 1, 1, 1, 1, 1, 0] (codeOf Tryz.f9)) (.seq (subC [1, 1, 1, 1, 1, 1, 1, 0] (codeOf Tryz.f9)) c))))
        ⟨⟨4035225266124488143, l9 (.agg (lc a.toNat f.toNat t.toNat sq key pr sv md cd bd)) at_ mask x8 sv md b 2, r0⟩, [.cells (lc a.toNat f.toNat t.toNat sq key pr sv md cd bd)], 185, []⟩ =
      runCode Pt.env call lf c ⟨⟨4035225266124488143, l9 (.agg (lc a.toNat f.toNat t.toNat sq key pr sv md cd bd)) at_ mask x8 sv md (bb ++ fo) 2 ++ [(11, .str (bb ++ fo)), (12, .int .i64 0), (13, .ref 1 0), (14, .int .i64 0)], reg⟩,
        [.cells (lc a.toNat f.toNat t.toNat sq key pr sv md cd bd), .cells (lc a.toNat f.toNat t.toNat sq key pr sv md cd bd)], 185, []⟩ := by
  have v1 := vb_length 9 cd
  have v2 := vb_length 9 bd.length
  have s1 := h25 cd (by omega)
  have s2 := h25 bd.length (by omega)
  have hc (H : List ABlk) := conv3_25 H bd.length (by omega)
  have hc2 (H : List ABlk) := conv3_25 H cd (by omega)
  have a1 := ble_add (vb 9 cd) (vb 9 bd.length) (by omega) (by omega)
  have a2 := ble_add (vb 9 cd ++ vb 9 bd.length) bd (by simp; omega) (by omega)
  have a3 := ble_add b (vb 9 cd ++ vb 9 bd.length ++ bd) (by omega) (by simp; omega)
  have a4 := ble_add bb fo (by omega) (by omega)
  clear v1 v2 h25
  dsimp only [l9, codeOf, Tryz.f9, subC, bc, Nat.beq, List.cons_append, List.nil_append]
  simp (disch := first | decide | assumption) only [c_seq, c_cond, c_block, c_exit, c_skip, c_ret, c_region, o_cons, o_guard, o_nil, sg_true, sg_false, t_normal, t_exit, t_ret, lv_ret, lv_normal, lv_exit, w_move, w_assign, w_bin, w_conv, w_build, w_call, w_pick, w_alloc, w_box, w_agg, w_load, w_store, w_nil, w_un, w_iface, w_func, w_slice, w_faddr, w_field, w_iaddr, w_index, w_extract, e_loc, e_reg, e_const, e_func, e_glob, g_hit, g_miss, p_hit, p_miss, p_nil, s_done, s_go, s_put_loc, s_put_reg, s_put_none, s_back, okV, okH, ob_some, cond_bool, bc_true, bc_false, v_int, v_bool, v_str, v_nil, oBin, oConv, oBuildSlice, oUn, oLoad, oStore, oFieldAddr, oIndexAddr, oIndex, oSlice, oExtract, oPick, oAlloc, oBox, oNil, oBuild, stepC, s_call, oBuiltin, oLen, oAppend, optV_none, optV_some, parts_nil, parts_cons, vals_nil, vals_cons, ld0_kd, ld0_fr, ld0_to, ld0_sq, ld0_key, ld0_pr, ld0_sv, ld0_md, ld0_cd, ld0_bd, ld0_28, fo28_0, fo28_1, fo28_2, fo28_3, fo28_4, fo28_5, fo28_6, fo28_7, fo28_8, fo28_9, a_ref, cellsA, u_not, Nat.zero_add, Nat.reduceAdd, List.length_nil, List.length_cons, List.nil_append, List.append_nil, List.cons_append, List.map_cons, List.map_nil, melt_str, melt_int, melt_lc, own25, own26, own27, own28, s1, s2, hc, hc2, ← e, h26, h27, h28, len9', b_sadd, nth_pair0, nth_pair1, zero28, st1_28,
    c_draw, d_cons, d_nil, ko_move, ko_bin, ko_call, ko_len, ko_load, ko_faddr, ko_build, ko_assign, kl_str, ko_conv, kc_int, kc_sS, kf_call, dk_plain, dk_read0, dk_write0, dk_read, dk_write, tn_normal, lf_ref, z3, z5, z9, z25, span_lit, readK_lit, lb3, hd25, allOf_nil]
  exact ⟨_, rfl⟩
end
end Go.Proofs
set_option linter.unusedSimpArgs false
namespace Go.Proofs
open Go Go.Pm Go.Proofs.Sum
set_option maxRecDepth 100000
theorem same_lc (kd fr to sq : Int) (key : List UInt8) (pr : Int) (sv md : List UInt8) (cd : Int) (bd : List UInt8) : eqlA Pt.env.ty 28 false (.agg (lc kd fr to sq key pr sv md cd bd)) (.agg (lc kd fr to sq key pr sv md cd bd)) = some true := by
  have e : eqlA Pt.env.ty 28 false (.agg (lc kd fr to sq key pr sv md cd bd)) (.agg (lc kd fr to sq key pr sv md cd bd)) = some ((kd == kd) && ((fr == fr) && ((to == to) && ((sq == sq) && ((key == key) && ((pr == pr) && ((sv == sv) && ((md == md) && ((cd == cd) && ((bd == bd) && true)))))))))) := by kernel_rfl
  rw [e]; simp
theorem neq_lc (kd fr to sq : Int) (key : List UInt8) (pr : Int) (sv md : List UInt8) (cd : Int) (bd : List UInt8) : binA Pt.env.ty .neq 28 false (.agg (lc kd fr to sq key pr sv md cd bd)) (.agg (lc kd fr to sq key pr sv md cd bd)) = some (.bool false) := by
  simp only [binA, same_lc, Bool.not_true]
theorem eql_lc (kd fr to sq : Int) (key : List UInt8) (pr : Int) (sv md : List UInt8) (cd : Int) (bd : List UInt8) : binA Pt.env.ty .eql 28 false (.agg (lc kd fr to sq key pr sv md cd bd)) (.agg (lc kd fr to sq key pr sv md cd bd)) = some (.bool true) := by
  simp only [binA, same_lc]
theorem cst_tmp (a b : Tmp) : (isCst (.tmp a) || isCst (.tmp b)) = false := rfl
theorem conv9_22 (H : List ABlk) (s : List UInt8) : convertA Pt.env.ty 9 22 H (.str s) = some (.vslice H.length 0 s.length, H ++ [.cells (toCells s)]) := by
  simp only [convertA, d9, d22, d5, z5]
theorem len22v (H : List ABlk) (r o n : Nat) : lenA Pt.env.ty H 22 (.vslice r o n) = some (.int .i64 n) := by simp only [lenA, d22]
theorem b_rem (T : Ty) (t : TypeId) (c : Bool) (k : IntKind) (a b : Int) (h : decide (b = 0) = false) : binA T .rem t c (.int k a) (.int k b) = some (.int k (a.tmod b)) := by simp only [binA, intOp, h, decide_true, bc_true, bc_false]
theorem mm_max (k : IntKind) (a b : Int) : minmax true [.int k a, .int k b] = some (.int k (if b > a then b else a)) := by simp [minmax, minmaxFrom]
theorem iav (r i n : Nat) (h : i < n) : indexAddrA Pt.env.ty 22 (.vslice r 0 n) (i : Int) = some (.ref r i) := by
  have h0 : inR (i : Int) n = true := by simp [inR]; omega
  simp only [indexAddrA, d22, z5, h0, bc_true, Int.toNat_natCast, Nat.mul_one, Nat.zero_add]
theorem toCells_get (s : List UInt8) (i : Nat) (w : UInt8) (h : s[i]? = some w) : nth (toCells s) i = some (.int .u8 (w.toNat : Int)) := by
  rw [nth_get, toCells, List.getElem?_map, h]; rfl
theorem agg5 : aggT Pt.env.ty 5 = some false := by kernel_rfl
theorem ldv (B0 B1 : ABlk) (s : List UInt8) (i : Nat) (w : UInt8) (h : s[i]? = some w) : loadA Pt.env.ty [B0, B1, .cells (toCells s)] 5 (.ref 2 i) = some (.int .u8 (w.toNat : Int)) := by
  have e : nth [B0, B1, ABlk.cells (toCells s)] 2 = some (.cells (toCells s)) := rfl
  simp only [loadA, e, partA, agg5, z5, toCells_get s i w h]
  rfl
theorem setNth_toCells (s : List UInt8) (v : UInt8) : ∀ i, setNth (toCells s) i (.int .u8 (v.toNat : Int)) = toCells (s.set i v) := by
  induction s with
  | nil => intro i; rfl
  | cons b s ih =>
    intro i
    cases i with
    | zero => rfl
    | succ i => show _ :: setNth (toCells s) i _ = _; rw [ih]; rfl
theorem stv (B0 B1 : ABlk) (s : List UInt8) (i : Nat) (v : UInt8) (h : i < s.length) : storeA Pt.env.ty [B0, B1, .cells (toCells s)] 5 (.int .u8 (v.toNat : Int)) (.ref 2 i) = some [B0, B1, .cells (toCells (s.set i v))] := by
  have e : nth [B0, B1, ABlk.cells (toCells s)] 2 = some (.cells (toCells s)) := rfl
  have h1 : Nat.ble (i + 1) (toCells s).length = true := Nat.ble_eq_true_of_le (by simp [toCells]; omega)
  have e2 : storeA Pt.env.ty [B0, B1, .cells (toCells s)] 5 (.int .u8 (v.toNat : Int)) (.ref 2 i) = bc (true && Nat.ble (i + 1) (toCells s).length && true) (some [B0, B1, .cells (setNth (toCells s) i (.int .u8 (v.toNat : Int)))]) none := by
    simp only [storeA, e, z5]; rfl
  rw [e2, h1, setNth_toCells]; rfl
theorem convv (B0 B1 : ABlk) (s : List UInt8) (n : Nat) (hn : n = s.length) : convertA Pt.env.ty 22 9 [B0, B1, .cells (toCells s)] (.vslice 2 0 n) = some (.str s, [B0, B1, .cells (toCells s)]) := by
  subst hn
  have e : nth [B0, B1, ABlk.cells (toCells s)] 2 = some (.cells (toCells s)) := rfl
  have h1 : Nat.ble (0 + s.length) (toCells s).length = true := Nat.ble_eq_true_of_le (by simp [toCells])
  have h2 : ((toCells s).drop 0).take s.length = toCells s := by rw [List.drop_zero]; exact List.take_of_length_le (by simp [toCells])
  simp only [convertA, d22, d9, d5, e, h1, h2, bytesOf_toCells, bc_true]
theorem slice_take (k : IntKind) (s : List UInt8) (n : Nat) (h : n ≤ s.length) : sliceA Pt.env.ty 9 (.str s) none (some (some (.int k n))) none = some (.str (s.take n)) := by
  simp only [sliceA, d9, bounds2]
  rw [bound_ok k n _ _ h, ob_some, bound_none 0 _ (by omega), ob_some, ob_some, List.drop_zero]
theorem bldK (kd fr to sq : Int) (key : List UInt8) (pr cd : Int) (bd : List UInt8) : buildA Pt.env.ty 28 [(0, .int .u8 kd), (1, .int .i64 fr), (2, .int .i64 to), (3, .int .u64 sq), (4, .str key), (5, .int .u64 pr), (8, .int .i64 cd), (9, .str bd)] = some (.agg (lc kd fr to sq key pr [] [] cd bd)) := by kernel_rfl
noncomputable def kinds4 : AV := .slice .exact 4 [.int .u8 2, .int .u8 0, .int .u8 4, .int .u8 0]
theorem bs4 : buildSliceA Pt.env.ty 22 4 [(0, .int .u8 2), (1, .int .u8 0), (2, .int .u8 4), (3, .int .u8 0)] = some kinds4 := by kernel_rfl
section
variable (call : CallT) (lf : Nat) (a f t : UInt8) (sq pr cd : Nat) (key sv md bd : List UInt8)
theorem f9_t2 (at_ : Nat) (mask : UInt8) (x8 : AV) (bb : List UInt8) (h4 : 4 ≤ bb.length) (w : UInt8) (hw : bb[at_ % bb.length]? = some w) (v : UInt8) (hv : v.toNat = w.toNat ^^^ (if mask.toNat < 1 then 1 else mask.toNat)) (k' : Int)
    (j : Int) (hk1 : IntKind.wrap .u8 ((a.toNat : Int) - 1) = j) (cs : List AV) (hk2 : indexAddrA Pt.env.ty 22 kinds4 j = some (.eptr cs)) (hk3 : ∀ H, loadA Pt.env.ty H 5 (.eptr cs) = some (.int .u8 k'))
    (h28 : ∀ H, callAt call 28 [.str (bb.set (at_ % bb.length) v)] H = some (.ret (.tuple [.agg (lc 0 0 0 0 [] 0 [] [] 0 []), .int .i64 8]), H))
    (h28' : ∀ H, callAt call 28 [.str (bb.take (at_ % 4))] H = some (.ret (.tuple [.agg (lc 0 0 0 0 [] 0 [] [] 0 []), .int .i64 8]), H))
    (h27 : ∀ H, callAt call 27 [.agg (lc a.toNat f.toNat 4 sq key pr sv md cd bd)] H = some (.ret (.tuple [.str [], .int .i64 1]), H))
    (h29 : ∀ H, callAt call 29 [.agg (lc a.toNat f.toNat t.toNat sq key pr sv md cd bd), .int .i64 7, .str [121]] H = some (.ret (.agg (lc k' t.toNat f.toNat sq key pr [] [] 7 [121])), H))
    (r0 : List (Nat × AV)) :
    ∃ st, runCode Pt.env call lf (subC [1, 1, 1, 1, 1, 1, 1, 1] (codeOf Tryz.f9)) ⟨⟨4035225266124488143, l9 (.agg (lc a.toNat f.toNat t.toNat sq key pr sv md cd bd)) (.int .i64 at_) (.int .u8 (mask.toNat : Nat)) x8 sv md bb 2 ++ [(11, .str bb), (12, .int .i64 0), (13, .ref 1 0), (14, .int .i64 0)], r0⟩,
        [.cells (lc a.toNat f.toNat t.toNat sq key pr sv md cd bd), .cells (lc a.toNat f.toNat t.toNat sq key pr sv md cd bd)], 185, []⟩ = some (.ret, st) ∧ st.defers = [] ∧ finishA Pt.env Tryz.f9 st st.heap = some (.ret (.bool true), st.heap) := by
  have hi : at_ % bb.length < bb.length := Nat.mod_lt _ (by omega)
  have n0 : decide ((bb.length : Int) = 0) = false := by simp; intro h; rw [h] at h4; simp at h4
  have e1 : ((at_ : Int).tmod (bb.length : Int)) = ((at_ % bb.length : Nat) : Int) := Int.ofNat_tmod ..
  have e2 : ((at_ : Int).tmod 4) = ((at_ % 4 : Nat) : Int) := Int.ofNat_tmod at_ 4
  have e3 : (if (1 : Int) > (mask.toNat : Int) then (1 : Int) else (mask.toNat : Int)) = ((if mask.toNat < 1 then 1 else mask.toNat : Nat) : Int) := by split <;> split <;> omega
  have hm : (if mask.toNat < 1 then 1 else mask.toNat) < 256 := by have := mask.toNat_lt; split <;> omega
  have e4 := xor_u8 w.toNat (if mask.toNat < 1 then 1 else mask.toNat) w.toNat_lt hm
  rw [← hv] at e4
  have i1 := iav 2 (at_ % bb.length) bb.length hi
  have l1 (B0 B1 : ABlk) := ldv B0 B1 bb (at_ % bb.length) w hw
  have t1 (B0 B1 : ABlk) := stv B0 B1 bb (at_ % bb.length) v hi
  have c1 (B0 B1 : ABlk) := convv B0 B1 (bb.set (at_ % bb.length) v) bb.length (by simp)
  have st' (k : IntKind) := slice_take k bb (at_ % 4) (by omega)
  have z0 : ((0 : Int) != 0) = false := rfl
  have z8 : ((8 : Int) != 8) = false := rfl
  have z1 : ((1 : Int) == 1) = true := rfl
  dsimp only [l9, codeOf, Tryz.f9, subC, bc, Nat.beq, List.cons_append, List.nil_append]
  simp (disch := first | decide | assumption) only [c_seq, c_cond, c_block, c_exit, c_skip, c_ret, c_region, o_cons, o_guard, o_nil, sg_true, sg_false, t_normal, t_exit, t_ret, lv_ret, lv_normal, lv_exit, w_move, w_assign, w_bin, w_conv, w_build, w_call, w_pick, w_alloc, w_box, w_agg, w_load, w_store, w_nil, w_un, w_iface, w_func, w_slice, w_faddr, w_field, w_iaddr, w_index, w_extract, e_loc, e_reg, e_const, e_func, e_glob, g_hit, g_miss, p_hit, p_miss, p_nil, s_done, s_go, s_put_loc, s_put_reg, s_put_none, s_back, okV, okH, ob_some, cond_bool, bc_true, bc_false, v_int, v_bool, v_str, v_nil, oBin, oConv, oBuildSlice, oUn, oLoad, oStore, oFieldAddr, oIndexAddr, oIndex, oSlice, oExtract, oPick, oAlloc, oBox, oNil, oBuild, stepC, s_call, oBuiltin, oLen, oAppend, optV_none, optV_some, parts_nil, parts_cons, vals_nil, vals_cons, ld0_kd, ld0_fr, ld0_to, ld0_sq, ld0_key, ld0_pr, ld0_sv, ld0_md, ld0_cd, ld0_bd, ld0_28, fo28_0, fo28_1, fo28_2, fo28_3, fo28_4, fo28_5, fo28_6, fo28_7, fo28_8, fo28_9, a_ref, cellsA, u_not, Nat.zero_add, wg, wo_some, wv_bool, wv_undef, nth_zero, nth_succ, beq_tt, beq_ff, beq_tf, beq_ft, Bool.not_true, Bool.not_false, Nat.reduceAdd, List.length_nil, List.length_cons, List.nil_append, List.append_nil, List.cons_append, List.map_cons, List.map_nil, melt_str, melt_int, melt_lc, own27, own28, own29, h27, h28, h28', h29, nth_pair0, nth_pair1, b_neq, b_eql, b_sne, b_rem, b_xor, b_sub, z0, z8, z1, beq_self_eq_true,
    neq_lc, eql_lc, cst_tmp, conv9_22, len22v, e1, e2, e3, e4, mm_max, i1, l1, t1, c1, st', zero28, ld1_28, st3_28, st3_to, ld3_28, st4_28, ld4_28, bs4, hk1, hk2, hk3, bldK]
  exact ⟨_, rfl, rfl, by kernel_rfl⟩
end
end Go.Proofs
set_option linter.unusedSimpArgs false
namespace Go.Proofs
open Go Go.Pm Go.Proofs.Sum
set_option maxRecDepth 100000
section
variable (call : CallT) (lf : Nat)
theorem f9_r2 (la at_ mask b : AV) (H : List ABlk) (r0 : List (Nat × AV)) (c d : Code) :
    runCode Pt.env call lf (.seq (.seq (subC [1, 1, 0, 0] (codeOf Tryz.f9)) c) d) ⟨⟨4035225266124488143, [(0, la), (1, at_), (2, mask), (3, .ref 0 0), (6, .bool false), (7, b)], r0⟩, H, 185, []⟩ =
      runCode Pt.env call lf (.seq (.seq .skip c) d) ⟨⟨4035225266124488143, [(0, la), (1, at_), (2, mask), (3, .ref 0 0), (6, .bool false), (7, b), (8, .int .i64 56)], []⟩, H, 185, []⟩ := by
  dsimp only [codeOf, Tryz.f9, subC, bc, Nat.beq]
  simp (disch := decide) only [c_seq, c_cond, c_block, c_exit, c_skip, c_ret, c_region, o_cons, o_guard, o_nil, sg_true, sg_false, t_normal, t_exit, t_ret, lv_ret, lv_normal, lv_exit, w_move, w_assign, w_bin, w_conv, w_build, w_call, w_pick, w_alloc, w_box, w_agg, w_load, w_store, w_nil, w_un, w_iface, w_func, w_slice, w_faddr, w_field, w_iaddr, w_index, w_extract, e_loc, e_reg, e_const, e_func, e_glob, g_hit, g_miss, p_hit, p_miss, p_nil, s_done, s_go, s_put_loc, s_put_reg, s_put_none, s_back, okV, okH, ob_some, cond_bool, bc_true, bc_false, v_int, v_bool, v_str, v_nil, oBin, oConv, oBuildSlice, oUn, oLoad, oStore, oFieldAddr, oIndexAddr, oIndex, oSlice, oExtract, oPick, oAlloc, oBox, oNil, oBuild, stepC, s_call, oBuiltin, oLen, oAppend, optV_none, optV_some, parts_nil, parts_cons, vals_nil, vals_cons]
theorem f9_r6 (kd fr to sq : Int) (key : List UInt8) (pr : Int) (sv md : List UInt8) (cd : Int) (bd : List UInt8) (la at_ mask x8 : AV) (b : List UInt8) (r0 : List (Nat × AV)) (c d : Code) :
    ∃ reg, runCode Pt.env call lf (.seq (.seq (subC [1, 1, 1, 0, 0] (codeOf Tryz.f9)) c) d) ⟨⟨4035225266124488143, [(0, la), (1, at_), (2, mask), (3, .ref 0 0), (6, .bool false), (7, .str b), (8, x8)], r0⟩, [.cells (lc kd fr to sq key pr sv md cd bd)], 185, []⟩ =
      runCode Pt.env call lf (.seq (.seq .skip c) d) ⟨⟨4035225266124488143, l9 la at_ mask x8 sv md b 0, reg⟩, [.cells (lc kd fr to sq key pr sv md cd bd)], 185, []⟩ := by
  dsimp only [l9, codeOf, Tryz.f9, subC, bc, Nat.beq]
  simp (disch := decide) only [c_seq, c_cond, c_block, c_exit, c_skip, c_ret, c_region, o_cons, o_guard, o_nil, sg_true, sg_false, t_normal, t_exit, t_ret, lv_ret, lv_normal, lv_exit, w_move, w_assign, w_bin, w_conv, w_build, w_call, w_pick, w_alloc, w_box, w_agg, w_load, w_store, w_nil, w_un, w_iface, w_func, w_slice, w_faddr, w_field, w_iaddr, w_index, w_extract, e_loc, e_reg, e_const, e_func, e_glob, g_hit, g_miss, p_hit, p_miss, p_nil, s_done, s_go, s_put_loc, s_put_reg, s_put_none, s_back, okV, okH, ob_some, cond_bool, bc_true, bc_false, v_int, v_bool, v_str, v_nil, oBin, oConv, oBuildSlice, oUn, oLoad, oStore, oFieldAddr, oIndexAddr, oIndex, oSlice, oExtract, oPick, oAlloc, oBox, oNil, oBuild, stepC, s_call, oBuiltin, oLen, oAppend, optV_none, optV_some, parts_nil, parts_cons, vals_nil, vals_cons, ld0_kd, ld0_fr, ld0_to, ld0_sq, ld0_key, ld0_pr, ld0_sv, ld0_md, ld0_cd, ld0_bd, ld0_28, fo28_0, fo28_1, fo28_2, fo28_3, fo28_4, fo28_5, fo28_6, fo28_7, fo28_8, fo28_9, a_ref, cellsA, u_not, Nat.zero_add, bs33, len33]
  exact ⟨_, rfl⟩
end
theorem c_skipseq (E : Env) (call : CallT) (lf : Nat) (a b : Code) (st : St) : runCode E call lf (.seq (.seq .skip a) b) st = thenA (runCode E call lf a st) (runCode E call lf b) := rfl
theorem xor_ne (w m : Nat) (hm : 1 ≤ m) : w ^^^ m ≠ w := by
  intro h
  have : w ^^^ (w ^^^ m) = w ^^^ w := by rw [h]
  rw [← Nat.xor_assoc, Nat.xor_self, Nat.zero_xor] at this
  omega
section
variable (a f t : UInt8) (sq : Nat) (key : List UInt8) (pr : Nat) (sv md : List UInt8) (cd : Nat) (bd : List UInt8)
theorem read_changed (k : Nat) (hk : 800 ≤ k) (p : List UInt8) (hp : p.length ≤ 560) (i : Nat) (w v : UInt8) (hw : (p ++ four (Sum.sum p))[i]? = some w) (hv : v ≠ w) (H : List ABlk) :
    callAt (callN Pt.env k) 28 [.str ((p ++ four (Sum.sum p)).set i v)] H = some (.ret (.tuple [.agg (lc 0 0 0 0 [] 0 [] [] 0 []), .int .i64 8]), H) := by
  have hi : i < p.length + 4 := by
    have := (List.getElem?_eq_some_iff.1 hw).1
    rw [List.length_append, four_length] at this
    exact this
  have hs := changed_seen p i v hi (by rw [hw]; intro h; exact hv (Option.some.inj h).symm)
  have hl : ((p ++ four (Sum.sum p)).set i v).length = p.length + 4 := by rw [List.length_set, List.length_append, four_length]
  rw [← List.take_append_drop p.length ((p ++ four (Sum.sum p)).set i v)]
  exact read_sum k (by omega) _ _ (by rw [List.length_drop, hl]; omega) (by rw [List.length_take, hl]; omega) (by rw [List.length_take, hl]; omega) hs H
theorem lettered_ok (k : Nat) (hk : 900 ≤ k) (L : LOk a f t sq key pr sv md cd bd) (at_ : Nat) (mask : UInt8) (H : List ABlk) :
    callAt (callN Pt.env k) 9 [.agg (lc a.toNat f.toNat t.toNat sq key pr sv md cd bd), .int .i64 at_, .int .u8 (mask.toNat : Nat)] H = some (.ret (.bool true), H) := by
  obtain ⟨k, rfl⟩ : ∃ j, k = j + 1 := ⟨k - 1, by omega⟩
  have hlen := L.len
  have h25 : ∀ x : Nat, x < 18446744073709551616 → ∀ H, callAt (callN Pt.env k) 25 [.int .u64 x] H = some (.ret (.str (vb 9 x)), H) := fun x hx H => small_at k (by omega) x hx H
  obtain ⟨P, eP⟩ : ∃ P, P = pk a f t sq key pr sv md cd bd := ⟨_, rfl⟩
  obtain ⟨b0, eb0⟩ : ∃ b, b = [a, f, t] ++ vb 9 sq ++ vb 9 key.length ++ key := ⟨_, rfl⟩
  obtain ⟨b2, eb2⟩ : ∃ b, b = (b0 ++ big 8 pr) ++ (vb 9 sv.length ++ sv) ++ (vb 9 md.length ++ md) := ⟨_, rfl⟩
  have hP : P = b2 ++ (vb 9 cd ++ vb 9 bd.length ++ bd) := by
    rw [eP, eb2, eb0, pk]
    simp only [List.append_assoc]
  rw [← eP] at hlen
  have lb2 : b2.length ≤ 560 := by rw [hP] at hlen; simp at hlen; omega
  have lb0 : b0.length + 8 ≤ 560 := by rw [eb2] at lb2; simp [big_length] at lb2; omega
  have lsv : sv.length ≤ 560 := by rw [eb2] at lb2; simp at lb2; omega
  have lmd : md.length ≤ 560 := by rw [eb2] at lb2; simp at lb2; omega
  have lbd := L.hb
  -- the head
  obtain ⟨q1, e1⟩ := f9_head (callN Pt.env k) k a f t sq pr cd key sv md bd (.int .i64 at_) (.int .u8 (mask.toNat : Nat)) L.hk2 h25 L.hsq (.seq (.seq (subC [1, 1, 0, 0] (codeOf Tryz.f9)) (.block 0 (.loop B9))) (.seq (.seq (subC [1, 1, 1, 0, 0] (codeOf Tryz.f9)) (.block 2 (.loop D9))) (subC [1, 1, 1, 1] (codeOf Tryz.f9))))
  rw [← eb0, f9_r2] at e1
  -- the print
  obtain ⟨q2, e2⟩ := f9_loop (callN Pt.env k) k a f t sq pr cd key sv md bd (.int .i64 at_) (.int .u8 (mask.toNat : Nat)) 8 k b0 [] (by omega) (by omega) (by omega)
  obtain ⟨q3, e3⟩ := f9_r6 (callN Pt.env k) k a.toNat f.toNat t.toNat sq key pr sv md cd bd (.agg (lc a.toNat f.toNat t.toNat sq key pr sv md cd bd)) (.int .i64 at_) (.int .u8 (mask.toNat : Nat)) (.int .i64 (-8)) (b0 ++ big 8 pr) q2 (.block 2 (.loop D9)) (subC [1, 1, 1, 1] (codeOf Tryz.f9))
  -- service and method
  obtain ⟨q4, e4⟩ := f9_svcs (callN Pt.env k) k (.agg (lc a.toNat f.toNat t.toNat sq key pr sv md cd bd)) (.int .i64 at_) (.int .u8 (mask.toNat : Nat)) (.int .i64 (-8)) (.cells (lc a.toNat f.toNat t.toNat sq key pr sv md cd bd)) sv md (b0 ++ big 8 pr) k (by omega) q3 (by omega) (by omega) (by simp [big_length]; omega) h25
  rw [← eb2] at e4
  -- packed, read
  have h26 : ∀ H, callAt (callN Pt.env k) 26 [.str P] H = some (.ret (.str (four (Sum.sum P))), H) := by
    intro H
    obtain ⟨k, rfl⟩ : ∃ j, k = j + 1 := ⟨k - 1, by omega⟩
    exact callAt_bare _ 26 _ H _ _ rfl (f26_ok k P (by omega) (by omega)) rfl
  obtain ⟨q5, e5⟩ := f9_t1 (callN Pt.env k) k a f t sq pr cd key sv md bd (.int .i64 at_) (.int .u8 (mask.toNat : Nat)) (.int .i64 (-8)) b2 P (by omega) lbd L.hcd (by omega) hP (four (Sum.sum P)) rfl h25 h26
    (fun H => by rw [eP]; exact pack_ok a f t sq key pr sv md cd bd k (by omega) L H) (fun H => by rw [eP]; exact read_ok a f t sq key pr sv md cd bd k (by omega) L H) q4 (subC [1, 1, 1, 1, 1, 1, 1, 1] (codeOf Tryz.f9))
  -- another byte
  have hbl : (P ++ four (Sum.sum P)).length = P.length + 4 := by rw [List.length_append, four_length]
  have hi : at_ % (P ++ four (Sum.sum P)).length < (P ++ four (Sum.sum P)).length := Nat.mod_lt _ (by omega)
  obtain ⟨w, hw⟩ : ∃ w, (P ++ four (Sum.sum P))[at_ % (P ++ four (Sum.sum P)).length]? = some w := ⟨_, List.getElem?_eq_getElem hi⟩
  have hm : (if mask.toNat < 1 then 1 else mask.toNat) < 256 := by have := mask.toNat_lt; split <;> omega
  have hm1 : 1 ≤ (if mask.toNat < 1 then 1 else mask.toNat) := by split <;> omega
  have hx : w.toNat ^^^ (if mask.toNat < 1 then 1 else mask.toNat) < 2 ^ 8 := Nat.xor_lt_two_pow w.toNat_lt hm
  have hv : (UInt8.ofNat (w.toNat ^^^ (if mask.toNat < 1 then 1 else mask.toNat))).toNat = w.toNat ^^^ (if mask.toNat < 1 then 1 else mask.toNat) := by
    rw [UInt8.toNat_ofNat']; exact Nat.mod_eq_of_lt hx
  have hne : UInt8.ofNat (w.toNat ^^^ (if mask.toNat < 1 then 1 else mask.toNat)) ≠ w := by
    intro h
    rw [h] at hv
    exact xor_ne _ _ hm1 hv.symm
  have ha : a = 1 ∨ a = 2 ∨ a = 3 ∨ a = 4 := by
    rcases L.hk with ⟨h, _⟩ | ⟨h, _⟩
    · rcases h with h | ⟨h, _⟩
      · exact .inl h
      · exact .inr (.inr (.inl h))
    · rcases h with h | h
      · exact .inr (.inl h)
      · exact .inr (.inr (.inr h))
  have hkk : ∃ j cs, IntKind.wrap .u8 ((a.toNat : Int) - 1) = j ∧ indexAddrA Pt.env.ty 22 kinds4 j = some (.eptr cs) ∧ ∀ H, loadA Pt.env.ty H 5 (.eptr cs) = some (.int .u8 (if a = 1 then 2 else if a = 3 then 4 else 0)) := by
    rcases ha with rfl | rfl | rfl | rfl
    · exact ⟨0, [.int .u8 2, .int .u8 0, .int .u8 4, .int .u8 0], by decide, by kernel_rfl, fun H => by kernel_rfl⟩
    · exact ⟨1, [.int .u8 0, .int .u8 4, .int .u8 0], by decide, by kernel_rfl, fun H => by kernel_rfl⟩
    · exact ⟨2, [.int .u8 4, .int .u8 0], by decide, by kernel_rfl, fun H => by kernel_rfl⟩
    · exact ⟨3, [.int .u8 0], by decide, by kernel_rfl, fun H => by kernel_rfl⟩
  obtain ⟨j, cs, k1, k2, k3⟩ := hkk
  obtain ⟨st, r1, r2, r3⟩ := f9_t2 (callN Pt.env k) k a f t sq pr cd key sv md bd at_ mask (.int .i64 (-8)) (P ++ four (Sum.sum P)) (by omega) w hw _ hv _ j k1 cs k2 k3
    (fun H => read_changed k (by omega) P (by omega) _ w _ hw hne H)
    (fun H => read_short k (by omega) _ (by rw [List.length_take]; omega) H)
    (fun H => pack_bad f key sv md bd k (by omega) a.toNat sq pr cd L.hf H)
    (fun H => answer_ok f.toNat t.toNat sq pr cd 7 key sv md bd [121] k (by omega) a ha H) q5
  have e2' : loopN 7 1 (runCode Pt.env (callN Pt.env k) k B9) k ⟨⟨4035225266124488143, [(0, .agg (lc a.toNat f.toNat t.toNat sq key pr sv md cd bd)), (1, .int .i64 at_), (2, .int .u8 (mask.toNat : Nat)), (3, .ref 0 0), (6, .bool false), (7, .str b0), (8, .int .i64 56)], []⟩, [.cells (lc a.toNat f.toNat t.toNat sq key pr sv md cd bd)], 185, []⟩ = _ := e2
  rw [c_skipseq, c_block, c_loop] at e1
  have e1' : _ = thenA (ob (loopN 7 1 (runCode Pt.env (callN Pt.env k) k B9) k ⟨⟨4035225266124488143, [(0, .agg (lc a.toNat f.toNat t.toNat sq key pr sv md cd bd)), (1, .int .i64 at_), (2, .int .u8 (mask.toNat : Nat)), (3, .ref 0 0), (6, .bool false), (7, .str b0), (8, .int .i64 56)], []⟩, [.cells (lc a.toNat f.toNat t.toNat sq key pr sv md cd bd)], 185, []⟩) _) _ := e1
  rw [e2', ob_some] at e1'
  simp only [lv_exit, Nat.beq_refl, bc_true, t_normal] at e1'
  rw [e3, c_skipseq, c_block, c_loop] at e1'
  have e1'' : _ = thenA (ob (loopN 10 1 (runCode Pt.env (callN Pt.env k) k D9) k ⟨⟨4035225266124488143, l9 (.agg (lc a.toNat f.toNat t.toNat sq key pr sv md cd bd)) (.int .i64 at_) (.int .u8 (mask.toNat : Nat)) (.int .i64 (-8)) sv md (b0 ++ big 8 pr) 0, q3⟩, [.cells (lc a.toNat f.toNat t.toNat sq key pr sv md cd bd)], 185, []⟩) _) _ := e1'
  rw [e4, ob_some] at e1''
  simp only [lv_exit, Nat.beq_refl, bc_true, t_normal] at e1''
  refine callAt_bare _ 9 _ H st.heap _ rfl (callN_ret Pt.env _ k 9 _ Tryz.f9 (codeOf Tryz.f9) st _ (by kernel_rfl) (by kernel_rfl) rfl (by kernel_rfl) ?_ r2 r3) rfl
  rw [m9]
  refine Eq.trans e1'' ?_
  refine Eq.trans ?_ (e5.trans r1)
  rfl
end
end Go.Proofs
