/-
sum.table, whole; sum.More and Crc.
sum.More and Crc.
-/
import Derived.Test.YtpgdfpcihamldaaGreatDoorK18
import Derived.Test.YtpgdfpcihamldaaGreatDoorK17
set_option linter.unusedSimpArgs false
namespace Go.Proofs
open Go Go.Pm Go.Proofs.Sum
set_option maxRecDepth 100000
theorem stpN_8 (c : BitVec 32) : stpN 8 c = s8 c := rfl
noncomputable def Tw : Code := .block 2 (.loop Ti)
noncomputable def T3 : Code := subC [1, 1, 0, 1, 0, 0, 0] (codeOf Tryz.f186)
noncomputable def Tc : Code := subC [1, 1, 0, 1, 0, 0, 1, 0] (codeOf Tryz.f186)
noncomputable def T4 : Code := subC [1, 1, 0, 1, 0, 0, 1, 1, 0, 0, 0] (codeOf Tryz.f186)
noncomputable def T5 : Code := subC [1, 1, 0, 1, 0, 0, 1, 1, 0, 0, 1, 0] (codeOf Tryz.f186)
noncomputable def T6 : Code := subC [1, 1, 0, 1, 0, 0, 1, 1, 0, 0, 1, 1, 0, 0] (codeOf Tryz.f186)
noncomputable def T12 : Code := subC [1, 1, 0, 1, 0, 0, 1, 1, 0, 0, 1, 1, 1] (codeOf Tryz.f186)
noncomputable def T13 : Code := subC [1, 1, 0, 1, 0, 0, 1, 1, 1] (codeOf Tryz.f186)
noncomputable def To (W : Code) : Code := .seq T3 (.seq Tc (.seq (.block 1 (.seq T4 (.seq T5 (.seq (.seq T6 W) T12)))) T13))
theorem Tw_run (call : CallT) (lf : Nat) (hl : 8 < lf) (H : List ABlk) (i a b : AV) (c : BitVec 32) : ∃ reg,
    runCode Pt.env call lf Tw ⟨⟨543, [(0, a), (1, b), (4, i), (2, i), (3, .int .u32 (c.toNat : Nat)), (9, .int .i64 0)], []⟩, H, 24, []⟩ =
      some (.normal, ⟨⟨543, [(0, a), (1, b), (4, i), (2, i), (3, .int .u32 ((s8 c).toNat : Nat)), (9, .int .i64 8)], reg⟩, H, 24, []⟩) := by
  obtain ⟨reg, hr⟩ := f186_inner call lf H i a b 8 0 lf c [] rfl hl
  refine ⟨reg, ?_⟩
  show runCode Pt.env call lf (.block 2 (.loop Ti)) _ = _
  rw [c_block, c_loop]
  have hr' : loopN 6 H.length (runCode Pt.env call lf Ti) lf ⟨⟨543, [(0, a), (1, b), (4, i), (2, i), (3, .int .u32 (c.toNat : Nat)), (9, .int .i64 0)], []⟩, H, 24, []⟩ = _ := hr
  show ob (loopN 6 H.length (runCode Pt.env call lf Ti) lf ⟨⟨543, [(0, a), (1, b), (4, i), (2, i), (3, .int .u32 (c.toNat : Nat)), (9, .int .i64 0)], []⟩, H, 24, []⟩) _ = _
  rw [hr']
  rfl
theorem d288 : descT Pt.env.ty 288 = some (.array 256 150) := by kernel_rfl
theorem z150 : sizeT Pt.env.ty 150 = some 1 := by kernel_rfl
theorem conv3_150 (H : List ABlk) (i : Nat) : convertA Pt.env.ty 3 150 H (.int .i64 i) = some (.int .u32 (((BitVec.ofNat 32 i).toNat : Nat) : Int), H) := by
  have d3 : descT Pt.env.ty 3 = some (.int .i64) := by kernel_rfl
  simp only [convertA, d3, d150, wrap_u32, BitVec.toNat_ofNat]
theorem iaddr288 (i : Nat) (hi : i < 256) : indexAddrA Pt.env.ty 288 (.ref 0 0) i = some (.ref 0 i) := by
  have h : inR (i : Int) 256 = true := by simp [inR]; omega
  simp only [indexAddrA, d288, z150, h, bc_true, addA, Int.toNat_natCast, Nat.mul_one, Nat.zero_add]
theorem setNth_mid {α : Type} (a : List α) (z v : α) (b : List α) : setNth (a ++ z :: b) a.length v = a ++ v :: b := by
  induction a with
  | nil => rfl
  | cons x a ih => show x :: setNth (a ++ z :: b) a.length v = _; rw [ih]; rfl
theorem tblTo_length (i : Nat) (hi : i ≤ 256) : (tblTo i).length = 256 := by simp [tblTo]; omega
theorem tblTo_set (i : Nat) (hi : i < 256) : setNth (tblTo i) i (tf i) = tblTo (i + 1) := by
  obtain ⟨r, hr⟩ : ∃ r, 256 - i = r + 1 := ⟨256 - i - 1, by omega⟩
  have h2 : 256 - (i + 1) = r := by omega
  unfold tblTo
  rw [hr, h2, List.replicate_succ]
  have := setNth_mid ((List.range i).map tf) (.int .u32 0) (tf i) (List.replicate r (.int .u32 0))
  rw [List.length_map, List.length_range] at this
  rw [this, List.range_succ, List.map_append, List.append_assoc]
  rfl
theorem store288 (i : Nat) (hi : i < 256) : storeA Pt.env.ty [.cells (tblTo i)] 150 (tf i) (.ref 0 i) = some [.cells (tblTo (i + 1))] := by
  have h1 : Nat.ble (i + 1) (tblTo i).length = true := by rw [tblTo_length i (by omega)]; exact Nat.ble_eq_true_of_le (by omega)
  have e : storeA Pt.env.ty [.cells (tblTo i)] 150 (tf i) (.ref 0 i) = bc (true && Nat.ble (i + 1) (tblTo i).length && true) (some [.cells (setNth (tblTo i) i (tf i))]) none := by
    simp only [storeA, nth_zero, z150]; rfl
  rw [e, h1, tblTo_set i hi]; rfl
theorem f186_round (call : CallT) (lf : Nat) (W : Code) (hW : ∀ H : List ABlk, ∀ i a b : AV, ∀ c : BitVec 32, ∃ reg, runCode Pt.env call lf W ⟨⟨543, [(0, a), (1, b), (4, i), (2, i), (3, .int .u32 (c.toNat : Nat)), (9, .int .i64 0)], []⟩, H, 24, []⟩ =
      some (.normal, ⟨⟨543, [(0, a), (1, b), (4, i), (2, i), (3, .int .u32 ((s8 c).toNat : Nat)), (9, .int .i64 8)], reg⟩, H, 24, []⟩))
    (r0 : List (Nat × AV)) (i : Nat) (hi : i < 256) :
    ∃ a b c reg, runCode Pt.env call lf (To W) ⟨⟨543, [(0, .nilp), (1, .ref 0 0), (4, .int .i64 i)], r0⟩, [.cells (tblTo i)], 24, []⟩ =
      some (.normal, ⟨⟨543, [(0, .nilp), (1, .ref 0 0), (4, .int .i64 (i + 1 : Nat)), (2, a), (3, b), (9, c)], reg⟩, [.cells (tblTo (i + 1))], 24, []⟩) := by
  have h1 : decide ((i : Int) < 256) = true := by simp; omega
  obtain ⟨reg, hr⟩ := hW [.cells (tblTo i)] (.int .i64 i) .nilp (.ref 0 0) (BitVec.ofNat 32 i)
  have hst := store288 i hi
  unfold tf at hst
  dsimp only [To, T3, Tc, T4, T5, T6, T12, T13, codeOf, Tryz.f186, subC, bc, Nat.beq]
  simp (disch := decide) only [c_seq, c_cond, c_block, c_exit, c_skip, c_ret, c_region, o_cons, o_guard, o_nil, sg_true, sg_false, t_normal, t_exit, t_ret, lv_ret, lv_normal, lv_exit, w_move, w_assign, w_bin, w_conv, w_build, w_call, w_pick, w_alloc, w_box, w_agg, w_load, w_store, w_nil, w_un, w_iface, w_func, w_slice, w_faddr, w_field, w_iaddr, w_index, w_extract, e_loc, e_reg, e_const, e_func, e_glob, g_hit, g_miss, p_hit, p_miss, p_nil, s_done, s_go, s_put_loc, s_put_reg, s_put_none, s_back, okV, okH, ob_some, cond_bool, bc_true, bc_false, v_int, v_bool, v_str, v_nil, oBin, oConv, oBuildSlice, oUn, oLoad, oStore, oFieldAddr, oIndexAddr, oIndex, oSlice, oExtract, oPick, oAlloc, oBox, oNil, oBuild, stepC, s_call, oBuiltin, oLen, oAppend, optV_none, optV_some, parts_nil, parts_cons, vals_nil, vals_cons, b_lss, b_add, h1, conv3_150, hr, iaddr288 i hi, hst, add1' i (by omega)]
  exact ⟨_, _, _, _, rfl⟩
theorem f186_stop (call : CallT) (lf : Nat) (W : Code) (r0 : List (Nat × AV)) (H : List ABlk) :
    ∃ reg, runCode Pt.env call lf (To W) ⟨⟨543, [(0, .nilp), (1, .ref 0 0), (4, .int .i64 256)], r0⟩, H, 24, []⟩ =
      some (.exit 0, ⟨⟨543, [(0, .nilp), (1, .ref 0 0), (4, .int .i64 256)], reg⟩, H, 24, []⟩) := by
  dsimp only [To, T3, Tc, codeOf, Tryz.f186, subC, bc, Nat.beq]
  simp (disch := decide) only [c_seq, c_cond, c_block, c_exit, c_skip, c_ret, c_region, o_cons, o_guard, o_nil, sg_true, sg_false, t_normal, t_exit, t_ret, lv_ret, lv_normal, lv_exit, w_move, w_assign, w_bin, w_conv, w_build, w_call, w_pick, w_alloc, w_box, w_agg, w_load, w_store, w_nil, w_un, w_iface, w_func, w_slice, w_faddr, w_field, w_iaddr, w_index, w_extract, e_loc, e_reg, e_const, e_func, e_glob, g_hit, g_miss, p_hit, p_miss, p_nil, s_done, s_go, s_put_loc, s_put_reg, s_put_none, s_back, okV, okH, ob_some, cond_bool, bc_true, bc_false, v_int, v_bool, v_str, v_nil, oBin, oConv, oBuildSlice, oUn, oLoad, oStore, oFieldAddr, oIndexAddr, oIndex, oSlice, oExtract, oPick, oAlloc, oBox, oNil, oBuild, stepC, s_call, oBuiltin, oLen, oAppend, optV_none, optV_some, parts_nil, parts_cons, vals_nil, vals_cons, b_lss, show decide ((256 : Int) < 256) = false from by decide]
  exact ⟨_, rfl⟩
theorem tblTo_256 : tblTo 256 = tbl := by simp [tblTo, tbl]
theorem f186_loop (call : CallT) (lf : Nat) (hl : 8 < lf) : ∀ (n i k : Nat) (r0 : List (Nat × AV)), i + n = 256 → n < k → ∃ reg,
    loopN 3 1 (runCode Pt.env call lf (To Tw)) k ⟨⟨543, [(0, .nilp), (1, .ref 0 0), (4, .int .i64 i)], r0⟩, [.cells (tblTo i)], 24, []⟩ =
      some (.exit 0, ⟨⟨543, [(0, .nilp), (1, .ref 0 0), (4, .int .i64 256)], reg⟩, [.cells tbl], 24, []⟩) := by
  intro n
  induction n with
  | zero =>
    intro i k r0 hn hk
    obtain ⟨k, rfl⟩ : ∃ j, k = j + 1 := ⟨k - 1, by omega⟩
    obtain rfl : i = 256 := by omega
    obtain ⟨reg, hr⟩ := f186_stop call lf Tw r0 [.cells (tblTo 256)]
    exact ⟨reg, by rw [loopN_succ, show ((256 : Nat) : Int) = 256 from rfl, hr, t_exit, tblTo_256]⟩
  | succ n ih =>
    intro i k r0 hn hk
    obtain ⟨k, rfl⟩ : ∃ j, k = j + 1 := ⟨k - 1, by omega⟩
    obtain ⟨a, b, c, reg, hr⟩ := f186_round call lf Tw (Tw_run call lf hl) r0 i (by omega)
    obtain ⟨reg', h2⟩ := ih (i + 1) k [] (by omega) (by omega)
    refine ⟨reg', ?_⟩
    rw [loopN_succ, hr, t_normal]
    rw [show trim 3 1 _ = _ from trim0 543 3 _ reg 24 [] [.cells (tblTo (i + 1))], ob_some]
    exact h2
theorem zero288 : zeroT Pt.env.ty 288 = some (.agg (tblTo 0)) := by kernel_rfl
theorem v_ptr : ofVal (.pointer none) = some .nilp := nr rfl
theorem cells_agg (l : List AV) : AV.cells (.agg l) = l := nr rfl
theorem f186_head (call : CallT) (lf : Nat) (a b : Code) : runCode Pt.env call lf (.seq (subC [0] (codeOf Tryz.f186)) (.seq (subC [1, 0] (codeOf Tryz.f186)) (.seq (.seq (subC [1, 1, 0, 0] (codeOf Tryz.f186)) a) b))) ⟨⟨543, [], []⟩, [], 24, []⟩ =
    runCode Pt.env call lf (.seq (.seq .skip a) b) ⟨⟨543, [(0, .nilp), (1, .ref 0 0), (4, .int .i64 0)], []⟩, [.cells (tblTo 0)], 24, []⟩ := by
  dsimp only [codeOf, Tryz.f186, subC, bc, Nat.beq]
  simp (disch := decide) only [c_seq, c_cond, c_block, c_exit, c_skip, c_ret, c_region, o_cons, o_guard, o_nil, sg_true, sg_false, t_normal, t_exit, t_ret, lv_ret, lv_normal, lv_exit, w_move, w_assign, w_bin, w_conv, w_build, w_call, w_pick, w_alloc, w_box, w_agg, w_load, w_store, w_nil, w_un, w_iface, w_func, w_slice, w_faddr, w_field, w_iaddr, w_index, w_extract, e_loc, e_reg, e_const, e_func, e_glob, g_hit, g_miss, p_hit, p_miss, p_nil, s_done, s_go, s_put_loc, s_put_reg, s_put_none, s_back, okV, okH, ob_some, cond_bool, bc_true, bc_false, v_int, v_bool, v_str, v_nil, oBin, oConv, oBuildSlice, oUn, oLoad, oStore, oFieldAddr, oIndexAddr, oIndex, oSlice, oExtract, oPick, oAlloc, oBox, oNil, oBuild, stepC, s_call, oBuiltin, oLen, oAppend, optV_none, optV_some, parts_nil, parts_cons, vals_nil, vals_cons, v_ptr, zero288, List.length_nil, List.nil_append, cells_agg]
theorem f186_ok (k : Nat) (hk : 256 < k) : callN Pt.env (k + 1) 186 [] [] = some (.ret (.ref 0 0), [.cells tbl]) := by
  obtain ⟨reg, h2⟩ := f186_loop (callN Pt.env k) k (by omega) 256 0 k [] rfl hk
  refine callN_ret Pt.env _ k 186 _ Tryz.f186 (codeOf Tryz.f186) ⟨⟨543, [(0, .ref 0 0), (1, .ref 0 0), (4, .int .i64 256)], []⟩, [.cells tbl], 24, []⟩ _ (by kernel_rfl) (by kernel_rfl) rfl (by kernel_rfl) ?_ rfl (by kernel_rfl)
  show runCode Pt.env (callN Pt.env k) k (.seq (subC [0] (codeOf Tryz.f186)) (.seq (subC [1, 0] (codeOf Tryz.f186)) (.seq (.seq (subC [1, 1, 0, 0] (codeOf Tryz.f186)) (.block 0 (.loop (To Tw)))) (subC [1, 1, 1] (codeOf Tryz.f186))))) ⟨⟨543, [], []⟩, [], 24, []⟩ = _
  rw [f186_head, c_seq, c_seq, c_skip, t_normal, c_block, c_loop]
  have h2' : loopN 3 1 (runCode Pt.env (callN Pt.env k) k (To Tw)) k ⟨⟨543, [(0, .nilp), (1, .ref 0 0), (4, .int .i64 0)], []⟩, [.cells (tblTo 0)], 24, []⟩ = _ := h2
  show thenA (ob (loopN 3 1 (runCode Pt.env (callN Pt.env k) k (To Tw)) k ⟨⟨543, [(0, .nilp), (1, .ref 0 0), (4, .int .i64 0)], []⟩, [.cells (tblTo 0)], 24, []⟩) _) _ = _
  rw [h2', ob_some]
  simp only [lv_exit, Nat.beq_refl, bc_true, t_normal]
  dsimp only [codeOf, Tryz.f186, subC, bc, Nat.beq]
  simp (disch := decide) only [c_seq, c_cond, c_block, c_exit, c_skip, c_ret, c_region, o_cons, o_guard, o_nil, sg_true, sg_false, t_normal, t_exit, t_ret, lv_ret, lv_normal, lv_exit, w_move, w_assign, w_bin, w_conv, w_build, w_call, w_pick, w_alloc, w_box, w_agg, w_load, w_store, w_nil, w_un, w_iface, w_func, w_slice, w_faddr, w_field, w_iaddr, w_index, w_extract, e_loc, e_reg, e_const, e_func, e_glob, g_hit, g_miss, p_hit, p_miss, p_nil, s_done, s_go, s_put_loc, s_put_reg, s_put_none, s_back, okV, okH, ob_some, cond_bool, bc_true, bc_false, v_int, v_bool, v_str, v_nil, oBin, oConv, oBuildSlice, oUn, oLoad, oStore, oFieldAddr, oIndexAddr, oIndex, oSlice, oExtract, oPick, oAlloc, oBox, oNil, oBuild, stepC, s_call, oBuiltin, oLen, oAppend, optV_none, optV_some, parts_nil, parts_cons, vals_nil, vals_cons]
end Go.Proofs
set_option linter.unusedSimpArgs false
namespace Go.Proofs
open Go Go.Pm Go.Proofs.Sum
set_option maxRecDepth 100000
theorem at_byte (c : BitVec 32) (b : UInt8) : ((c ^^^ wide b) &&& 255#32).toNat = (UInt8.ofNat c.toNat).toNat ^^^ b.toNat := by
  have hb := b.toNat_lt
  have e : (wide b).toNat = b.toNat := by
    unfold wide
    rw [BitVec.toNat_setWidth]
    exact Nat.mod_eq_of_lt (by have : b.toBitVec.toNat = b.toNat := rfl; omega)
  rw [BitVec.toNat_and, BitVec.toNat_xor, e, UInt8.toNat_ofNat']
  show (c.toNat ^^^ b.toNat) &&& (2 ^ 8 - 1) = _
  rw [Nat.and_two_pow_sub_one_eq_mod, Nat.xor_mod_two_pow, Nat.mod_eq_of_lt (a := b.toNat) (by omega)]
theorem tbl_get (j : Nat) (hj : j < 256) : nth tbl j = some (tf j) := by
  rw [nth_get, tbl, List.getElem?_map, List.getElem?_range hj]; rfl
theorem load288 (j : Nat) (hj : j < 256) : loadA Pt.env.ty [.cells tbl] 150 (.ref 0 j) = some (tf j) := by
  have a : aggT Pt.env.ty 150 = some false := by kernel_rfl
  simp only [loadA, nth_zero, partA, a, z150, tbl_get j hj]
  rfl
noncomputable def Bm : Code := subC [1, 1, 1, 0, 1, 0, 0] (codeOf Tryz.f139)
theorem f139_round (call : CallT) (lf : Nat) (r0 : List (Nat × AV)) (s : List UInt8) (c : BitVec 32) (i : Nat) (b : UInt8) (hb : s[i]? = some b) (hs : s.length < 9223372036854775807) :
    ∃ v reg, runCode Pt.env call lf Bm ⟨⟨6259, [(0, .int .u32 (c.toNat : Nat)), (1, .str s), (4, .int .u32 0), (5, .ref 0 0), (11, .int .i64 s.length), (12, .int .i64 i)], r0⟩, [.cells tbl], 31, []⟩ =
      some (.normal, ⟨⟨6259, [(0, .int .u32 ((nx c b).toNat : Nat)), (1, .str s), (4, .int .u32 0), (5, .ref 0 0), (11, .int .i64 s.length), (12, .int .i64 (i + 1 : Nat)), (6, v)], reg⟩, [.cells tbl], 31, []⟩) := by
  have hi : i < s.length := (List.getElem?_eq_some_iff.1 hb).1
  have h1 : decide ((i : Int) < s.length) = true := by simp; omega
  have h8 := shr32 c 8 (by omega)
  rw [show ((8 : Nat) : Int) = 8 from rfl] at h8
  have hx := xor_u8 (UInt8.ofNat c.toNat).toNat b.toNat (UInt8.toNat_lt _) (UInt8.toNat_lt _)
  rw [← at_byte] at hx
  have hj : ((c ^^^ wide b) &&& 255#32).toNat < 256 := by
    rw [BitVec.toNat_and]
    exact Nat.lt_of_le_of_lt Nat.and_le_right (by decide)
  have hsp : span 0 ((c ^^^ wide b) &&& 255#32).toNat 1 = some [(0, ((c ^^^ wide b) &&& 255#32).toNat, 1)] := span_lit _ _ _ rfl (Nat.ble_eq_true_of_le (by unfold far; omega))
  have hl := load288 _ hj
  unfold tf at hl
  rw [BitVec.ofNat_toNat, BitVec.setWidth_eq] at hl
  have hn := nx_table c b
  dsimp only [Bm, codeOf, Tryz.f139, subC, bc, Nat.beq]
  simp (disch := decide) only [c_seq, c_cond, c_block, c_exit, c_skip, c_ret, c_region, o_cons, o_guard, o_nil, sg_true, sg_false, t_normal, t_exit, t_ret, lv_ret, lv_normal, lv_exit, w_move, w_assign, w_bin, w_conv, w_build, w_call, w_pick, w_alloc, w_box, w_agg, w_load, w_store, w_nil, w_un, w_iface, w_func, w_slice, w_faddr, w_field, w_iaddr, w_index, w_extract, e_loc, e_reg, e_const, e_func, e_glob, g_hit, g_miss, p_hit, p_miss, p_nil, s_done, s_go, s_put_loc, s_put_reg, s_put_none, s_back, okV, okH, ob_some, cond_bool, bc_true, bc_false, v_int, v_bool, v_str, v_nil, oBin, oConv, oBuildSlice, oUn, oLoad, oStore, oFieldAddr, oIndexAddr, oIndex, oSlice, oExtract, oPick, oAlloc, oBox, oNil, oBuild, stepC, s_call, oBuiltin, oLen, oAppend, optV_none, optV_some, parts_nil, parts_cons, vals_nil, vals_cons, b_lss, b_add, b_shr, b_xor, h1, h8, hx, hl, conv150_5, index9 s i b hb, iaddr288 _ hj, add1' i (by omega), xor_u32, ← hn, c_draw, d_cons, d_nil, ko_move, ko_bin, ko_conv, kc_int, ko_index, ko_nil, ko_iaddr, ko_load, ko_assign, dk_plain, dk_read0, tn_normal, lf_ref, z150, hsp, readK_lit]
  exact ⟨_, _, rfl⟩
theorem f139_stop (call : CallT) (lf : Nat) (r0 : List (Nat × AV)) (c e s t : AV) (H : List ABlk) (n : Nat) :
    ∃ reg, runCode Pt.env call lf Bm ⟨⟨6259, [(0, c), (1, s), (4, e), (5, t), (11, .int .i64 n), (12, .int .i64 n)], r0⟩, H, 31, []⟩ =
      some (.exit 0, ⟨⟨6259, [(0, c), (1, s), (4, e), (5, t), (11, .int .i64 n), (12, .int .i64 n)], reg⟩, H, 31, []⟩) := by
  have h1 : decide ((n : Int) < n) = false := by simp
  dsimp only [Bm, codeOf, Tryz.f139, subC, bc, Nat.beq]
  simp (disch := decide) only [c_seq, c_cond, c_block, c_exit, c_skip, c_ret, c_region, o_cons, o_guard, o_nil, sg_true, sg_false, t_normal, t_exit, t_ret, lv_ret, lv_normal, lv_exit, w_move, w_assign, w_bin, w_conv, w_build, w_call, w_pick, w_alloc, w_box, w_agg, w_load, w_store, w_nil, w_un, w_iface, w_func, w_slice, w_faddr, w_field, w_iaddr, w_index, w_extract, e_loc, e_reg, e_const, e_func, e_glob, g_hit, g_miss, p_hit, p_miss, p_nil, s_done, s_go, s_put_loc, s_put_reg, s_put_none, s_back, okV, okH, ob_some, cond_bool, bc_true, bc_false, v_int, v_bool, v_str, v_nil, oBin, oConv, oBuildSlice, oUn, oLoad, oStore, oFieldAddr, oIndexAddr, oIndex, oSlice, oExtract, oPick, oAlloc, oBox, oNil, oBuild, stepC, s_call, oBuiltin, oLen, oAppend, optV_none, optV_some, parts_nil, parts_cons, vals_nil, vals_cons, b_lss, h1]
  exact ⟨_, rfl⟩
theorem f139_loop (call : CallT) (lf : Nat) (s : List UInt8) (hs : s.length < 9223372036854775807) : ∀ (rest pre : List UInt8) (k : Nat) (c : BitVec 32) (r0 : List (Nat × AV)), pre ++ rest = s → rest.length < k → ∃ reg,
    loopN 6 1 (runCode Pt.env call lf Bm) k ⟨⟨6259, [(0, .int .u32 (c.toNat : Nat)), (1, .str s), (4, .int .u32 0), (5, .ref 0 0), (11, .int .i64 s.length), (12, .int .i64 pre.length)], r0⟩, [.cells tbl], 31, []⟩ =
      some (.exit 0, ⟨⟨6259, [(0, .int .u32 ((Sum.reg c rest).toNat : Nat)), (1, .str s), (4, .int .u32 0), (5, .ref 0 0), (11, .int .i64 s.length), (12, .int .i64 s.length)], reg⟩, [.cells tbl], 31, []⟩) := by
  intro rest
  induction rest with
  | nil =>
    intro pre k c r0 hp hk
    obtain ⟨k, rfl⟩ : ∃ j, k = j + 1 := ⟨k - 1, by omega⟩
    obtain ⟨reg, hr⟩ := f139_stop call lf r0 (.int .u32 (c.toNat : Nat)) (.int .u32 0) (.str s) (.ref 0 0) [.cells tbl] s.length
    rw [List.append_nil] at hp
    exact ⟨reg, by rw [loopN_succ, hp, hr, t_exit]; rfl⟩
  | cons b rest ih =>
    intro pre k c r0 hp hk
    obtain ⟨k, rfl⟩ : ∃ j, k = j + 1 := ⟨k - 1, by omega⟩
    have hb : s[pre.length]? = some b := by rw [← hp]; simp
    obtain ⟨v, reg, hr⟩ := f139_round call lf r0 s c pre.length b hb hs
    obtain ⟨reg', h2⟩ := ih (pre ++ [b]) k (nx c b) [] (by rw [← hp]; simp) (by simp at hk; omega)
    refine ⟨reg', ?_⟩
    rw [loopN_succ, hr, t_normal]
    rw [show trim 6 1 _ = _ from trim0 6259 6 _ reg 31 [] [.cells tbl], ob_some]
    rw [List.length_append] at h2
    exact h2
theorem callAt_186 (call : CallT) (h : call 186 [] [] = some (.ret (.ref 0 0), [.cells tbl])) : callAt call 186 [] [] = some (.ret (.ref 0 0), [.cells tbl]) :=
  callAt_by call 186 [] [] [] [] [] _ rfl rfl rfl h
theorem f139_head (call : CallT) (lf : Nat) (h : call 186 [] [] = some (.ret (.ref 0 0), [.cells tbl])) (s : List UInt8) (a b : Code) : runCode Pt.env call lf (.seq (subC [0] (codeOf Tryz.f139)) (.seq (subC [1, 0] (codeOf Tryz.f139)) (.seq (subC [1, 1, 0] (codeOf Tryz.f139)) (.seq (.seq (subC [1, 1, 1, 0, 0] (codeOf Tryz.f139)) a) b)))) ⟨⟨6259, [(0, .int .u32 0), (1, .str s)], []⟩, [], 31, []⟩ =
    runCode Pt.env call lf (.seq (.seq .skip a) b) ⟨⟨6259, [(0, .int .u32 ((~~~ 0#32 : BitVec 32).toNat : Nat)), (1, .str s), (4, .int .u32 0), (5, .ref 0 0), (11, .int .i64 s.length), (12, .int .i64 0)], [(10, .str s)]⟩, [.cells tbl], 31, []⟩ := by
  have hn := not_u32 0#32
  rw [show (((0#32).toNat : Nat) : Int) = 0 from rfl] at hn
  have h6 := callAt_186 call h
  have ho : Pt.env.owns 186 = false := by kernel_rfl
  dsimp only [codeOf, Tryz.f139, subC, bc, Nat.beq]
  simp (disch := decide) only [c_seq, c_cond, c_block, c_exit, c_skip, c_ret, c_region, o_cons, o_guard, o_nil, sg_true, sg_false, t_normal, t_exit, t_ret, lv_ret, lv_normal, lv_exit, w_move, w_assign, w_bin, w_conv, w_build, w_call, w_pick, w_alloc, w_box, w_agg, w_load, w_store, w_nil, w_un, w_iface, w_func, w_slice, w_faddr, w_field, w_iaddr, w_index, w_extract, e_loc, e_reg, e_const, e_func, e_glob, g_hit, g_miss, p_hit, p_miss, p_nil, s_done, s_go, s_put_loc, s_put_reg, s_put_none, s_back, okV, okH, ob_some, cond_bool, bc_true, bc_false, v_int, v_bool, v_str, v_nil, oBin, oConv, oBuildSlice, oUn, oLoad, oStore, oFieldAddr, oIndexAddr, oIndex, oSlice, oExtract, oPick, oAlloc, oBox, oNil, oBuild, stepC, s_call, oBuiltin, oLen, oAppend, optV_none, optV_some, parts_nil, parts_cons, vals_nil, vals_cons, hn, len9', ho, h6, List.append_nil, List.nil_append, List.map_nil]
theorem f139_end (call : CallT) (lf : Nat) (r0 : List (Nat × AV)) (c : BitVec 32) (s e t l i : AV) (H : List ABlk) :
    ∃ reg, runCode Pt.env call lf (subC [1, 1, 1, 1] (codeOf Tryz.f139)) ⟨⟨6259, [(0, .int .u32 (c.toNat : Nat)), (1, s), (4, e), (5, t), (11, l), (12, i)], r0⟩, H, 31, []⟩ =
      some (.ret, ⟨⟨6259, [(0, .int .u32 (c.toNat : Nat)), (1, s), (4, .int .u32 ((~~~ c).toNat : Nat)), (5, t), (11, l), (12, i)], reg⟩, H, 31, []⟩) := by
  dsimp only [codeOf, Tryz.f139, subC, bc, Nat.beq]
  simp (disch := decide) only [c_seq, c_cond, c_block, c_exit, c_skip, c_ret, c_region, o_cons, o_guard, o_nil, sg_true, sg_false, t_normal, t_exit, t_ret, lv_ret, lv_normal, lv_exit, w_move, w_assign, w_bin, w_conv, w_build, w_call, w_pick, w_alloc, w_box, w_agg, w_load, w_store, w_nil, w_un, w_iface, w_func, w_slice, w_faddr, w_field, w_iaddr, w_index, w_extract, e_loc, e_reg, e_const, e_func, e_glob, g_hit, g_miss, p_hit, p_miss, p_nil, s_done, s_go, s_put_loc, s_put_reg, s_put_none, s_back, okV, okH, ob_some, cond_bool, bc_true, bc_false, v_int, v_bool, v_str, v_nil, oBin, oConv, oBuildSlice, oUn, oLoad, oStore, oFieldAddr, oIndexAddr, oIndex, oSlice, oExtract, oPick, oAlloc, oBox, oNil, oBuild, stepC, s_call, oBuiltin, oLen, oAppend, optV_none, optV_some, parts_nil, parts_cons, vals_nil, vals_cons, not_u32]
  exact ⟨_, rfl⟩
theorem f139_ok (k : Nat) (s : List UInt8) (hs : s.length < 9223372036854775807) (hk : s.length < k) (hk2 : 257 < k) : callN Pt.env (k + 1) 139 [.int .u32 0, .str s] [] = some (.ret (.int .u32 ((Sum.sum s).toNat : Nat)), [.cells tbl]) := by
  obtain ⟨reg, h2⟩ := f139_loop (callN Pt.env k) k s hs s [] k (~~~ 0#32) [(10, .str s)] rfl hk
  obtain ⟨reg', h3⟩ := f139_end (callN Pt.env k) k reg (Sum.reg (~~~ 0#32) s) (.str s) (.int .u32 0) (.ref 0 0) (.int .i64 s.length) (.int .i64 s.length) [.cells tbl]
  refine callN_ret Pt.env _ k 139 _ Tryz.f139 (codeOf Tryz.f139) ⟨⟨6259, [(0, .int .u32 ((Sum.reg (~~~ 0#32) s).toNat : Nat)), (1, .str s), (4, .int .u32 ((Sum.sum s).toNat : Nat)), (5, .ref 0 0), (11, .int .i64 s.length), (12, .int .i64 s.length)], reg'⟩, [.cells tbl], 31, []⟩ _ (by kernel_rfl) (by kernel_rfl) rfl (by kernel_rfl) ?_ rfl (by kernel_rfl)
  show runCode Pt.env (callN Pt.env k) k (.seq (subC [0] (codeOf Tryz.f139)) (.seq (subC [1, 0] (codeOf Tryz.f139)) (.seq (subC [1, 1, 0] (codeOf Tryz.f139)) (.seq (.seq (subC [1, 1, 1, 0, 0] (codeOf Tryz.f139)) (.block 0 (.loop Bm))) (subC [1, 1, 1, 1] (codeOf Tryz.f139)))))) ⟨⟨6259, [(0, .int .u32 0), (1, .str s)], []⟩, [], 31, []⟩ = _
  obtain ⟨k, rfl⟩ : ∃ j, k = j + 1 := ⟨k - 1, by omega⟩
  rw [f139_head _ _ (f186_ok k (by omega)), c_seq, c_seq, c_skip, t_normal, c_block, c_loop]
  have h2' : loopN 6 1 (runCode Pt.env (callN Pt.env (k + 1)) (k + 1) Bm) (k + 1) ⟨⟨6259, [(0, .int .u32 ((~~~ 0#32 : BitVec 32).toNat : Nat)), (1, .str s), (4, .int .u32 0), (5, .ref 0 0), (11, .int .i64 s.length), (12, .int .i64 0)], [(10, .str s)]⟩, [.cells tbl], 31, []⟩ = _ := h2
  show thenA (ob (loopN 6 1 (runCode Pt.env (callN Pt.env (k + 1)) (k + 1) Bm) (k + 1) ⟨⟨6259, [(0, .int .u32 ((~~~ 0#32 : BitVec 32).toNat : Nat)), (1, .str s), (4, .int .u32 0), (5, .ref 0 0), (11, .int .i64 s.length), (12, .int .i64 0)], [(10, .str s)]⟩, [.cells tbl], 31, []⟩) _) _ = _
  rw [h2', ob_some]
  simp only [lv_exit, Nat.beq_refl, bc_true, t_normal]
  exact h3
theorem f77_run (call : CallT) (lf : Nat) (s : List UInt8) (n : Nat) (h : callAt call 139 [.int .u32 0, .str s] [] = some (.ret (.int .u32 n), [])) :
    ∃ st, runCode Pt.env call lf (codeOf Tryz.f77) ⟨⟨Pt.env.mask 77, [(0, .str s)], []⟩, [], 5, []⟩ = some (.ret, st) ∧ st.defers = [] ∧ finishA Pt.env Tryz.f77 st st.heap = some (.ret (.int .u32 n), []) := by
  have ho : Pt.env.owns 139 = false := by kernel_rfl
  have hm : Pt.env.mask 77 = 5 := by kernel_rfl
  rw [hm]
  have hl : AV.melt (.str s) = .str s := rfl
  have hl2 : AV.melt (.int .u32 0) = .int .u32 0 := rfl
  dsimp only [codeOf, Tryz.f77]
  simp (disch := decide) only [c_seq, c_cond, c_block, c_exit, c_skip, c_ret, c_region, o_cons, o_guard, o_nil, sg_true, sg_false, t_normal, t_exit, t_ret, lv_ret, lv_normal, lv_exit, w_move, w_assign, w_bin, w_conv, w_build, w_call, w_pick, w_alloc, w_box, w_agg, w_load, w_store, w_nil, w_un, w_iface, w_func, w_slice, w_faddr, w_field, w_iaddr, w_index, w_extract, e_loc, e_reg, e_const, e_func, e_glob, g_hit, g_miss, p_hit, p_miss, p_nil, s_done, s_go, s_put_loc, s_put_reg, s_put_none, s_back, okV, okH, ob_some, cond_bool, bc_true, bc_false, v_int, v_bool, v_str, v_nil, oBin, oConv, oBuildSlice, oUn, oLoad, oStore, oFieldAddr, oIndexAddr, oIndex, oSlice, oExtract, oPick, oAlloc, oBox, oNil, oBuild, stepC, s_call, oBuiltin, oLen, oAppend, optV_none, optV_some, parts_nil, parts_cons, vals_nil, vals_cons, ho, List.append_nil, List.nil_append, List.map_cons, List.map_nil, hl, hl2, h]
  exact ⟨_, rfl, rfl, by kernel_rfl⟩
theorem f77_ok (k : Nat) (s : List UInt8) (hs : s.length < 9223372036854775807) (hk : s.length + 1 < k) (hk2 : 258 < k) : callN Pt.env (k + 1) 77 [.str s] [] = some (.ret (.int .u32 ((Sum.sum s).toNat : Nat)), []) := by
  obtain ⟨k, rfl⟩ : ∃ j, k = j + 1 := ⟨k - 1, by omega⟩
  obtain ⟨st, h1, h2, h3⟩ := f77_run (callN Pt.env (k + 1)) (k + 1) s (Sum.sum s).toNat (callAt_bare _ 139 _ [] _ _ rfl (f139_ok k s hs (by omega) (by omega)) rfl)
  exact callN_ret Pt.env _ (k + 1) 77 _ Tryz.f77 (codeOf Tryz.f77) st _ (by kernel_rfl) (by kernel_rfl) rfl (by kernel_rfl) h1 h2 h3
end Go.Proofs
