/-
redresstop.crc: a text's sum, bit by bit.
sum.table, More and Crc: a text's sum by a table.
-/
import Derived.Test.YtpgdfpcihamldaaGreatDoorK17
set_option linter.unusedSimpArgs false
namespace Go.Proofs
open Go Go.Pm Go.Proofs.Sum
set_option maxRecDepth 100000
/-! ### words of 32 bits -/
theorem shr32 (c : BitVec 32) (i : Nat) (hi : i ≤ 32) : ((c.toNat : Nat) : Int).fdiv (2 ^ (min (i : Int).toNat IntKind.u32.bits)) = (((c >>> i).toNat : Nat) : Int) := by
  rw [shr_nat c.toNat i IntKind.u32.bits hi, BitVec.toNat_ushiftRight, Nat.shiftRight_eq_div_pow]
theorem and1_32 (c : BitVec 32) : IntKind.wrap .u32 ((BitVec.ofInt IntKind.u32.bits (c.toNat : Int) &&& BitVec.ofInt IntKind.u32.bits 1).toNat : Int) = (((c &&& 1#32).toNat : Nat) : Int) := and_u32 c 1#32
theorem poly_32 (c : BitVec 32) : IntKind.wrap .u32 ((BitVec.ofInt IntKind.u32.bits (c.toNat : Int) ^^^ BitVec.ofInt IntKind.u32.bits 2197175160).toNat : Int) = (((c ^^^ poly).toNat : Nat) : Int) := xor_u32 c poly
theorem low_true (c : BitVec 32) (h : c.getLsbD 0 = true) : (((c &&& 1#32).toNat : Nat) : Int) = 1 := by
  have e : c &&& 1#32 = 1#32 := by
    apply BitVec.eq_of_getLsbD_eq
    intro i hi
    rw [BitVec.getLsbD_and]
    cases i with
    | zero => rw [h]; rfl
    | succ i => rw [show (1#32).getLsbD (i + 1) = false from by simp [BitVec.getLsbD_one], Bool.and_false]
  rw [e]; rfl
theorem low_false (c : BitVec 32) (h : c.getLsbD 0 = false) : (((c &&& 1#32).toNat : Nat) : Int) = 0 := by
  have e : c &&& 1#32 = 0#32 := by
    apply BitVec.eq_of_getLsbD_eq
    intro i hi
    rw [BitVec.getLsbD_and]
    cases i with
    | zero => rw [h]; rfl
    | succ i => rw [show (1#32).getLsbD (i + 1) = false from by simp [BitVec.getLsbD_one], Bool.and_false, BitVec.getLsbD_zero]
  rw [e]; rfl
theorem not_u32 (c : BitVec 32) : unA .xor (.int .u32 (c.toNat : Nat)) = some (.int .u32 (((~~~ c).toNat : Nat) : Int)) := by
  have e : IntKind.wrap .u32 ((BitVec.ofInt IntKind.u32.bits (((BitVec.allOnes 32).toNat : Nat) : Int) ^^^ BitVec.ofInt IntKind.u32.bits ((c.toNat : Nat) : Int)).toNat : Int) = (((~~~ c).toNat : Nat) : Int) := by
    rw [xor_u32, BitVec.allOnes_xor]
  rw [← e]
  rfl
theorem d150 : descT Pt.env.ty 150 = some (.int .u32) := by kernel_rfl
theorem conv5_150 (H : List ABlk) (b : UInt8) : convertA Pt.env.ty 5 150 H (.int .u8 (b.toNat : Int)) = some (.int .u32 (((wide b).toNat : Nat) : Int), H) := by
  have h := b.toNat_lt
  have e : (wide b).toNat = b.toNat := by
    unfold wide
    rw [BitVec.toNat_setWidth]
    exact Nat.mod_eq_of_lt (by have : b.toBitVec.toNat = b.toNat := rfl; omega)
  simp only [convertA, d5, d150, wrap_u32]
  rw [e, Nat.mod_eq_of_lt (by omega)]
theorem conv150_5 (H : List ABlk) (n : Nat) : convertA Pt.env.ty 150 5 H (.int .u32 (n : Int)) = some (.int .u8 ((UInt8.ofNat n).toNat : Int), H) := by
  simp only [convertA, d5, d150, wrap8_vb]
theorem nth_get {α : Type} (l : List α) : ∀ i, nth l i = l[i]? := by
  induction l with
  | nil => intro i; rfl
  | cons x l ih => intro i; cases i with
    | zero => rfl
    | succ i => rw [nth_succ, ih]; rfl
theorem index9 (s : List UInt8) (i : Nat) (b : UInt8) (h : s[i]? = some b) : indexA Pt.env.ty 9 (.str s) i = some (.int .u8 (b.toNat : Int)) := by
  have h0 : decide ((0 : Int) ≤ i) = true := by simp
  simp only [indexA, d9, h0, bc_true, Int.toNat_natCast, nth_get, h]
theorem len9' (H : List ABlk) (s : List UInt8) : lenA Pt.env.ty H 9 (.str s) = some (.int .i64 s.length) := by simp only [lenA, d9]
theorem add1' (i : Nat) (hi : i < 9223372036854775807) : IntKind.wrap .i64 ((i : Int) + 1) = ((i + 1 : Nat) : Int) := by
  simp only [IntKind.wrap, IntKind.signed, IntKind.bits]
  have : ((i : Int) + 1) = ((i + 1 : Nat) : Int) := by omega
  rw [this]
  simp [Int.bmod]
  omega
/-! ### the inner loop -/
noncomputable def Bi : Code := subC [1, 1, 0, 1, 0, 0, 1, 0, 0, 1, 1, 0, 0] (codeOf Tryz.f26)
theorem f26_odd (call : CallT) (lf : Nat) (r0 : List (Nat × AV)) (s i : AV) (c : BitVec 32) (j : Nat) (hj : j < 8) (hc : c.getLsbD 0 = true) :
    ∃ v reg, runCode Pt.env call lf Bi ⟨⟨262205, [(0, s), (2, .str []), (3, .int .u32 (c.toNat : Nat)), (4, i), (18, .int .i64 j)], r0⟩, [], 44, []⟩ = some (.normal, ⟨⟨262205, [(0, s), (2, .str []), (3, .int .u32 ((stp c).toNat : Nat)), (4, i), (18, .int .i64 (j + 1 : Nat)), (5, v)], reg⟩, [], 44, []⟩) := by
  have h1 : decide ((j : Int) < 8) = true := by simp; omega
  have h2 := shr32 c 1 (by omega)
  rw [show ((1 : Nat) : Int) = 1 from rfl] at h2
  have h3 : stp c = (c >>> 1) ^^^ poly := by unfold stp; rw [if_pos hc]
  have h4 : (((c &&& 1#32).toNat : Nat) : Int) == 1 := by rw [low_true c hc]; rfl
  dsimp only [Bi, codeOf, Tryz.f26, subC, bc, Nat.beq]
  simp (disch := decide) only [c_seq, c_cond, c_block, c_exit, c_skip, c_ret, c_region, o_cons, o_guard, o_nil, sg_true, sg_false, t_normal, t_exit, t_ret, lv_ret, lv_normal, lv_exit, w_move, w_assign, w_bin, w_conv, w_build, w_call, w_pick, w_alloc, w_box, w_agg, w_load, w_store, w_nil, w_un, w_iface, w_func, w_slice, w_faddr, w_field, w_iaddr, w_index, w_extract, e_loc, e_reg, e_const, e_func, e_glob, g_hit, g_miss, p_hit, p_miss, p_nil, s_done, s_go, s_put_loc, s_put_reg, s_put_none, s_back, okV, okH, ob_some, cond_bool, bc_true, bc_false, v_int, v_bool, v_str, v_nil, oBin, oConv, oBuildSlice, oUn, oLoad, oStore, oFieldAddr, oIndexAddr, oIndex, oSlice, oExtract, oPick, oAlloc, oBox, oNil, oBuild, stepC, s_call, oBuiltin, oLen, oAppend, optV_none, optV_some, parts_nil, parts_cons, vals_nil, vals_cons, b_lss, b_and, b_shr, b_eql, b_xor, b_add, h1, and1_32, h2, h4, poly_32, add1' j (by omega), h3]
  exact ⟨_, _, rfl⟩
theorem f26_even (call : CallT) (lf : Nat) (r0 : List (Nat × AV)) (s i : AV) (c : BitVec 32) (j : Nat) (hj : j < 8) (hc : c.getLsbD 0 = false) :
    ∃ v reg, runCode Pt.env call lf Bi ⟨⟨262205, [(0, s), (2, .str []), (3, .int .u32 (c.toNat : Nat)), (4, i), (18, .int .i64 j)], r0⟩, [], 44, []⟩ = some (.normal, ⟨⟨262205, [(0, s), (2, .str []), (3, .int .u32 ((stp c).toNat : Nat)), (4, i), (18, .int .i64 (j + 1 : Nat)), (5, v)], reg⟩, [], 44, []⟩) := by
  have h1 : decide ((j : Int) < 8) = true := by simp; omega
  have h2 := shr32 c 1 (by omega)
  rw [show ((1 : Nat) : Int) = 1 from rfl] at h2
  have h3 : stp c = (c >>> 1) := stp_even c hc
  have h4 : ((((c &&& 1#32).toNat : Nat) : Int) == 1) = false := by rw [low_false c hc]; rfl
  dsimp only [Bi, codeOf, Tryz.f26, subC, bc, Nat.beq]
  simp (disch := decide) only [c_seq, c_cond, c_block, c_exit, c_skip, c_ret, c_region, o_cons, o_guard, o_nil, sg_true, sg_false, t_normal, t_exit, t_ret, lv_ret, lv_normal, lv_exit, w_move, w_assign, w_bin, w_conv, w_build, w_call, w_pick, w_alloc, w_box, w_agg, w_load, w_store, w_nil, w_un, w_iface, w_func, w_slice, w_faddr, w_field, w_iaddr, w_index, w_extract, e_loc, e_reg, e_const, e_func, e_glob, g_hit, g_miss, p_hit, p_miss, p_nil, s_done, s_go, s_put_loc, s_put_reg, s_put_none, s_back, okV, okH, ob_some, cond_bool, bc_true, bc_false, v_int, v_bool, v_str, v_nil, oBin, oConv, oBuildSlice, oUn, oLoad, oStore, oFieldAddr, oIndexAddr, oIndex, oSlice, oExtract, oPick, oAlloc, oBox, oNil, oBuild, stepC, s_call, oBuiltin, oLen, oAppend, optV_none, optV_some, parts_nil, parts_cons, vals_nil, vals_cons, b_lss, b_and, b_shr, b_eql, b_xor, b_add, h1, and1_32, h2, h4, poly_32, add1' j (by omega), h3]
  exact ⟨_, _, rfl⟩
theorem f26_done (call : CallT) (lf : Nat) (r0 : List (Nat × AV)) (s i c : AV) :
    ∃ reg, runCode Pt.env call lf Bi ⟨⟨262205, [(0, s), (2, .str []), (3, c), (4, i), (18, .int .i64 8)], r0⟩, [], 44, []⟩ = some (.exit 2, ⟨⟨262205, [(0, s), (2, .str []), (3, c), (4, i), (18, .int .i64 8)], reg⟩, [], 44, []⟩) := by
  dsimp only [Bi, codeOf, Tryz.f26, subC, bc, Nat.beq]
  simp (disch := decide) only [c_seq, c_cond, c_block, c_exit, c_skip, c_ret, c_region, o_cons, o_guard, o_nil, sg_true, sg_false, t_normal, t_exit, t_ret, lv_ret, lv_normal, lv_exit, w_move, w_assign, w_bin, w_conv, w_build, w_call, w_pick, w_alloc, w_box, w_agg, w_load, w_store, w_nil, w_un, w_iface, w_func, w_slice, w_faddr, w_field, w_iaddr, w_index, w_extract, e_loc, e_reg, e_const, e_func, e_glob, g_hit, g_miss, p_hit, p_miss, p_nil, s_done, s_go, s_put_loc, s_put_reg, s_put_none, s_back, okV, okH, ob_some, cond_bool, bc_true, bc_false, v_int, v_bool, v_str, v_nil, oBin, oConv, oBuildSlice, oUn, oLoad, oStore, oFieldAddr, oIndexAddr, oIndex, oSlice, oExtract, oPick, oAlloc, oBox, oNil, oBuild, stepC, s_call, oBuiltin, oLen, oAppend, optV_none, optV_some, parts_nil, parts_cons, vals_nil, vals_cons, b_lss, show decide ((8 : Int) < 8) = false from by decide]
  exact ⟨_, rfl⟩
def stpN : Nat → BitVec 32 → BitVec 32
  | 0, c => c
  | n + 1, c => stpN n (stp c)
theorem trim0 (m n0 : Nat) (loc reg : List (Nat × AV)) (n : Nat) (ds : List (FuncId × List AV)) (H : List ABlk) : trim n0 H.length ⟨⟨m, loc, reg⟩, H, n, ds⟩ = some ⟨⟨m, loc.take n0, []⟩, H, n, ds⟩ := by
  have h : Nat.beq H.length H.length = true := Nat.beq_refl _
  simp only [trim, h, bc_true]
theorem f26_inner (call : CallT) (lf : Nat) (s i : AV) : ∀ (n j k : Nat) (c : BitVec 32) (r0 : List (Nat × AV)), j + n = 8 → n < k → ∃ reg,
    loopN 5 0 (runCode Pt.env call lf Bi) k ⟨⟨262205, [(0, s), (2, .str []), (3, .int .u32 (c.toNat : Nat)), (4, i), (18, .int .i64 j)], r0⟩, [], 44, []⟩ =
      some (.exit 2, ⟨⟨262205, [(0, s), (2, .str []), (3, .int .u32 ((stpN n c).toNat : Nat)), (4, i), (18, .int .i64 8)], reg⟩, [], 44, []⟩) := by
  intro n
  induction n with
  | zero =>
    intro j k c r0 hn hk
    obtain ⟨k, rfl⟩ : ∃ j, k = j + 1 := ⟨k - 1, by omega⟩
    obtain rfl : j = 8 := by omega
    obtain ⟨reg, hr⟩ := f26_done call lf r0 s i (.int .u32 (c.toNat : Nat))
    exact ⟨reg, by rw [loopN_succ, show ((8 : Nat) : Int) = 8 from rfl, hr, t_exit]; rfl⟩
  | succ n ih =>
    intro j k c r0 hn hk
    obtain ⟨k, rfl⟩ : ∃ j, k = j + 1 := ⟨k - 1, by omega⟩
    have step : ∃ v reg, runCode Pt.env call lf Bi ⟨⟨262205, [(0, s), (2, .str []), (3, .int .u32 (c.toNat : Nat)), (4, i), (18, .int .i64 j)], r0⟩, [], 44, []⟩ = some (.normal, ⟨⟨262205, [(0, s), (2, .str []), (3, .int .u32 ((stp c).toNat : Nat)), (4, i), (18, .int .i64 (j + 1 : Nat)), (5, v)], reg⟩, [], 44, []⟩) := by
      cases hc : c.getLsbD 0 with
      | true => exact f26_odd call lf r0 s i c j (by omega) hc
      | false => exact f26_even call lf r0 s i c j (by omega) hc
    obtain ⟨v, reg, hr⟩ := step
    obtain ⟨reg', h2⟩ := ih (j + 1) k (stp c) [] (by omega) (by omega)
    refine ⟨reg', ?_⟩
    rw [loopN_succ, hr, t_normal]
    rw [show trim 5 0 _ = _ from trim0 262205 5 _ reg 44 [] [], ob_some]
    exact h2
/-! ### the outer loop -/
noncomputable def Wi : Code := subC [1, 1, 0, 1, 0, 0, 1, 0, 0, 1, 1] (codeOf Tryz.f26)
noncomputable def Xo : Code := subC [1, 1, 0, 1, 0, 0, 0] (codeOf Tryz.f26)
noncomputable def R5o : Code := subC [1, 1, 0, 1, 0, 0, 1, 0, 0, 0] (codeOf Tryz.f26)
noncomputable def R6o : Code := subC [1, 1, 0, 1, 0, 0, 1, 0, 0, 1, 0] (codeOf Tryz.f26)
noncomputable def R4o : Code := subC [1, 1, 0, 1, 0, 0, 1, 1] (codeOf Tryz.f26)
noncomputable def Bo (W : Code) : Code := .seq Xo (.seq (.block 1 (.seq R5o (.seq R6o W))) R4o)
theorem Wi_run (call : CallT) (lf : Nat) (hl : 8 < lf) (s i : AV) (c : BitVec 32) : ∃ reg,
    runCode Pt.env call lf Wi ⟨⟨262205, [(0, s), (2, .str []), (3, .int .u32 (c.toNat : Nat)), (4, i), (18, .int .i64 0)], []⟩, [], 44, []⟩ =
      some (.normal, ⟨⟨262205, [(0, s), (2, .str []), (3, .int .u32 ((s8 c).toNat : Nat)), (4, i), (18, .int .i64 8)], reg⟩, [], 44, []⟩) := by
  obtain ⟨reg, hr⟩ := f26_inner call lf s i 8 0 lf c [] rfl hl
  refine ⟨reg, ?_⟩
  show runCode Pt.env call lf (.block 2 (.loop Bi)) _ = _
  rw [c_block, c_loop]
  have hr' : loopN 5 0 (runCode Pt.env call lf Bi) lf ⟨⟨262205, [(0, s), (2, .str []), (3, .int .u32 (c.toNat : Nat)), (4, i), (18, .int .i64 0)], []⟩, [], 44, []⟩ = _ := hr
  show ob (loopN 5 0 (runCode Pt.env call lf Bi) lf ⟨⟨262205, [(0, s), (2, .str []), (3, .int .u32 (c.toNat : Nat)), (4, i), (18, .int .i64 0)], []⟩, [], 44, []⟩) _ = _
  rw [hr']
  rfl
theorem f26_round (call : CallT) (lf : Nat) (W : Code) (hW : ∀ s i : AV, ∀ c : BitVec 32, ∃ reg, runCode Pt.env call lf W ⟨⟨262205, [(0, s), (2, .str []), (3, .int .u32 (c.toNat : Nat)), (4, i), (18, .int .i64 0)], []⟩, [], 44, []⟩ =
      some (.normal, ⟨⟨262205, [(0, s), (2, .str []), (3, .int .u32 ((s8 c).toNat : Nat)), (4, i), (18, .int .i64 8)], reg⟩, [], 44, []⟩))
    (r0 : List (Nat × AV)) (s : List UInt8) (c : BitVec 32) (i : Nat) (b : UInt8) (hb : s[i]? = some b) (hs : s.length < 9223372036854775807) :
    ∃ reg, runCode Pt.env call lf (Bo W) ⟨⟨262205, [(0, .str s), (2, .str []), (3, .int .u32 (c.toNat : Nat)), (4, .int .i64 i)], r0⟩, [], 44, []⟩ =
      some (.normal, ⟨⟨262205, [(0, .str s), (2, .str []), (3, .int .u32 ((nx c b).toNat : Nat)), (4, .int .i64 (i + 1 : Nat)), (18, .int .i64 8)], reg⟩, [], 44, []⟩) := by
  have hi : i < s.length := (List.getElem?_eq_some_iff.1 hb).1
  have h1 : decide ((i : Int) < s.length) = true := by simp; omega
  obtain ⟨reg, hr⟩ := hW (.str s) (.int .i64 i) (c ^^^ wide b)
  dsimp only [Bo, Xo, R5o, R6o, R4o, codeOf, Tryz.f26, subC, bc, Nat.beq]
  simp (disch := decide) only [c_seq, c_cond, c_block, c_exit, c_skip, c_ret, c_region, o_cons, o_guard, o_nil, sg_true, sg_false, t_normal, t_exit, t_ret, lv_ret, lv_normal, lv_exit, w_move, w_assign, w_bin, w_conv, w_build, w_call, w_pick, w_alloc, w_box, w_agg, w_load, w_store, w_nil, w_un, w_iface, w_func, w_slice, w_faddr, w_field, w_iaddr, w_index, w_extract, e_loc, e_reg, e_const, e_func, e_glob, g_hit, g_miss, p_hit, p_miss, p_nil, s_done, s_go, s_put_loc, s_put_reg, s_put_none, s_back, okV, okH, ob_some, cond_bool, bc_true, bc_false, v_int, v_bool, v_str, v_nil, oBin, oConv, oBuildSlice, oUn, oLoad, oStore, oFieldAddr, oIndexAddr, oIndex, oSlice, oExtract, oPick, oAlloc, oBox, oNil, oBuild, stepC, s_call, oBuiltin, oLen, oAppend, optV_none, optV_some, parts_nil, parts_cons, vals_nil, vals_cons, b_lss, b_xor, b_add, h1, len9', index9 s i b hb, conv5_150, xor_u32, hr, add1' i (by omega)]
  exact ⟨_, rfl⟩
theorem f26_stop (call : CallT) (lf : Nat) (W : Code) (r0 : List (Nat × AV)) (s : List UInt8) (c : AV) :
    ∃ reg, runCode Pt.env call lf (Bo W) ⟨⟨262205, [(0, .str s), (2, .str []), (3, c), (4, .int .i64 s.length)], r0⟩, [], 44, []⟩ =
      some (.exit 0, ⟨⟨262205, [(0, .str s), (2, .str []), (3, c), (4, .int .i64 s.length)], reg⟩, [], 44, []⟩) := by
  have h1 : decide ((s.length : Int) < s.length) = false := by simp
  dsimp only [Bo, Xo, codeOf, Tryz.f26, subC, bc, Nat.beq]
  simp (disch := decide) only [c_seq, c_cond, c_block, c_exit, c_skip, c_ret, c_region, o_cons, o_guard, o_nil, sg_true, sg_false, t_normal, t_exit, t_ret, lv_ret, lv_normal, lv_exit, w_move, w_assign, w_bin, w_conv, w_build, w_call, w_pick, w_alloc, w_box, w_agg, w_load, w_store, w_nil, w_un, w_iface, w_func, w_slice, w_faddr, w_field, w_iaddr, w_index, w_extract, e_loc, e_reg, e_const, e_func, e_glob, g_hit, g_miss, p_hit, p_miss, p_nil, s_done, s_go, s_put_loc, s_put_reg, s_put_none, s_back, okV, okH, ob_some, cond_bool, bc_true, bc_false, v_int, v_bool, v_str, v_nil, oBin, oConv, oBuildSlice, oUn, oLoad, oStore, oFieldAddr, oIndexAddr, oIndex, oSlice, oExtract, oPick, oAlloc, oBox, oNil, oBuild, stepC, s_call, oBuiltin, oLen, oAppend, optV_none, optV_some, parts_nil, parts_cons, vals_nil, vals_cons, b_lss, h1, len9']
  exact ⟨_, rfl⟩
theorem f26_loop (call : CallT) (lf : Nat) (hl : 8 < lf) (s : List UInt8) (hs : s.length < 9223372036854775807) : ∀ (rest pre : List UInt8) (k : Nat) (c : BitVec 32) (r0 : List (Nat × AV)), pre ++ rest = s → rest.length < k → ∃ reg,
    loopN 4 0 (runCode Pt.env call lf (Bo Wi)) k ⟨⟨262205, [(0, .str s), (2, .str []), (3, .int .u32 (c.toNat : Nat)), (4, .int .i64 pre.length)], r0⟩, [], 44, []⟩ =
      some (.exit 0, ⟨⟨262205, [(0, .str s), (2, .str []), (3, .int .u32 ((Sum.reg c rest).toNat : Nat)), (4, .int .i64 s.length)], reg⟩, [], 44, []⟩) := by
  intro rest
  induction rest with
  | nil =>
    intro pre k c r0 hp hk
    obtain ⟨k, rfl⟩ : ∃ j, k = j + 1 := ⟨k - 1, by omega⟩
    obtain ⟨reg, hr⟩ := f26_stop call lf Wi r0 s (.int .u32 (c.toNat : Nat))
    rw [List.append_nil] at hp
    exact ⟨reg, by rw [loopN_succ, hp, hr, t_exit]; rfl⟩
  | cons b rest ih =>
    intro pre k c r0 hp hk
    obtain ⟨k, rfl⟩ : ∃ j, k = j + 1 := ⟨k - 1, by omega⟩
    have hb : s[pre.length]? = some b := by rw [← hp]; simp
    obtain ⟨reg, hr⟩ := f26_round call lf Wi (Wi_run call lf hl) r0 s c pre.length b hb hs
    obtain ⟨reg', h2⟩ := ih (pre ++ [b]) k (nx c b) [] (by rw [← hp]; simp) (by simp at hk; omega)
    refine ⟨reg', ?_⟩
    rw [loopN_succ, hr, t_normal]
    rw [show trim 4 0 _ = _ from trim0 262205 4 _ reg 44 [] [], ob_some]
    rw [List.length_append] at h2
    exact h2
theorem byte4 (a b c d : Int) : buildSliceA Pt.env.ty 22 4 [(0, .int .u8 a), (1, .int .u8 b), (2, .int .u8 c), (3, .int .u8 d)] = some (.slice .exact 4 [.int .u8 a, .int .u8 b, .int .u8 c, .int .u8 d]) := by kernel_rfl
noncomputable def C26 : Code := subC [1, 1, 1] (codeOf Tryz.f26)
theorem f26_end (call : CallT) (lf : Nat) (r0 : List (Nat × AV)) (s i : AV) (c : BitVec 32) :
    ∃ reg, runCode Pt.env call lf C26 ⟨⟨262205, [(0, s), (2, .str []), (3, .int .u32 (c.toNat : Nat)), (4, i)], r0⟩, [], 44, []⟩ =
      some (.ret, ⟨⟨262205, [(0, s), (2, .str (four (~~~ c))), (3, .int .u32 ((~~~ c).toNat : Nat)), (4, i)], reg⟩, [], 44, []⟩) := by
  have h8 := shr32 (~~~ c) 8 (by omega)
  have h16 := shr32 (~~~ c) 16 (by omega)
  have h24 := shr32 (~~~ c) 24 (by omega)
  rw [show ((8 : Nat) : Int) = 8 from rfl] at h8
  rw [show ((16 : Nat) : Int) = 16 from rfl] at h16
  rw [show ((24 : Nat) : Int) = 24 from rfl] at h24
  have e : four (~~~ c) = [UInt8.ofNat (~~~ c).toNat, UInt8.ofNat ((~~~ c) >>> 8).toNat, UInt8.ofNat ((~~~ c) >>> 16).toNat, UInt8.ofNat ((~~~ c) >>> 24).toNat] := by
    simp only [four, byteAt, BitVec.toNat_ushiftRight, Nat.shiftRight_eq_div_pow, Nat.pow_zero, Nat.div_one]
  have h := toStr [] .exact (four (~~~ c)) 4 rfl
  rw [e] at h
  simp only [toCells, List.map_cons, List.map_nil] at h
  rw [e]
  dsimp only [C26, codeOf, Tryz.f26, subC, bc, Nat.beq]
  simp (disch := decide) only [c_seq, c_cond, c_block, c_exit, c_skip, c_ret, c_region, o_cons, o_guard, o_nil, sg_true, sg_false, t_normal, t_exit, t_ret, lv_ret, lv_normal, lv_exit, w_move, w_assign, w_bin, w_conv, w_build, w_call, w_pick, w_alloc, w_box, w_agg, w_load, w_store, w_nil, w_un, w_iface, w_func, w_slice, w_faddr, w_field, w_iaddr, w_index, w_extract, e_loc, e_reg, e_const, e_func, e_glob, g_hit, g_miss, p_hit, p_miss, p_nil, s_done, s_go, s_put_loc, s_put_reg, s_put_none, s_back, okV, okH, ob_some, cond_bool, bc_true, bc_false, v_int, v_bool, v_str, v_nil, oBin, oConv, oBuildSlice, oUn, oLoad, oStore, oFieldAddr, oIndexAddr, oIndex, oSlice, oExtract, oPick, oAlloc, oBox, oNil, oBuild, stepC, s_call, oBuiltin, oLen, oAppend, optV_none, optV_some, parts_nil, parts_cons, vals_nil, vals_cons, not_u32, conv150_5, b_shr, h8, h16, h24, byte4, h]
  exact ⟨_, rfl⟩
theorem f26_head (call : CallT) (lf : Nat) (s : AV) (a b : Code) : runCode Pt.env call lf (.seq (subC [0] (codeOf Tryz.f26)) (.seq (subC [1, 0] (codeOf Tryz.f26)) (.seq (.seq (subC [1, 1, 0, 0] (codeOf Tryz.f26)) a) b))) ⟨⟨262205, [(0, s)], []⟩, [], 44, []⟩ =
    runCode Pt.env call lf (.seq (.seq .skip a) b) ⟨⟨262205, [(0, s), (2, .str []), (3, .int .u32 4294967295), (4, .int .i64 0)], []⟩, [], 44, []⟩ := by
  dsimp only [codeOf, Tryz.f26, subC, bc, Nat.beq]
  simp (disch := decide) only [c_seq, c_cond, c_block, c_exit, c_skip, c_ret, c_region, o_cons, o_guard, o_nil, sg_true, sg_false, t_normal, t_exit, t_ret, lv_ret, lv_normal, lv_exit, w_move, w_assign, w_bin, w_conv, w_build, w_call, w_pick, w_alloc, w_box, w_agg, w_load, w_store, w_nil, w_un, w_iface, w_func, w_slice, w_faddr, w_field, w_iaddr, w_index, w_extract, e_loc, e_reg, e_const, e_func, e_glob, g_hit, g_miss, p_hit, p_miss, p_nil, s_done, s_go, s_put_loc, s_put_reg, s_put_none, s_back, okV, okH, ob_some, cond_bool, bc_true, bc_false, v_int, v_bool, v_str, v_nil, oBin, oConv, oBuildSlice, oUn, oLoad, oStore, oFieldAddr, oIndexAddr, oIndex, oSlice, oExtract, oPick, oAlloc, oBox, oNil, oBuild, stepC, s_call, oBuiltin, oLen, oAppend, optV_none, optV_some, parts_nil, parts_cons, vals_nil, vals_cons]
theorem f26_ok (k : Nat) (s : List UInt8) (hs : s.length < 9223372036854775807) (hk : s.length + 8 < k) : callN Pt.env (k + 1) 26 [.str s] [] = some (.ret (.str (four (Sum.sum s))), []) := by
  obtain ⟨reg, h2⟩ := f26_loop (callN Pt.env k) k (by omega) s hs s [] k (~~~ 0#32) [] rfl (by omega)
  obtain ⟨reg', h3⟩ := f26_end (callN Pt.env k) k reg (.str s) (.int .i64 s.length) (Sum.reg (~~~ 0#32) s)
  refine callN_ret Pt.env _ k 26 _ Tryz.f26 (codeOf Tryz.f26) ⟨⟨262205, [(0, .str s), (2, .str (four (Sum.sum s))), (3, .int .u32 ((~~~ (Sum.reg (~~~ 0#32) s)).toNat : Nat)), (4, .int .i64 s.length)], reg'⟩, [], 44, []⟩ _ (by kernel_rfl) (by kernel_rfl) rfl (by kernel_rfl) ?_ rfl (by kernel_rfl)
  show runCode Pt.env (callN Pt.env k) k (.seq (subC [0] (codeOf Tryz.f26)) (.seq (subC [1, 0] (codeOf Tryz.f26)) (.seq (.seq (subC [1, 1, 0, 0] (codeOf Tryz.f26)) (.block 0 (.loop (Bo Wi)))) C26))) ⟨⟨262205, [(0, .str s)], []⟩, [], 44, []⟩ = _
  rw [f26_head, c_seq, c_seq, c_skip, t_normal, c_block, c_loop]
  have h2' : loopN 4 0 (runCode Pt.env (callN Pt.env k) k (Bo Wi)) k ⟨⟨262205, [(0, .str s), (2, .str []), (3, .int .u32 4294967295), (4, .int .i64 0)], []⟩, [], 44, []⟩ = _ := h2
  show thenA (ob (loopN 4 0 (runCode Pt.env (callN Pt.env k) k (Bo Wi)) k ⟨⟨262205, [(0, .str s), (2, .str []), (3, .int .u32 4294967295), (4, .int .i64 0)], []⟩, [], 44, []⟩) _) _ = _
  rw [h2', ob_some]
  simp only [lv_exit, Nat.beq_refl, bc_true, t_normal]
  exact h3
end Go.Proofs
set_option linter.unusedSimpArgs false
namespace Go.Pm
open Go
/-! ### regions that draw their order, at symbols -/
noncomputable def drawK (k : Option Kind) (recs : List Rec) (a i : Nat) (f : List Rec → StR) : StR := match k with
  | none => none
  | some .plain => f recs
  | some (.read fp) => bc (freeA recs a false fp) (f (⟨i, false, fp⟩ :: recs)) none
  | some (.write fp) => bc (freeA recs a true fp) (f (⟨i, true, fp⟩ :: recs)) none
noncomputable def thenN (r : StR) (k : St → StR) : StR := match r with
  | some (.normal, st) => k st
  | _ => none
section
variable (E : Env) (call : CallT) (lf : Nat) (m : Nat) (loc reg : List (Nat × AV)) (H : List ABlk) (n : Nat) (ds : List (FuncId × List AV)) (st : St) (dst : Option Tmp) (T : Tm) (ty : TypeId) (pos : String) (after : Array Edge)
theorem d_nil (ops : Array Oper) (i : Nat) (anc : List Nat) (recs : List Rec) : runDraw E call ops [] i anc recs st = some (.normal, st) := by rw [runDraw]
theorem d_cons (ops : Array Oper) (op : Op) (l : List Oper) (i : Nat) (anc : List Nat) (recs : List Rec) :
    runDraw E call ops (⟨dst, op, ty, pos, after, none⟩ :: l) i anc recs st = drawK (kindOf E st.tm st.heap ⟨dst, op, ty, pos, after, none⟩) recs (ancOf anc ⟨dst, op, ty, pos, after, none⟩) i fun recs =>
      thenN (stepW E call dst op st) (runDraw E call ops l (i + 1) (anc ++ [ancOf anc ⟨dst, op, ty, pos, after, none⟩]) recs) := by
  rw [runDraw]
  rw [show wantedA ops st.tm ⟨dst, op, ty, pos, after, none⟩ = some true from rfl]
  rw [show stepA E call ops ⟨dst, op, ty, pos, after, none⟩ st = stepW E call dst op st from rfl]
  simp only [bc_true]
  cases hk : kindOf E st.tm st.heap ⟨dst, op, ty, pos, after, none⟩ with
  | none => rfl
  | some k =>
    cases k with
    | plain => simp only [drawK, thenN]; rfl
    | read fp =>
      simp only [drawK, thenN]
      cases freeA recs (ancOf anc ⟨dst, op, ty, pos, after, none⟩) false fp <;> rfl
    | write fp =>
      simp only [drawK, thenN]
      cases freeA recs (ancOf anc ⟨dst, op, ty, pos, after, none⟩) true fp <;> rfl
theorem dk_plain (recs : List Rec) (a i : Nat) (f : List Rec → StR) : drawK (some .plain) recs a i f = f recs := nr rfl
theorem dk_read (recs : List Rec) (a i : Nat) (fp : List (Nat × Nat × Nat)) (f : List Rec → StR) (h : freeA recs a false fp = true) : drawK (some (.read fp)) recs a i f = f (⟨i, false, fp⟩ :: recs) := by simp only [drawK, h, bc_true]
theorem dk_read0 (a i : Nat) (fp : List (Nat × Nat × Nat)) (f : List Rec → StR) : drawK (some (.read fp)) [] a i f = f [⟨i, false, fp⟩] := dk_read [] a i fp f rfl
theorem dk_write0 (a i : Nat) (fp : List (Nat × Nat × Nat)) (f : List Rec → StR) : drawK (some (.write fp)) [] a i f = f [⟨i, true, fp⟩] := by simp only [drawK, show freeA [] a true fp = true from rfl, bc_true]
theorem dk_write (recs : List Rec) (a i : Nat) (fp : List (Nat × Nat × Nat)) (f : List Rec → StR) (h : freeA recs a true fp = true) : drawK (some (.write fp)) recs a i f = f (⟨i, true, fp⟩ :: recs) := by simp only [drawK, h, bc_true]
theorem free_nil (a : Nat) (wr : Bool) (fp : List (Nat × Nat × Nat)) : freeA [] a wr fp = true := nr rfl
theorem tn_normal (k : St → StR) : thenN (some (.normal, st)) k = k st := nr rfl
theorem c_draw (i : Nat) (ops : List Oper) : runCode E call lf (.region i ⟨ops⟩ true) ⟨⟨m, loc, reg⟩, H, n, ds⟩ = runDraw E call ⟨ops⟩ ops 0 [] [] ⟨⟨m, loc, []⟩, H, n, ds⟩ := nr rfl
theorem ko_move (x : Operand) : kindOf E T H ⟨dst, .move x, ty, pos, after, none⟩ = some .plain := nr rfl
theorem ko_assign (x : Operand) : kindOf E T H ⟨dst, .assign x, ty, pos, after, none⟩ = some .plain := nr rfl
theorem ko_bin (op : BinOp) (t u : TypeId) (x y : Operand) : kindOf E T H ⟨dst, .binOp op t x y u, ty, pos, after, none⟩ = some .plain := nr rfl
theorem ko_un (op : UnOp) (t : TypeId) (x : Operand) : kindOf E T H ⟨dst, .unOp op t x, ty, pos, after, none⟩ = some .plain := nr rfl
theorem ko_slice (t : TypeId) (x : Operand) (a b c : Option Operand) : kindOf E T H ⟨dst, .slice t x a b c, ty, pos, after, none⟩ = some .plain := nr rfl
theorem ko_faddr (t : TypeId) (x : Operand) (f : Nat) : kindOf E T H ⟨dst, .fieldAddr t x f, ty, pos, after, none⟩ = some .plain := nr rfl
theorem ko_iaddr (t : TypeId) (x i : Operand) : kindOf E T H ⟨dst, .indexAddr t x i, ty, pos, after, none⟩ = some .plain := nr rfl
theorem ko_index (t : TypeId) (x i : Operand) : kindOf E T H ⟨dst, .index t x i, ty, pos, after, none⟩ = some .plain := nr rfl
theorem ko_agg (t : TypeId) (ps : Array (Nat × Operand)) : kindOf E T H ⟨dst, .build t ps, ty, pos, after, none⟩ = some .plain := nr rfl
theorem ko_build (t : TypeId) (k : Nat) (ps : Array (Nat × Operand)) : kindOf E T H ⟨dst, .buildSlice t k ps, ty, pos, after, none⟩ = some .plain := nr rfl
theorem ko_nil (x : Operand) : kindOf E T H ⟨dst, .nilCheck x, ty, pos, after, none⟩ = some .plain := nr rfl
theorem ko_alloc (t : TypeId) : kindOf E T H ⟨dst, .alloc t, ty, pos, after, none⟩ = some (.write []) := nr rfl
theorem ko_load (t : TypeId) (a : Operand) : kindOf E T H ⟨dst, .load t a, ty, pos, after, none⟩ = ob (ev E T a) fun a => readK (loadFp E.ty t a) := nr rfl
theorem ko_store (t : TypeId) (a x : Operand) : kindOf E T H ⟨dst, .store t a x, ty, pos, after, none⟩ = ob (ev E T a) fun a => writeK (loadFp E.ty t a) := nr rfl
noncomputable def kConvK (x : Option AV) : Option Kind := match x with
    | some (.str _) => some (.write [])
    | some (.vslice r off n) => readK (span r off n)
    | _ => some .plain
theorem ko_conv (s d : TypeId) (x : Operand) : kindOf E T H ⟨dst, .convert s d x, ty, pos, after, none⟩ = kConvK (ev E T x) := nr rfl
theorem kc_int (k : IntKind) (i : Int) : kConvK (some (.int k i)) = some .plain := nr rfl
theorem kc_slice (t : Tok) (n : Nat) (cs : List AV) : kConvK (some (.slice t n cs)) = some .plain := nr rfl
noncomputable def kCallK (E : Env) (H : List ABlk) (f : Option AV) (xs : Option (List AV)) : Option Kind := match f, xs with
      | some (.func f first caps), some ys => some (.write (allOf (leads H (handed E f (first ++ ys ++ caps)))))
      | _, _ => none
theorem ko_call (f : Operand) (xs : Array Operand) (ts : Array TypeId) : kindOf E T H ⟨dst, .call ⟨.value f, xs, ts⟩, ty, pos, after, none⟩ = kCallK E H (ev E T f) (vals (ev E T) xs.toList) := by
  simp only [kindOf, kCallK]
  generalize ev E T f = a
  generalize vals (ev E T) xs.toList = b
  cases a with
  | none => rfl
  | some a => cases b with
    | none => cases a <;> rfl
    | some b => cases a <;> rfl
theorem kf_call (f : FuncId) (xs : List AV) : kCallK E H (some (.func f [] [])) (some xs) = some (.write (allOf (leads H (handed E f (xs ++ []))))) := by simp only [kCallK, List.nil_append]
noncomputable def kLenK (H : List ABlk) (xs : Option (List AV)) : Option Kind := match xs with
        | some (.map r :: _) => ob (nth H r) fun _ => readK (span r 0 1)
        | some _ => some .plain
        | none => none
theorem ko_len (xs : Array Operand) (ts : Array TypeId) : kindOf E T H ⟨dst, .call ⟨.builtin .len, xs, ts⟩, ty, pos, after, none⟩ = kLenK H (vals (ev E T) xs.toList) := nr rfl
theorem kl_str (s : List UInt8) (l : List AV) : kLenK H (some (.str s :: l)) = some .plain := nr rfl
theorem ko_min (xs : Array Operand) (ts : Array TypeId) : kindOf E T H ⟨dst, .call ⟨.builtin .min, xs, ts⟩, ty, pos, after, none⟩ = some .plain := nr rfl
theorem lf_ref (P : Ty) (t : TypeId) (r off : Nat) : loadFp P t (.ref r off) = ob (sizeT P t) fun sz => span r off sz := nr rfl
theorem readK_lit (l : List (Nat × Nat × Nat)) : readK (some l) = some (.read l) := nr rfl
theorem writeK_lit (l : List (Nat × Nat × Nat)) : writeK (some l) = some (.write l) := nr rfl
theorem span_lit (r off n : Nat) (h0 : Nat.beq n 0 = false) (h : Nat.ble (off + n) far = true) : span r off n = some [(r, off, n)] := by simp only [span, h0, bc_false, h, bc_true]
theorem leads_bare (xs : List AV) (h : refsL xs = []) : leads H xs = [] := by
  unfold leads
  rw [h]
  exact close_nil H _
end
end Go.Pm
namespace Go.Proofs
open Go Go.Pm Go.Proofs.Sum
set_option maxRecDepth 100000
/-! ### the table -/
noncomputable def tf (i : Nat) : AV := .int .u32 ((s8 (BitVec.ofNat 32 i)).toNat : Nat)
noncomputable def tblTo (i : Nat) : List AV := (List.range i).map tf ++ List.replicate (256 - i) (.int .u32 0)
noncomputable def tbl : List AV := (List.range 256).map tf
noncomputable def Ti : Code := subC [1, 1, 0, 1, 0, 0, 1, 1, 0, 0, 1, 1, 0, 1, 0, 0] (codeOf Tryz.f186)
theorem f186_odd (call : CallT) (lf : Nat) (r0 : List (Nat × AV)) (H : List ABlk) (i a b : AV) (c : BitVec 32) (j : Nat) (hj : j < 8) (hc : c.getLsbD 0 = true) :
    ∃ reg, runCode Pt.env call lf Ti ⟨⟨543, [(0, a), (1, b), (4, i), (2, i), (3, .int .u32 (c.toNat : Nat)), (9, .int .i64 j)], r0⟩, H, 24, []⟩ = some (.normal, ⟨⟨543, [(0, a), (1, b), (4, i), (2, i), (3, .int .u32 ((stp c).toNat : Nat)), (9, .int .i64 (j + 1 : Nat))], reg⟩, H, 24, []⟩) := by
  have h1 : decide ((j : Int) < 8) = true := by simp; omega
  have h2 := shr32 c 1 (by omega)
  rw [show ((1 : Nat) : Int) = 1 from rfl] at h2
  have h3 : stp c = (c >>> 1) ^^^ poly := by unfold stp; rw [if_pos hc]
  have h4 : (((c &&& 1#32).toNat : Nat) : Int) == 1 := by rw [low_true c hc]; rfl
  dsimp only [Ti, codeOf, Tryz.f186, subC, bc, Nat.beq]
  simp (disch := decide) only [c_seq, c_cond, c_block, c_exit, c_skip, c_ret, c_region, o_cons, o_guard, o_nil, sg_true, sg_false, t_normal, t_exit, t_ret, lv_ret, lv_normal, lv_exit, w_move, w_assign, w_bin, w_conv, w_build, w_call, w_pick, w_alloc, w_box, w_agg, w_load, w_store, w_nil, w_un, w_iface, w_func, w_slice, w_faddr, w_field, w_iaddr, w_index, w_extract, e_loc, e_reg, e_const, e_func, e_glob, g_hit, g_miss, p_hit, p_miss, p_nil, s_done, s_go, s_put_loc, s_put_reg, s_put_none, s_back, okV, okH, ob_some, cond_bool, bc_true, bc_false, v_int, v_bool, v_str, v_nil, oBin, oConv, oBuildSlice, oUn, oLoad, oStore, oFieldAddr, oIndexAddr, oIndex, oSlice, oExtract, oPick, oAlloc, oBox, oNil, oBuild, stepC, s_call, oBuiltin, oLen, oAppend, optV_none, optV_some, parts_nil, parts_cons, vals_nil, vals_cons, b_lss, b_and, b_shr, b_eql, b_xor, b_add, h1, and1_32, h2, h4, poly_32, add1' j (by omega), h3]
  exact ⟨_, rfl⟩
theorem f186_even (call : CallT) (lf : Nat) (r0 : List (Nat × AV)) (H : List ABlk) (i a b : AV) (c : BitVec 32) (j : Nat) (hj : j < 8) (hc : c.getLsbD 0 = false) :
    ∃ reg, runCode Pt.env call lf Ti ⟨⟨543, [(0, a), (1, b), (4, i), (2, i), (3, .int .u32 (c.toNat : Nat)), (9, .int .i64 j)], r0⟩, H, 24, []⟩ = some (.normal, ⟨⟨543, [(0, a), (1, b), (4, i), (2, i), (3, .int .u32 ((stp c).toNat : Nat)), (9, .int .i64 (j + 1 : Nat))], reg⟩, H, 24, []⟩) := by
  have h1 : decide ((j : Int) < 8) = true := by simp; omega
  have h2 := shr32 c 1 (by omega)
  rw [show ((1 : Nat) : Int) = 1 from rfl] at h2
  have h3 : stp c = (c >>> 1) := stp_even c hc
  have h4 : ((((c &&& 1#32).toNat : Nat) : Int) == 1) = false := by rw [low_false c hc]; rfl
  dsimp only [Ti, codeOf, Tryz.f186, subC, bc, Nat.beq]
  simp (disch := decide) only [c_seq, c_cond, c_block, c_exit, c_skip, c_ret, c_region, o_cons, o_guard, o_nil, sg_true, sg_false, t_normal, t_exit, t_ret, lv_ret, lv_normal, lv_exit, w_move, w_assign, w_bin, w_conv, w_build, w_call, w_pick, w_alloc, w_box, w_agg, w_load, w_store, w_nil, w_un, w_iface, w_func, w_slice, w_faddr, w_field, w_iaddr, w_index, w_extract, e_loc, e_reg, e_const, e_func, e_glob, g_hit, g_miss, p_hit, p_miss, p_nil, s_done, s_go, s_put_loc, s_put_reg, s_put_none, s_back, okV, okH, ob_some, cond_bool, bc_true, bc_false, v_int, v_bool, v_str, v_nil, oBin, oConv, oBuildSlice, oUn, oLoad, oStore, oFieldAddr, oIndexAddr, oIndex, oSlice, oExtract, oPick, oAlloc, oBox, oNil, oBuild, stepC, s_call, oBuiltin, oLen, oAppend, optV_none, optV_some, parts_nil, parts_cons, vals_nil, vals_cons, b_lss, b_and, b_shr, b_eql, b_xor, b_add, h1, and1_32, h2, h4, poly_32, add1' j (by omega), h3]
  exact ⟨_, rfl⟩
theorem f186_done (call : CallT) (lf : Nat) (r0 : List (Nat × AV)) (H : List ABlk) (i a b c : AV) :
    ∃ reg, runCode Pt.env call lf Ti ⟨⟨543, [(0, a), (1, b), (4, i), (2, i), (3, c), (9, .int .i64 8)], r0⟩, H, 24, []⟩ = some (.exit 2, ⟨⟨543, [(0, a), (1, b), (4, i), (2, i), (3, c), (9, .int .i64 8)], reg⟩, H, 24, []⟩) := by
  dsimp only [Ti, codeOf, Tryz.f186, subC, bc, Nat.beq]
  simp (disch := decide) only [c_seq, c_cond, c_block, c_exit, c_skip, c_ret, c_region, o_cons, o_guard, o_nil, sg_true, sg_false, t_normal, t_exit, t_ret, lv_ret, lv_normal, lv_exit, w_move, w_assign, w_bin, w_conv, w_build, w_call, w_pick, w_alloc, w_box, w_agg, w_load, w_store, w_nil, w_un, w_iface, w_func, w_slice, w_faddr, w_field, w_iaddr, w_index, w_extract, e_loc, e_reg, e_const, e_func, e_glob, g_hit, g_miss, p_hit, p_miss, p_nil, s_done, s_go, s_put_loc, s_put_reg, s_put_none, s_back, okV, okH, ob_some, cond_bool, bc_true, bc_false, v_int, v_bool, v_str, v_nil, oBin, oConv, oBuildSlice, oUn, oLoad, oStore, oFieldAddr, oIndexAddr, oIndex, oSlice, oExtract, oPick, oAlloc, oBox, oNil, oBuild, stepC, s_call, oBuiltin, oLen, oAppend, optV_none, optV_some, parts_nil, parts_cons, vals_nil, vals_cons, b_lss, show decide ((8 : Int) < 8) = false from by decide]
  exact ⟨_, rfl⟩
theorem f186_inner (call : CallT) (lf : Nat) (H : List ABlk) (i a b : AV) : ∀ (n j k : Nat) (c : BitVec 32) (r0 : List (Nat × AV)), j + n = 8 → n < k → ∃ reg,
    loopN 6 H.length (runCode Pt.env call lf Ti) k ⟨⟨543, [(0, a), (1, b), (4, i), (2, i), (3, .int .u32 (c.toNat : Nat)), (9, .int .i64 j)], r0⟩, H, 24, []⟩ =
      some (.exit 2, ⟨⟨543, [(0, a), (1, b), (4, i), (2, i), (3, .int .u32 ((stpN n c).toNat : Nat)), (9, .int .i64 8)], reg⟩, H, 24, []⟩) := by
  intro n
  induction n with
  | zero =>
    intro j k c r0 hn hk
    obtain ⟨k, rfl⟩ : ∃ j, k = j + 1 := ⟨k - 1, by omega⟩
    obtain rfl : j = 8 := by omega
    obtain ⟨reg, hr⟩ := f186_done call lf r0 H i a b (.int .u32 (c.toNat : Nat))
    exact ⟨reg, by rw [loopN_succ, show ((8 : Nat) : Int) = 8 from rfl, hr, t_exit]; rfl⟩
  | succ n ih =>
    intro j k c r0 hn hk
    obtain ⟨k, rfl⟩ : ∃ j, k = j + 1 := ⟨k - 1, by omega⟩
    have step : ∃ reg, runCode Pt.env call lf Ti ⟨⟨543, [(0, a), (1, b), (4, i), (2, i), (3, .int .u32 (c.toNat : Nat)), (9, .int .i64 j)], r0⟩, H, 24, []⟩ = some (.normal, ⟨⟨543, [(0, a), (1, b), (4, i), (2, i), (3, .int .u32 ((stp c).toNat : Nat)), (9, .int .i64 (j + 1 : Nat))], reg⟩, H, 24, []⟩) := by
      cases hc : c.getLsbD 0 with
      | true => exact f186_odd call lf r0 H i a b c j (by omega) hc
      | false => exact f186_even call lf r0 H i a b c j (by omega) hc
    obtain ⟨reg, hr⟩ := step
    obtain ⟨reg', h2⟩ := ih (j + 1) k (stp c) [] (by omega) (by omega)
    refine ⟨reg', ?_⟩
    rw [loopN_succ, hr, t_normal]
    rw [show trim 6 H.length _ = _ from trim0 543 6 _ reg 24 [] H, ob_some]
    exact h2
end Go.Proofs
