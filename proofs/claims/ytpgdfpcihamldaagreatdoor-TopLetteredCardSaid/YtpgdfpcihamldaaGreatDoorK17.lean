/-
redresstop.small, whole.
envelope.putVar, putBig, putLittle, text: bytes put behind others.
Calls that hand on a slice with its owner; envelope.text, putBig, putLittle.
envelope.putBig, putLittle.
-/
import Derived.Test.YtpgdfpcihamldaaGreatDoorK15
import Derived.Test.YtpgdfpcihamldaaGreatDoorK16
set_option linter.unusedSimpArgs false
namespace Go.Proofs
open Go Go.Pm Go.Proofs.Sum
set_option maxRecDepth 100000
theorem d9 : descT Pt.env.ty 9 = some .string := by kernel_rfl
theorem low8_vb (x : Nat) : low8 x = ((UInt8.ofNat (x % 128 + 128)).toNat : Int) := by
  unfold low8
  rw [show IntKind.wrap .u8 (x : Int) = ((x % 256 : Nat) : Int) from wrap_u8 x]
  have := or_u8 (x % 256) 128 (by omega) (by omega)
  rw [show ((128 : Nat) : Int) = (128 : Int) from rfl] at this
  rw [this, low8_nat, UInt8.toNat_ofNat']
  congr 1
  omega
theorem wrap8_vb (x : Nat) : IntKind.wrap .u8 (x : Int) = ((UInt8.ofNat x).toNat : Int) := by
  rw [wrap_u8, UInt8.toNat_ofNat']
theorem smallL_vb (f : Nat) : ∀ x : Nat, smallL f x = toCells (vb f x) := by
  induction f with
  | zero => intro x; simp only [smallL, vb, toCells, wrap8_vb, List.map_cons, List.map_nil]
  | succ f ih =>
    intro x
    unfold smallL vb
    split
    · rw [ih, low8_vb]; rfl
    · simp only [toCells, wrap8_vb, List.map_cons, List.map_nil]
theorem bytesOf_toCells (s : List UInt8) : bytesOf (toCells s) = some s := by
  induction s with
  | nil => rfl
  | cons b s ih =>
    show (match bytesOf (toCells s) with | some bs => some (UInt8.ofNat ((b.toNat : Int)).toNat :: bs) | none => none) = _
    rw [ih]
    simp
theorem toStr (H : List ABlk) (t : Tok) (s : List UInt8) (n : Nat) (hn : n = s.length) : convertA Pt.env.ty 22 9 H (.slice t n (toCells s)) = some (.str s, H) := by
  subst hn
  have h : Nat.beq s.length (toCells s).length = true := by rw [Nat.beq_eq]; simp [toCells]
  simp only [convertA, d22, d9, d5, h, bytesOf_toCells, bc_true]
theorem toStr' (H : List ABlk) (t : Tok) (s : List UInt8) : convertA Pt.env.ty 22 9 H (.slice t s.length (toCells s)) = some (.str s, H) := toStr H t s _ rfl
noncomputable def C25 : Code := subC [1, 1, 1] (codeOf Tryz.f25)
theorem f25_end (call : CallT) (lf : Nat) (y : Nat) (s s' : AV) (H H' : List ABlk) (reg : List (Nat × AV)) (bs : List UInt8) (hs : s' = .slice (.own 0) bs.length (toCells bs))
    (ha : appendA Pt.env.ty H 22 22 s (.slice .exact 1 [.int .u8 (IntKind.wrap .u8 y)]) = some (s', H')) :
    ∃ st, runCode Pt.env call lf C25 ⟨⟨13, [(0, .int .u64 y), (2, .str []), (3, s)], reg⟩, H, 20, []⟩ = some (.ret, st) ∧ st.tm.loc = [(0, .int .u64 y), (2, .str bs), (3, s)] ∧ st.tm.mask = 13 ∧ st.heap = H' ∧ st.defers = [] := by
  subst hs
  dsimp only [C25, codeOf, Tryz.f25, subC, bc, Nat.beq]
  simp (disch := decide) only [c_seq, c_cond, c_block, c_exit, c_skip, c_ret, c_region, o_cons, o_guard, o_nil, sg_true, sg_false, t_normal, t_exit, t_ret, lv_ret, lv_normal, lv_exit, w_move, w_assign, w_bin, w_conv, w_build, w_call, w_pick, w_alloc, w_box, w_agg, w_load, w_store, w_nil, w_un, w_iface, w_func, w_slice, w_faddr, w_field, w_iaddr, w_index, w_extract, e_loc, e_reg, e_const, e_func, e_glob, g_hit, g_miss, p_hit, p_miss, p_nil, s_done, s_go, s_put_loc, s_put_reg, s_put_none, s_back, okV, okH, ob_some, cond_bool, bc_true, bc_false, v_int, v_bool, v_str, v_nil, oBin, oConv, oBuildSlice, oUn, oLoad, oStore, oFieldAddr, oIndexAddr, oIndex, oSlice, oExtract, oPick, oAlloc, oBox, oNil, oBuild, stepC, s_call, oBuiltin, oLen, oAppend, optV_none, optV_some, parts_nil, parts_cons, vals_nil, vals_cons, conv25_5, byte1, ha, toStr']
  exact ⟨_, rfl, rfl, rfl, rfl, rfl⟩
theorem f25_head (call : CallT) (lf : Nat) (x : Nat) (t : Code) : runCode Pt.env call lf (.seq (subC [0] (codeOf Tryz.f25)) (.seq (subC [1, 0] (codeOf Tryz.f25)) t)) ⟨⟨13, [(0, .int .u64 x)], []⟩, [], 20, []⟩ = runCode Pt.env call lf t ⟨⟨13, [(0, .int .u64 x), (2, .str []), (3, .slice .nil 0 [])], []⟩, [], 20, []⟩ := by
  dsimp only [codeOf, Tryz.f25, subC, bc, Nat.beq]
  simp (disch := decide) only [c_seq, c_cond, c_block, c_exit, c_skip, c_ret, c_region, o_cons, o_guard, o_nil, sg_true, sg_false, t_normal, t_exit, t_ret, lv_ret, lv_normal, lv_exit, w_move, w_assign, w_bin, w_conv, w_build, w_call, w_pick, w_alloc, w_box, w_agg, w_load, w_store, w_nil, w_un, w_iface, w_func, w_slice, w_faddr, w_field, w_iaddr, w_index, w_extract, e_loc, e_reg, e_const, e_func, e_glob, g_hit, g_miss, p_hit, p_miss, p_nil, s_done, s_go, s_put_loc, s_put_reg, s_put_none, s_back, okV, okH, ob_some, cond_bool, bc_true, bc_false, v_int, v_bool, v_str, v_nil, oBin, oConv, oBuildSlice, oUn, oLoad, oStore, oFieldAddr, oIndexAddr, oIndex, oSlice, oExtract, oPick, oAlloc, oBox, oNil, oBuild, stepC, s_call, oBuiltin, oLen, oAppend, optV_none, optV_some, parts_nil, parts_cons, vals_nil, vals_cons]
theorem f25_run (call : CallT) (lf : Nat) (x : Nat) (hx : x < 18446744073709551616) (hl : 10 < lf) :
    ∃ st, runCode Pt.env call lf (codeOf Tryz.f25) ⟨⟨13, [(0, .int .u64 x)], []⟩, [], 20, []⟩ = some (.ret, st) ∧ st.defers = [] ∧ finishA Pt.env Tryz.f25 st st.heap = some (.ret (.str (vb 9 x)), st.heap) := by
  have fin (st : St) (y : Nat) (s : AV) (h : st.tm.loc = [(0, .int .u64 y), (2, .str (vb 9 x)), (3, s)] ∧ st.tm.mask = 13) : finishA Pt.env Tryz.f25 st st.heap = some (.ret (.str (vb 9 x)), st.heap) := by
    obtain ⟨⟨m, l, r⟩, H, n, d⟩ := st
    obtain ⟨h1, h2⟩ := h
    simp only at h1 h2
    subst h1 h2
    kernel_rfl
  show ∃ st, runCode Pt.env call lf (.seq (subC [0] (codeOf Tryz.f25)) (.seq (subC [1, 0] (codeOf Tryz.f25)) (.seq (.block 0 (.loop B25)) C25))) _ = _ ∧ _
  rw [f25_head, c_seq, c_block, c_loop]
  obtain ⟨k, rfl⟩ : ∃ k, lf = k + 1 := ⟨lf - 1, by omega⟩
  show ∃ st, thenA (ob (loopN 3 0 _ _ _) _) _ = _ ∧ _
  rw [loopN_succ]
  by_cases hg : x > 127
  · have hd : decide ((x : Int) > 127) = true := by simp; omega
    rw [f25_body _ _ _ _ _ _ _ _ hd (append_first _), t_normal]
    simp only [shr7_nat]
    rw [trim25, ob_some]
    obtain ⟨m, y, reg, h1, h2, h3⟩ := f25_loop call (k + 1) 8 (x / 128) 1 k [.int .u8 (low8 x)] rfl (by omega) (by omega) (by omega)
    rw [h3, ob_some]
    simp only [lv_exit, Nat.beq_refl, bc_true, t_normal]
    have e : [AV.int .u8 (low8 x)] ++ smallN 8 (x / 128) ++ [.int .u8 (IntKind.wrap .u8 y)] = toCells (vb 9 x) := by
      rw [← smallL_vb, List.append_assoc, h2.2]
      show _ = if x > 127 then _ else _
      rw [if_pos hg]; rfl
    have hm : m ≤ 1073741824 := by
      have := congrArg List.length e
      simp only [List.length_append, toCells, List.length_map, List.length_cons, List.length_nil] at this h1
      have := vb_length 9 x
      omega
    obtain ⟨st, r1, r2, r3, r4, r5⟩ := f25_end call (k + 1) y (.slice (.own 0) m ([.int .u8 (low8 x)] ++ smallN 8 (x / 128))) (.slice (.own 0) (vb 9 x).length (toCells (vb 9 x))) [.owner m 1] [.owner (m + 1) 1] reg (vb 9 x) rfl (by
      rw [append_next _ _ _ h1.symm hm, e]
      have : m + 1 = (vb 9 x).length := by
        have := congrArg List.length e
        simp only [List.length_append, toCells, List.length_map, List.length_cons, List.length_nil] at this h1
        omega
      rw [this])
    exact ⟨st, r1, r5, fin st y _ ⟨r2, r3⟩⟩
  · have hd : decide ((x : Int) > 127) = false := by simp; omega
    rw [f25_exit _ _ _ _ _ _ hd, t_exit, ob_some]
    simp only [lv_exit, Nat.beq_refl, bc_true, t_normal]
    have e : [AV.int .u8 (IntKind.wrap .u8 x)] = toCells (vb 9 x) := by
      rw [← smallL_vb]
      show _ = if x > 127 then _ else _
      rw [if_neg hg]
    have e2 : (vb 9 x).length = 1 := by
      show (if x > 127 then _ else _ : List UInt8).length = 1
      rw [if_neg hg]; rfl
    obtain ⟨st, r1, r2, r3, r4, r5⟩ := f25_end call (k + 1) x (.slice .nil 0 []) (.slice (.own 0) (vb 9 x).length (toCells (vb 9 x))) [] [.owner 1 1] [(5, .bool false), (4, .int .u64 x)] (vb 9 x) rfl (by
      rw [append_first, e, e2])
    exact ⟨st, r1, r5, fin st x _ ⟨r2, r3⟩⟩
theorem f25_ok (k : Nat) (hk : 10 < k) (x : Nat) (hx : x < 18446744073709551616) : ∃ H1, callN Pt.env (k + 1) 25 [.int .u64 x] [] = some (.ret (.str (vb 9 x)), H1) := by
  obtain ⟨st, h1, h2, h3⟩ := f25_run (callN Pt.env k) k x hx hk
  exact ⟨st.heap, by
    rw [callN_plain Pt.env [] k 25 _ Tryz.f25 (codeOf Tryz.f25) (by kernel_rfl) (by kernel_rfl) rfl (by kernel_rfl) .ret st (.inl rfl) _ h2, h3]
    exact h1⟩
end Go.Proofs
set_option linter.unusedSimpArgs false
namespace Go.Proofs
open Go Go.Pm Go.Proofs.Sum
set_option maxRecDepth 100000
/-- A slice that is being built: as it was laid, or owned. -/
noncomputable def tokS (b : Bool) : Tok := bc b (.own 0) .exact
noncomputable def hS (b : Bool) (n : Nat) : List ABlk := bc b [.owner n 1] []
noncomputable def sS (b : Bool) (bs : List UInt8) : AV := .slice (tokS b) bs.length (toCells bs)
theorem toCells_append (a b : List UInt8) : toCells (a ++ b) = toCells a ++ toCells b := by simp [toCells]
theorem toCells_length (a : List UInt8) : (toCells a).length = a.length := by simp [toCells]
theorem freeze_toCells (s : List UInt8) : (toCells s).map AV.freeze = toCells s := by
  induction s with
  | nil => rfl
  | cons b s ih => show AV.int .u8 _ :: (toCells s).map AV.freeze = _; rw [ih]; rfl
theorem pure_toCells (s : List UInt8) : (toCells s).all AV.pure = true := by
  induction s with
  | nil => rfl
  | cons b s ih => exact ih
/-- Bytes behind a slice that is being built. -/
theorem appendA_more (b : Bool) (bs ys : List UInt8) (t2 : TypeId) (y : AV) (h2 : seqT Pt.env.ty t2 = true) (hy : moreOf (hS b bs.length) 1 y = some (ys.length, toCells ys)) (h0 : 0 < ys.length) (hl : (bs ++ ys).length ≤ 1073741824) :
    appendA Pt.env.ty (hS b bs.length) 22 t2 (sS b bs) y = some (sS true (bs ++ ys), hS true (bs ++ ys).length) := by
  have h1 : Nat.ble ((bs.length + ys.length) * (1 + 1)) 35184372088832 = true := Nat.ble_eq_true_of_le (by simp only [List.length_append] at hl; omega)
  have h3 : Nat.beq (toCells bs).length (bs.length * 1) = true := by rw [Nat.beq_eq]; simp [toCells]
  have h4 : Nat.beq (toCells ys).length (ys.length * 1) = true := by rw [Nat.beq_eq]; simp [toCells]
  have h5 : Nat.beq ys.length 0 = false := by cases hh : Nat.beq ys.length 0 with | false => rfl | true => exact absurd (Nat.eq_of_beq_eq_true hh) (by omega)
  have h6 : Nat.beq bs.length bs.length = true := Nat.beq_refl _
  have e0 : appendA Pt.env.ty (hS b bs.length) 22 t2 (sS b bs) y = ob (descT Pt.env.ty 22) fun d => match d with
    | .slice e => ob (sizeT Pt.env.ty e) fun sz => ob (bytesT Pt.env.ty e) fun by_ => ob (zeroT Pt.env.ty e) fun z => ob (moreOf (hS b bs.length) sz y) fun p =>
      bc (seqT Pt.env.ty t2 && Nat.ble 1 sz && Nat.beq z.cells.length sz && Nat.beq (toCells bs).length (bs.length * sz) && Nat.beq p.2.length (p.1 * sz) && Nat.ble ((bs.length + p.1) * (by_ + 1)) 35184372088832 && (p.2.map AV.freeze).all AV.pure)
        (growA (hS b bs.length) sz (sS b bs) (tokS b) bs.length (toCells bs) p.1 (p.2.map AV.freeze)) none
    | _ => none := by rw [d22]; simp only [appendA, sS, d22, ob_some]
  rw [e0, d22]
  simp only [ob_some, z5, y5, o5, hy, h2, h3, h4, h1, freeze_toCells, pure_toCells]
  show growA (hS b bs.length) 1 (sS b bs) (tokS b) bs.length (toCells bs) ys.length (toCells ys) = _
  unfold growA
  rw [h5, bc_false]
  cases b with
  | false => simp only [tokS, hS, sS, bc_false, bc_true, toCells_append, List.length_append, List.length_nil, List.nil_append]
  | true =>
    simp only [tokS, hS, sS, bc_true, nth_zero, h6, toCells_append, List.length_append]
    rfl
theorem append1 (b : Bool) (bs : List UInt8) (v : Int) (w : UInt8) (hv : v = (w.toNat : Int)) (hl : bs.length < 1073741824) :
    appendA Pt.env.ty (hS b bs.length) 22 22 (sS b bs) (.slice .exact 1 [.int .u8 v]) = some (sS true (bs ++ [w]), hS true (bs ++ [w]).length) := by
  subst hv
  exact appendA_more b bs [w] 22 _ seq22 rfl (by simp) (by simp; omega)
theorem seq9 : seqT Pt.env.ty 9 = true := by kernel_rfl
theorem appendS (b : Bool) (bs s : List UInt8) (h0 : 0 < s.length) (hl : (bs ++ s).length ≤ 1073741824) :
    appendA Pt.env.ty (hS b bs.length) 22 9 (sS b bs) (.str s) = some (sS true (bs ++ s), hS true (bs ++ s).length) :=
  appendA_more b bs s 9 _ seq9 rfl h0 hl
/-! ### putVar -/
noncomputable def B74 : Code := subC [1, 0, 0, 0] (codeOf Tryz.f74)
noncomputable def C74 : Code := subC [1, 1] (codeOf Tryz.f74)
theorem f74_body (call : CallT) (lf : Nat) (x : Int) (e s s' : AV) (H H' : List ABlk) (hx : decide (x ≥ 128) = true) (ha : appendA Pt.env.ty H 22 22 s (.slice .exact 1 [.int .u8 (low8 x)]) = some (s', H')) :
    ∃ reg, runCode Pt.env call lf B74 ⟨⟨19, [(0, s), (1, .int .u64 x), (4, e)], []⟩, H, 20, []⟩ = some (.normal, ⟨⟨19, [(0, s'), (1, .int .u64 (shr7 x)), (4, e)], reg⟩, H', 20, []⟩) := by
  simp only [low8] at ha
  simp only [shr7]
  dsimp only [B74, codeOf, Tryz.f74, subC, bc, Nat.beq]
  simp (disch := decide) only [c_seq, c_cond, c_block, c_exit, c_skip, c_ret, c_region, o_cons, o_guard, o_nil, sg_true, sg_false, t_normal, t_exit, t_ret, lv_ret, lv_normal, lv_exit, w_move, w_assign, w_bin, w_conv, w_build, w_call, w_pick, w_alloc, w_box, w_agg, w_load, w_store, w_nil, w_un, w_iface, w_func, w_slice, w_faddr, w_field, w_iaddr, w_index, w_extract, e_loc, e_reg, e_const, e_func, e_glob, g_hit, g_miss, p_hit, p_miss, p_nil, s_done, s_go, s_put_loc, s_put_reg, s_put_none, s_back, okV, okH, ob_some, cond_bool, bc_true, bc_false, v_int, v_bool, v_str, v_nil, oBin, oConv, oBuildSlice, oUn, oLoad, oStore, oFieldAddr, oIndexAddr, oIndex, oSlice, oExtract, oPick, oAlloc, oBox, oNil, oBuild, stepC, s_call, oBuiltin, oLen, oAppend, optV_none, optV_some, parts_nil, parts_cons, vals_nil, vals_cons, b_geq, b_or, b_shr, hx, conv25_5, byte1, ha]
  exact ⟨_, rfl⟩
theorem f74_exit (call : CallT) (lf : Nat) (x : Int) (e s : AV) (H : List ABlk) (hx : decide (x ≥ 128) = false) :
    ∃ reg, runCode Pt.env call lf B74 ⟨⟨19, [(0, s), (1, .int .u64 x), (4, e)], []⟩, H, 20, []⟩ = some (.exit 0, ⟨⟨19, [(0, s), (1, .int .u64 x), (4, e)], reg⟩, H, 20, []⟩) := by
  dsimp only [B74, codeOf, Tryz.f74, subC, bc, Nat.beq]
  simp (disch := decide) only [c_seq, c_cond, c_block, c_exit, c_skip, c_ret, c_region, o_cons, o_guard, o_nil, sg_true, sg_false, t_normal, t_exit, t_ret, lv_ret, lv_normal, lv_exit, w_move, w_assign, w_bin, w_conv, w_build, w_call, w_pick, w_alloc, w_box, w_agg, w_load, w_store, w_nil, w_un, w_iface, w_func, w_slice, w_faddr, w_field, w_iaddr, w_index, w_extract, e_loc, e_reg, e_const, e_func, e_glob, g_hit, g_miss, p_hit, p_miss, p_nil, s_done, s_go, s_put_loc, s_put_reg, s_put_none, s_back, okV, okH, ob_some, cond_bool, bc_true, bc_false, v_int, v_bool, v_str, v_nil, oBin, oConv, oBuildSlice, oUn, oLoad, oStore, oFieldAddr, oIndexAddr, oIndex, oSlice, oExtract, oPick, oAlloc, oBox, oNil, oBuild, stepC, s_call, oBuiltin, oLen, oAppend, optV_none, optV_some, parts_nil, parts_cons, vals_nil, vals_cons, b_geq, hx]
  exact ⟨_, rfl⟩
theorem f74_end (call : CallT) (lf : Nat) (y : Int) (e s s' : AV) (H H' : List ABlk) (reg : List (Nat × AV))
    (ha : appendA Pt.env.ty H 22 22 s (.slice .exact 1 [.int .u8 (IntKind.wrap .u8 y)]) = some (s', H')) :
    ∃ reg', runCode Pt.env call lf C74 ⟨⟨19, [(0, s), (1, .int .u64 y), (4, e)], reg⟩, H, 20, []⟩ = some (.ret, ⟨⟨19, [(0, s), (1, .int .u64 y), (4, s')], reg'⟩, H', 20, []⟩) := by
  dsimp only [C74, codeOf, Tryz.f74, subC, bc, Nat.beq]
  simp (disch := decide) only [c_seq, c_cond, c_block, c_exit, c_skip, c_ret, c_region, o_cons, o_guard, o_nil, sg_true, sg_false, t_normal, t_exit, t_ret, lv_ret, lv_normal, lv_exit, w_move, w_assign, w_bin, w_conv, w_build, w_call, w_pick, w_alloc, w_box, w_agg, w_load, w_store, w_nil, w_un, w_iface, w_func, w_slice, w_faddr, w_field, w_iaddr, w_index, w_extract, e_loc, e_reg, e_const, e_func, e_glob, g_hit, g_miss, p_hit, p_miss, p_nil, s_done, s_go, s_put_loc, s_put_reg, s_put_none, s_back, okV, okH, ob_some, cond_bool, bc_true, bc_false, v_int, v_bool, v_str, v_nil, oBin, oConv, oBuildSlice, oUn, oLoad, oStore, oFieldAddr, oIndexAddr, oIndex, oSlice, oExtract, oPick, oAlloc, oBox, oNil, oBuild, stepC, s_call, oBuiltin, oLen, oAppend, optV_none, optV_some, parts_nil, parts_cons, vals_nil, vals_cons, conv25_5, byte1, ha]
  exact ⟨_, rfl⟩
theorem trim74 (b c : Bool) (hbc : b = true → c = true) (x : Int) (bs : List UInt8) (reg : List (Nat × AV)) :
    trim 3 (hS b 0).length ⟨⟨19, [(0, sS c bs), (1, .int .u64 x), (4, .slice .nil 0 [])], reg⟩, hS c bs.length, 20, []⟩ = some ⟨⟨19, [(0, sS c bs), (1, .int .u64 x), (4, .slice .nil 0 [])], []⟩, hS c bs.length, 20, []⟩ := by
  cases b <;> cases c
  · kernel_rfl
  · kernel_rfl
  · exact absurd (hbc rfl) (by decide)
  · kernel_rfl
theorem shr7_lt (x f : Nat) (h : x < 128 ^ (f + 1 + 1)) : x / 128 < 128 ^ (f + 1) := by
  rw [Nat.div_lt_iff_lt_mul (by decide)]
  rw [Nat.pow_succ] at h; exact h
theorem f74_loop (call : CallT) (lf : Nat) (b : Bool) : ∀ (f x k : Nat) (c : Bool) (bs : List UInt8), (b = true → c = true) → bs.length + f < 1073741824 → x < 128 ^ (f + 1) → f < k → ∃ (c' : Bool) (bs' : List UInt8) (y : Nat) (reg : List (Nat × AV)), bs' ++ [UInt8.ofNat y] = bs ++ vb f x ∧
    loopN 3 (hS b 0).length (runCode Pt.env call lf B74) k ⟨⟨19, [(0, sS c bs), (1, .int .u64 x), (4, .slice .nil 0 [])], []⟩, hS c bs.length, 20, []⟩ =
      some (.exit 0, ⟨⟨19, [(0, sS c' bs'), (1, .int .u64 y), (4, .slice .nil 0 [])], reg⟩, hS c' bs'.length, 20, []⟩) := by
  intro f
  induction f with
  | zero =>
    intro x k c bs hb hm hx hk
    obtain ⟨k, rfl⟩ : ∃ j, k = j + 1 := ⟨k - 1, by omega⟩
    have hd : decide ((x : Int) ≥ 128) = false := by simp; omega
    obtain ⟨reg, hr⟩ := f74_exit call lf x (.slice .nil 0 []) (sS c bs) (hS c bs.length) hd
    exact ⟨c, bs, x, reg, rfl, by rw [loopN_succ, hr, t_exit]⟩
  | succ f ih =>
    intro x k c bs hb hm hx hk
    obtain ⟨k, rfl⟩ : ∃ j, k = j + 1 := ⟨k - 1, by omega⟩
    by_cases hgt : x > 127
    · have hd : decide ((x : Int) ≥ 128) = true := by simp; omega
      obtain ⟨reg, hr⟩ := f74_body call lf x (.slice .nil 0 []) (sS c bs) _ (hS c bs.length) _ hd (append1 c bs _ _ (low8_vb x) (by omega))
      obtain ⟨c', bs', y, reg', h1, h2⟩ := ih (x / 128) k true (bs ++ [UInt8.ofNat (x % 128 + 128)]) (fun _ => rfl) (by simp; omega) (shr7_lt x f hx) (by omega)
      refine ⟨c', bs', y, reg', ?_, ?_⟩
      · rw [h1, vb, if_pos hgt, List.append_assoc]; rfl
      · rw [loopN_succ, hr, t_normal, shr7_nat, trim74 b true (fun _ => rfl), ob_some, h2]
    · have hd : decide ((x : Int) ≥ 128) = false := by simp; omega
      obtain ⟨reg, hr⟩ := f74_exit call lf x (.slice .nil 0 []) (sS c bs) (hS c bs.length) hd
      exact ⟨c, bs, x, reg, by rw [vb, if_neg hgt], by rw [loopN_succ, hr, t_exit]⟩
theorem f74_head (call : CallT) (lf : Nat) (s : AV) (H : List ABlk) (x : Int) (t : Code) : runCode Pt.env call lf (.seq (subC [0] (codeOf Tryz.f74)) t) ⟨⟨19, [(0, s), (1, .int .u64 x)], []⟩, H, 20, []⟩ = runCode Pt.env call lf t ⟨⟨19, [(0, s), (1, .int .u64 x), (4, .slice .nil 0 [])], []⟩, H, 20, []⟩ := by
  dsimp only [codeOf, Tryz.f74, subC, bc, Nat.beq]
  simp (disch := decide) only [c_seq, c_cond, c_block, c_exit, c_skip, c_ret, c_region, o_cons, o_guard, o_nil, sg_true, sg_false, t_normal, t_exit, t_ret, lv_ret, lv_normal, lv_exit, w_move, w_assign, w_bin, w_conv, w_build, w_call, w_pick, w_alloc, w_box, w_agg, w_load, w_store, w_nil, w_un, w_iface, w_func, w_slice, w_faddr, w_field, w_iaddr, w_index, w_extract, e_loc, e_reg, e_const, e_func, e_glob, g_hit, g_miss, p_hit, p_miss, p_nil, s_done, s_go, s_put_loc, s_put_reg, s_put_none, s_back, okV, okH, ob_some, cond_bool, bc_true, bc_false, v_int, v_bool, v_str, v_nil, oBin, oConv, oBuildSlice, oUn, oLoad, oStore, oFieldAddr, oIndexAddr, oIndex, oSlice, oExtract, oPick, oAlloc, oBox, oNil, oBuild, stepC, s_call, oBuiltin, oLen, oAppend, optV_none, optV_some, parts_nil, parts_cons, vals_nil, vals_cons]
theorem hS_len (b : Bool) (n m : Nat) : (hS b n).length = (hS b m).length := by cases b <;> rfl
theorem f74_ok (k : Nat) (hk : 10 < k) (b : Bool) (bs : List UInt8) (hb : bs.length < 1000000000) (x : Nat) (hx : x < 18446744073709551616) :
    callN Pt.env (k + 1) 74 [sS b bs, .int .u64 x] (hS b bs.length) = some (.ret (sS true (bs ++ vb 9 x)), hS true (bs ++ vb 9 x).length) := by
  obtain ⟨c', bs', y, reg, h1, h2⟩ := f74_loop (callN Pt.env k) k b 9 x k b bs (fun h => h) (by omega) (by omega) (by omega)
  have hl : bs'.length < 1073741824 := by
    have := congrArg List.length h1
    simp only [List.length_append, List.length_cons, List.length_nil] at this
    have := vb_length 9 x
    omega
  obtain ⟨reg', h3⟩ := f74_end (callN Pt.env k) k y (.slice .nil 0 []) (sS c' bs') _ (hS c' bs'.length) _ reg (append1 c' bs' _ _ (wrap8_vb y) hl)
  rw [h1] at h3
  refine callN_ret Pt.env _ k 74 _ Tryz.f74 (codeOf Tryz.f74) ⟨⟨19, [(0, sS c' bs'), (1, .int .u64 y), (4, sS true (bs ++ vb 9 x))], reg'⟩, hS true (bs ++ vb 9 x).length, 20, []⟩ _ (by kernel_rfl) (by kernel_rfl) rfl (by kernel_rfl) ?_ rfl (by kernel_rfl)
  show runCode Pt.env (callN Pt.env k) k (.seq (subC [0] (codeOf Tryz.f74)) (.seq (.block 0 (.loop B74)) C74)) ⟨⟨19, [(0, sS b bs), (1, .int .u64 x)], []⟩, hS b bs.length, 20, []⟩ = _
  rw [f74_head, c_seq, c_block, c_loop]
  show thenA (ob (loopN 3 (hS b bs.length).length _ _ _) _) _ = _
  rw [hS_len b bs.length 0, h2, ob_some]
  simp only [lv_exit, Nat.beq_refl, bc_true, t_normal]
  exact h3
end Go.Proofs
set_option linter.unusedSimpArgs false
namespace Go.Proofs
open Go Go.Pm Go.Proofs.Sum
set_option maxRecDepth 100000
noncomputable def s1 (bs : List UInt8) : AV := .slice (.own 1) bs.length (toCells bs)
theorem refs_own (r n : Nat) (cs rest : List AV) (h : refsL rest = []) : refsL (.slice (.own r) n cs :: rest) = [r] := by simp [refsL, AV.refs, h]
theorem callAt_by (call : CallT) (f : FuncId) (args args' : List AV) (H H0 : List ABlk) (L : List Nat) (r : End × List ABlk) (hL : close H (H.length + 1) (addNew [] (refsL args)) 0 = L) (ha : renL (idx L) args = some args') (hp : pickB (idx L) H L = some H0) (hc : call f args' H0 = some r) :
    callAt call f args H = callBack H L r := by
  subst hL
  unfold callAt
  simp only [ha, hp, hc, ob_some]
theorem callAt_own0 (call : CallT) (f : FuncId) (bs bs' : List UInt8) (rest : List AV) (h : refsL rest = [])
    (hc : call f (sS true bs :: rest) (hS true bs.length) = some (.ret (sS true bs'), hS true bs'.length)) :
    callAt call f (sS true bs :: rest) (hS true bs.length) = some (.ret (sS true bs'), hS true bs'.length) :=
  callAt_by call f _ (sS true bs :: rest) _ (hS true bs.length) [0] _ (by rw [show refsL (sS true bs :: rest) = [0] from refs_own 0 _ _ rest h]; rfl) (by rw [renL, renL_bare _ rest h]; rfl) rfl hc
theorem callAt_own1 (call : CallT) (f : FuncId) (B : ABlk) (bs bs' : List UInt8) (rest : List AV) (h : refsL rest = [])
    (hc : call f (sS true bs :: rest) (hS true bs.length) = some (.ret (sS true bs'), hS true bs'.length)) :
    callAt call f (s1 bs :: rest) [B, .owner bs.length 1] = some (.ret (s1 bs'), [B, .owner bs'.length 1]) :=
  callAt_by call f _ (sS true bs :: rest) _ (hS true bs.length) [1] _ (by rw [show refsL (s1 bs :: rest) = [1] from refs_own 1 _ _ rest h]; rfl) (by rw [renL, renL_bare _ rest h]; rfl) rfl hc
theorem callAt_new1 (call : CallT) (f : FuncId) (B : ABlk) (bs bs' : List UInt8) (rest : List AV) (h : refsL rest = [])
    (hc : call f (sS false bs :: rest) [] = some (.ret (sS true bs'), hS true bs'.length)) :
    callAt call f (sS false bs :: rest) [B] = some (.ret (s1 bs'), [B, .owner bs'.length 1]) :=
  callAt_by call f _ (sS false bs :: rest) _ [] [] _ (by rw [show refsL (sS false bs :: rest) = [] from by simp [sS, tokS, refsL, AV.refs, h]]; rfl) (by rw [renL, renL_bare _ rest h]; rfl) rfl hc
/-! ### text -/
theorem conv3_25 (H : List ABlk) (n : Nat) (hn : n < 18446744073709551616) : convertA Pt.env.ty 3 25 H (.int .i64 n) = some (.int .u64 n, H) := by
  have d3 : descT Pt.env.ty 3 = some (.int .i64) := by kernel_rfl
  simp only [convertA, d3, d25, wrap_u64, Nat.mod_eq_of_lt hn]
theorem len9 (H : List ABlk) (s : List UInt8) : lenA Pt.env.ty H 9 (.str s) = some (.int .i64 s.length) := by simp only [lenA, d9]
theorem own74 : Pt.env.owns 74 = true := by kernel_rfl
theorem own73 : Pt.env.owns 73 = true := by kernel_rfl
theorem own75 : Pt.env.owns 75 = true := by kernel_rfl
theorem own76 : Pt.env.owns 76 = true := by kernel_rfl
theorem appendS' (bs s : List UInt8) (hl : (bs ++ s).length ≤ 1073741824) :
    appendA Pt.env.ty (hS true bs.length) 22 9 (sS true bs) (.str s) = some (sS true (bs ++ s), hS true (bs ++ s).length) := by
  cases s with
  | cons a s => exact appendS true bs (a :: s) (by simp) hl
  | nil =>
    rw [List.append_nil]
    have h1 : Nat.ble ((bs.length + 0) * (1 + 1)) 35184372088832 = true := Nat.ble_eq_true_of_le (by simp at hl; omega)
    have h3 : Nat.beq (toCells bs).length (bs.length * 1) = true := by rw [Nat.beq_eq]; simp [toCells]
    have e0 : appendA Pt.env.ty (hS true bs.length) 22 9 (sS true bs) (.str []) = bc (true && Nat.ble 1 1 && Nat.beq 1 1 && Nat.beq (toCells bs).length (bs.length * 1) && Nat.beq 0 (0 * 1) && Nat.ble ((bs.length + 0) * (1 + 1)) 35184372088832 && true) (some (sS true bs, hS true bs.length)) none := by kernel_rfl
    rw [e0, h1, h3]; rfl
theorem f73_run (call : CallT) (lf : Nat) (bs s : List UInt8) (hs : s.length < 1000000) (hb : bs.length < 900000000)
    (hc : callAt call 74 [sS true bs, .int .u64 s.length] (hS true bs.length) = some (.ret (sS true (bs ++ vb 9 s.length)), hS true (bs ++ vb 9 s.length).length)) :
    ∃ reg, runCode Pt.env call lf (codeOf Tryz.f73) ⟨⟨19, [(0, sS true bs), (1, .str s)], []⟩, hS true bs.length, 12, []⟩ = some (.ret, ⟨⟨19, [(0, sS true bs), (1, .str s), (4, sS true (bs ++ vb 9 s.length ++ s))], reg⟩, hS true (bs ++ vb 9 s.length ++ s).length, 12, []⟩) := by
  have ha := appendS' (bs ++ vb 9 s.length) s (by have := vb_length 9 s.length; simp only [List.length_append]; omega)
  have hl := conv3_25 (hS true bs.length) s.length (by omega)
  dsimp only [codeOf, Tryz.f73]
  simp (disch := decide) only [c_seq, c_cond, c_block, c_exit, c_skip, c_ret, c_region, o_cons, o_guard, o_nil, sg_true, sg_false, t_normal, t_exit, t_ret, lv_ret, lv_normal, lv_exit, w_move, w_assign, w_bin, w_conv, w_build, w_call, w_pick, w_alloc, w_box, w_agg, w_load, w_store, w_nil, w_un, w_iface, w_func, w_slice, w_faddr, w_field, w_iaddr, w_index, w_extract, e_loc, e_reg, e_const, e_func, e_glob, g_hit, g_miss, p_hit, p_miss, p_nil, s_done, s_go, s_put_loc, s_put_reg, s_put_none, s_back, okV, okH, ob_some, cond_bool, bc_true, bc_false, v_int, v_bool, v_str, v_nil, oBin, oConv, oBuildSlice, oUn, oLoad, oStore, oFieldAddr, oIndexAddr, oIndex, oSlice, oExtract, oPick, oAlloc, oBox, oNil, oBuild, stepC, s_call, oBuiltin, oLen, oAppend, optV_none, optV_some, parts_nil, parts_cons, vals_nil, vals_cons, len9, hl, own74, List.append_nil, List.nil_append, hc, ha]
  exact ⟨_, rfl⟩
theorem f73_ok (k : Nat) (hk : 11 < k) (bs s : List UInt8) (hs : s.length < 1000000) (hb : bs.length < 900000000) :
    callN Pt.env (k + 1) 73 [sS true bs, .str s] (hS true bs.length) = some (.ret (sS true (bs ++ vb 9 s.length ++ s)), hS true (bs ++ vb 9 s.length ++ s).length) := by
  obtain ⟨k, rfl⟩ : ∃ j, k = j + 1 := ⟨k - 1, by omega⟩
  obtain ⟨reg, hr⟩ := f73_run (callN Pt.env (k + 1)) (k + 1) bs s hs hb (callAt_own0 _ 74 bs _ [.int .u64 s.length] rfl (f74_ok k (by omega) true bs (by omega) s.length (by omega)))
  exact callN_ret Pt.env _ (k + 1) 73 _ Tryz.f73 (codeOf Tryz.f73) _ _ (by kernel_rfl) (by kernel_rfl) rfl (by kernel_rfl) hr rfl (by kernel_rfl)
end Go.Proofs
set_option linter.unusedSimpArgs false
namespace Go.Proofs
open Go Go.Pm Go.Proofs.Sum
set_option maxRecDepth 100000
def big : Nat → Nat → List UInt8
  | 0, _ => []
  | n + 1, x => UInt8.ofNat (x / 2 ^ (8 * n)) :: big n x
def lit : Nat → Nat → Nat → List UInt8
  | _, 0, _ => []
  | i, n + 1, x => UInt8.ofNat (x / 2 ^ (8 * i)) :: lit (i + 1) n x
theorem big_length (n x : Nat) : (big n x).length = n := by
  induction n with
  | zero => rfl
  | succ n ih => simp [big, ih]
theorem lit_length (n x : Nat) : ∀ i, (lit i n x).length = n := by
  induction n with
  | zero => intro i; rfl
  | succ n ih => intro i; simp [lit, ih]
noncomputable def B75 : Code := subC [1, 0, 1, 0, 0] (codeOf Tryz.f75)
noncomputable def shrI (x j : Int) : Int := IntKind.wrap .u8 (x.fdiv (2 ^ (min j.toNat IntKind.u64.bits)))
theorem shrI_nat (x i : Nat) (hi : i < 8) : shrI x ((8 * i : Nat) : Int) = ((UInt8.ofNat (x / 2 ^ (8 * i))).toNat : Int) := by
  unfold shrI
  rw [shr_nat x (8 * i) _ (by show 8 * i ≤ 64; omega), wrap8_vb]
theorem mul8 (i : Nat) (hi : i < 8) : IntKind.wrap .i64 (8 * (i : Int)) = ((8 * i : Nat) : Int) := by
  have h : ∀ i : Fin 8, IntKind.wrap .i64 (8 * (i.1 : Int)) = ((8 * i.1 : Nat) : Int) := by decide
  exact h ⟨i, hi⟩
theorem sub1 (i : Nat) (hi : i < 8) : IntKind.wrap .i64 ((i : Int) - 1) = (i : Int) - 1 := by
  have h : ∀ i : Fin 8, IntKind.wrap .i64 ((i.1 : Int) - 1) = (i.1 : Int) - 1 := by decide
  exact h ⟨i, hi⟩
theorem add1 (i : Nat) (hi : i < 9223372036854775807) : IntKind.wrap .i64 ((i : Int) + 1) = ((i + 1 : Nat) : Int) := by
  simp only [IntKind.wrap, IntKind.signed, IntKind.bits]
  have : ((i : Int) + 1) = ((i + 1 : Nat) : Int) := by omega
  rw [this]
  simp [Int.bmod]
  omega
theorem f75_body (call : CallT) (lf : Nat) (r0 : List (Nat × AV)) (x i j i' : Int) (e s s' z : AV) (H H' : List ABlk) (hi : decide (i ≥ 0) = true) (hj : IntKind.wrap .i64 (8 * i) = j) (hj0 : decide (j < 0) = false) (hi' : IntKind.wrap .i64 (i - 1) = i')
    (ha : appendA Pt.env.ty H 22 22 s (.slice .exact 1 [.int .u8 (shrI x j)]) = some (s', H')) :
    ∃ reg, runCode Pt.env call lf B75 ⟨⟨199, [(0, s), (1, .int .u64 x), (2, z), (6, e), (7, .int .i64 i)], r0⟩, H, 23, []⟩ = some (.normal, ⟨⟨199, [(0, s'), (1, .int .u64 x), (2, z), (6, e), (7, .int .i64 i')], reg⟩, H', 23, []⟩) := by
  simp only [shrI] at ha
  dsimp only [B75, codeOf, Tryz.f75, subC, bc, Nat.beq]
  simp (disch := first | assumption | decide) only [c_seq, c_cond, c_block, c_exit, c_skip, c_ret, c_region, o_cons, o_guard, o_nil, sg_true, sg_false, t_normal, t_exit, t_ret, lv_ret, lv_normal, lv_exit, w_move, w_assign, w_bin, w_conv, w_build, w_call, w_pick, w_alloc, w_box, w_agg, w_load, w_store, w_nil, w_un, w_iface, w_func, w_slice, w_faddr, w_field, w_iaddr, w_index, w_extract, e_loc, e_reg, e_const, e_func, e_glob, g_hit, g_miss, p_hit, p_miss, p_nil, s_done, s_go, s_put_loc, s_put_reg, s_put_none, s_back, okV, okH, ob_some, cond_bool, bc_true, bc_false, v_int, v_bool, v_str, v_nil, oBin, oConv, oBuildSlice, oUn, oLoad, oStore, oFieldAddr, oIndexAddr, oIndex, oSlice, oExtract, oPick, oAlloc, oBox, oNil, oBuild, stepC, s_call, oBuiltin, oLen, oAppend, optV_none, optV_some, parts_nil, parts_cons, vals_nil, vals_cons, b_geq, b_mul, b_sub, b_shr _ _ _ _ _ _ _ hj0, hi, hj, hi', conv25_5, byte1, ha]
  exact ⟨_, rfl⟩
theorem f75_exit (call : CallT) (lf : Nat) (r0 : List (Nat × AV)) (x i : Int) (e s z : AV) (H : List ABlk) (hi : decide (i ≥ 0) = false) :
    ∃ reg, runCode Pt.env call lf B75 ⟨⟨199, [(0, s), (1, .int .u64 x), (2, z), (6, e), (7, .int .i64 i)], r0⟩, H, 23, []⟩ = some (.exit 0, ⟨⟨199, [(0, s), (1, .int .u64 x), (2, z), (6, e), (7, .int .i64 i)], reg⟩, H, 23, []⟩) := by
  dsimp only [B75, codeOf, Tryz.f75, subC, bc, Nat.beq]
  simp (disch := decide) only [c_seq, c_cond, c_block, c_exit, c_skip, c_ret, c_region, o_cons, o_guard, o_nil, sg_true, sg_false, t_normal, t_exit, t_ret, lv_ret, lv_normal, lv_exit, w_move, w_assign, w_bin, w_conv, w_build, w_call, w_pick, w_alloc, w_box, w_agg, w_load, w_store, w_nil, w_un, w_iface, w_func, w_slice, w_faddr, w_field, w_iaddr, w_index, w_extract, e_loc, e_reg, e_const, e_func, e_glob, g_hit, g_miss, p_hit, p_miss, p_nil, s_done, s_go, s_put_loc, s_put_reg, s_put_none, s_back, okV, okH, ob_some, cond_bool, bc_true, bc_false, v_int, v_bool, v_str, v_nil, oBin, oConv, oBuildSlice, oUn, oLoad, oStore, oFieldAddr, oIndexAddr, oIndex, oSlice, oExtract, oPick, oAlloc, oBox, oNil, oBuild, stepC, s_call, oBuiltin, oLen, oAppend, optV_none, optV_some, parts_nil, parts_cons, vals_nil, vals_cons, b_geq, hi]
  exact ⟨_, rfl⟩
theorem trim75 (x i : Int) (bs : List UInt8) (z : AV) (reg : List (Nat × AV)) :
    trim 5 1 ⟨⟨199, [(0, sS true bs), (1, .int .u64 x), (2, z), (6, .slice .nil 0 []), (7, .int .i64 i)], reg⟩, hS true bs.length, 23, []⟩ = some ⟨⟨199, [(0, sS true bs), (1, .int .u64 x), (2, z), (6, .slice .nil 0 []), (7, .int .i64 i)], []⟩, hS true bs.length, 23, []⟩ := by kernel_rfl
theorem f75_loop (call : CallT) (lf : Nat) (z : AV) (x : Nat) : ∀ (n k : Nat) (bs : List UInt8) (r0 : List (Nat × AV)), n ≤ 8 → bs.length + n < 1073741824 → n < k → ∃ reg,
    loopN 5 1 (runCode Pt.env call lf B75) k ⟨⟨199, [(0, sS true bs), (1, .int .u64 x), (2, z), (6, .slice .nil 0 []), (7, .int .i64 ((n : Int) - 1))], r0⟩, hS true bs.length, 23, []⟩ =
      some (.exit 0, ⟨⟨199, [(0, sS true (bs ++ big n x)), (1, .int .u64 x), (2, z), (6, .slice .nil 0 []), (7, .int .i64 (-1))], reg⟩, hS true (bs ++ big n x).length, 23, []⟩) := by
  intro n
  induction n with
  | zero =>
    intro k bs r0 _ hb hk
    obtain ⟨k, rfl⟩ : ∃ j, k = j + 1 := ⟨k - 1, by omega⟩
    obtain ⟨reg, hr⟩ := f75_exit call lf r0 x (-1) (.slice .nil 0 []) (sS true bs) z (hS true bs.length) (by decide)
    refine ⟨reg, ?_⟩
    rw [loopN_succ, show (((0 : Nat) : Int) - 1) = -1 from rfl, hr, t_exit]
    simp only [big, List.append_nil]
  | succ n ih =>
    intro k bs r0 hn hb hk
    obtain ⟨k, rfl⟩ : ∃ j, k = j + 1 := ⟨k - 1, by omega⟩
    obtain ⟨reg, hr⟩ := f75_body call lf r0 x n _ _ (.slice .nil 0 []) (sS true bs) _ z (hS true bs.length) _ (by simp) (mul8 n (by omega)) (by simp; omega) (sub1 n (by omega)) (append1 true bs _ _ (shrI_nat x n (by omega)) (by omega))
    obtain ⟨reg', h2⟩ := ih k (bs ++ [UInt8.ofNat (x / 2 ^ (8 * n))]) [] (by omega) (by simp; omega) (by omega)
    refine ⟨reg', ?_⟩
    rw [loopN_succ, show (((n + 1 : Nat) : Int) - 1) = n from by omega, hr, t_normal, trim75, ob_some, h2, List.append_assoc]
    rfl
noncomputable def C75 : Code := subC [1, 1] (codeOf Tryz.f75)
theorem f75_head (call : CallT) (lf : Nat) (s : AV) (H : List ABlk) (x : Int) (a b : Code) : runCode Pt.env call lf (.seq (subC [0] (codeOf Tryz.f75)) (.seq (.seq (subC [1, 0, 0] (codeOf Tryz.f75)) a) b)) ⟨⟨199, [(0, s), (1, .int .u64 x), (2, .int .i64 8)], []⟩, H, 23, []⟩ =
    runCode Pt.env call lf (.seq (.seq .skip a) b) ⟨⟨199, [(0, s), (1, .int .u64 x), (2, .int .i64 8), (6, .slice .nil 0 []), (7, .int .i64 7)], [(9, .int .i64 7), (8, .int .i64 8)]⟩, H, 23, []⟩ := by
  have h : IntKind.wrap .i64 (8 - 1) = 7 := by decide
  dsimp only [codeOf, Tryz.f75, subC, bc, Nat.beq]
  simp (disch := decide) only [c_seq, c_cond, c_block, c_exit, c_skip, c_ret, c_region, o_cons, o_guard, o_nil, sg_true, sg_false, t_normal, t_exit, t_ret, lv_ret, lv_normal, lv_exit, w_move, w_assign, w_bin, w_conv, w_build, w_call, w_pick, w_alloc, w_box, w_agg, w_load, w_store, w_nil, w_un, w_iface, w_func, w_slice, w_faddr, w_field, w_iaddr, w_index, w_extract, e_loc, e_reg, e_const, e_func, e_glob, g_hit, g_miss, p_hit, p_miss, p_nil, s_done, s_go, s_put_loc, s_put_reg, s_put_none, s_back, okV, okH, ob_some, cond_bool, bc_true, bc_false, v_int, v_bool, v_str, v_nil, oBin, oConv, oBuildSlice, oUn, oLoad, oStore, oFieldAddr, oIndexAddr, oIndex, oSlice, oExtract, oPick, oAlloc, oBox, oNil, oBuild, stepC, s_call, oBuiltin, oLen, oAppend, optV_none, optV_some, parts_nil, parts_cons, vals_nil, vals_cons, b_sub, h]
theorem f75_end (call : CallT) (lf : Nat) (s e a b c : AV) (H : List ABlk) (reg : List (Nat × AV)) :
    ∃ reg', runCode Pt.env call lf C75 ⟨⟨199, [(0, s), (1, a), (2, b), (6, e), (7, c)], reg⟩, H, 23, []⟩ = some (.ret, ⟨⟨199, [(0, s), (1, a), (2, b), (6, s), (7, c)], reg'⟩, H, 23, []⟩) := by
  dsimp only [C75, codeOf, Tryz.f75, subC, bc, Nat.beq]
  simp (disch := decide) only [c_seq, c_cond, c_block, c_exit, c_skip, c_ret, c_region, o_cons, o_guard, o_nil, sg_true, sg_false, t_normal, t_exit, t_ret, lv_ret, lv_normal, lv_exit, w_move, w_assign, w_bin, w_conv, w_build, w_call, w_pick, w_alloc, w_box, w_agg, w_load, w_store, w_nil, w_un, w_iface, w_func, w_slice, w_faddr, w_field, w_iaddr, w_index, w_extract, e_loc, e_reg, e_const, e_func, e_glob, g_hit, g_miss, p_hit, p_miss, p_nil, s_done, s_go, s_put_loc, s_put_reg, s_put_none, s_back, okV, okH, ob_some, cond_bool, bc_true, bc_false, v_int, v_bool, v_str, v_nil, oBin, oConv, oBuildSlice, oUn, oLoad, oStore, oFieldAddr, oIndexAddr, oIndex, oSlice, oExtract, oPick, oAlloc, oBox, oNil, oBuild, stepC, s_call, oBuiltin, oLen, oAppend, optV_none, optV_some, parts_nil, parts_cons, vals_nil, vals_cons]
  exact ⟨_, rfl⟩
theorem f75_ok (k : Nat) (hk : 10 < k) (bs : List UInt8) (hb : bs.length < 1000000000) (x : Nat) :
    callN Pt.env (k + 1) 75 [sS true bs, .int .u64 x, .int .i64 8] (hS true bs.length) = some (.ret (sS true (bs ++ big 8 x)), hS true (bs ++ big 8 x).length) := by
  obtain ⟨reg, h2⟩ := f75_loop (callN Pt.env k) k (.int .i64 8) x 8 k bs [(9, .int .i64 7), (8, .int .i64 8)] (by omega) (by omega) (by omega)
  obtain ⟨reg', h3⟩ := f75_end (callN Pt.env k) k (sS true (bs ++ big 8 x)) (.slice .nil 0 []) (.int .u64 x) (.int .i64 8) (.int .i64 (-1)) (hS true (bs ++ big 8 x).length) reg
  refine callN_ret Pt.env _ k 75 _ Tryz.f75 (codeOf Tryz.f75) ⟨⟨199, [(0, sS true (bs ++ big 8 x)), (1, .int .u64 x), (2, .int .i64 8), (6, sS true (bs ++ big 8 x)), (7, .int .i64 (-1))], reg'⟩, hS true (bs ++ big 8 x).length, 23, []⟩ _ (by kernel_rfl) (by kernel_rfl) rfl (by kernel_rfl) ?_ rfl (by kernel_rfl)
  show runCode Pt.env (callN Pt.env k) k (.seq (subC [0] (codeOf Tryz.f75)) (.seq (.seq (subC [1, 0, 0] (codeOf Tryz.f75)) (.block 0 (.loop B75))) C75)) ⟨⟨199, [(0, sS true bs), (1, .int .u64 x), (2, .int .i64 8)], []⟩, hS true bs.length, 23, []⟩ = _
  rw [f75_head, c_seq, c_seq, c_skip, t_normal, c_block, c_loop]
  show thenA (ob (loopN 5 1 (runCode Pt.env (callN Pt.env k) k B75) k ⟨⟨199, [(0, sS true bs), (1, .int .u64 x), (2, .int .i64 8), (6, .slice .nil 0 []), (7, .int .i64 7)], [(9, .int .i64 7), (8, .int .i64 8)]⟩, hS true bs.length, 23, []⟩) _) _ = _
  have h2' : loopN 5 1 (runCode Pt.env (callN Pt.env k) k B75) k ⟨⟨199, [(0, sS true bs), (1, .int .u64 x), (2, .int .i64 8), (6, .slice .nil 0 []), (7, .int .i64 7)], [(9, .int .i64 7), (8, .int .i64 8)]⟩, hS true bs.length, 23, []⟩ = _ := h2
  rw [h2', ob_some]
  simp only [lv_exit, Nat.beq_refl, bc_true, t_normal]
  exact h3
/-! ### putLittle -/
noncomputable def B76 : Code := subC [1, 0, 1, 0, 0] (codeOf Tryz.f76)
noncomputable def C76 : Code := subC [1, 1] (codeOf Tryz.f76)
theorem f76_body (call : CallT) (lf : Nat) (r0 : List (Nat × AV)) (x i j i' : Int) (e s s' z : AV) (H H' : List ABlk) (hi : decide (i < 4) = true) (hj : IntKind.wrap .i64 (8 * i) = j) (hj0 : decide (j < 0) = false) (hi' : IntKind.wrap .i64 (i + 1) = i')
    (ha : appendA Pt.env.ty H 22 22 s (.slice .exact 1 [.int .u8 (shrI x j)]) = some (s', H')) :
    ∃ reg, runCode Pt.env call lf B76 ⟨⟨967, [(0, s), (1, .int .u64 x), (2, z), (6, e), (8, .int .i64 4), (9, .int .i64 i)], r0⟩, H, 22, []⟩ = some (.normal, ⟨⟨967, [(0, s'), (1, .int .u64 x), (2, z), (6, e), (8, .int .i64 4), (9, .int .i64 i'), (7, .int .i64 i)], reg⟩, H', 22, []⟩) := by
  simp only [shrI] at ha
  dsimp only [B76, codeOf, Tryz.f76, subC, bc, Nat.beq]
  simp (disch := decide) only [c_seq, c_cond, c_block, c_exit, c_skip, c_ret, c_region, o_cons, o_guard, o_nil, sg_true, sg_false, t_normal, t_exit, t_ret, lv_ret, lv_normal, lv_exit, w_move, w_assign, w_bin, w_conv, w_build, w_call, w_pick, w_alloc, w_box, w_agg, w_load, w_store, w_nil, w_un, w_iface, w_func, w_slice, w_faddr, w_field, w_iaddr, w_index, w_extract, e_loc, e_reg, e_const, e_func, e_glob, g_hit, g_miss, p_hit, p_miss, p_nil, s_done, s_go, s_put_loc, s_put_reg, s_put_none, s_back, okV, okH, ob_some, cond_bool, bc_true, bc_false, v_int, v_bool, v_str, v_nil, oBin, oConv, oBuildSlice, oUn, oLoad, oStore, oFieldAddr, oIndexAddr, oIndex, oSlice, oExtract, oPick, oAlloc, oBox, oNil, oBuild, stepC, s_call, oBuiltin, oLen, oAppend, optV_none, optV_some, parts_nil, parts_cons, vals_nil, vals_cons, b_lss, b_mul, b_add, b_shr _ _ _ _ _ _ _ hj0, hi, hj, hi', conv25_5, byte1, ha]
  exact ⟨_, rfl⟩
theorem f76_exit (call : CallT) (lf : Nat) (r0 : List (Nat × AV)) (x i : Int) (e s z : AV) (H : List ABlk) (hi : decide (i < 4) = false) :
    ∃ reg, runCode Pt.env call lf B76 ⟨⟨967, [(0, s), (1, .int .u64 x), (2, z), (6, e), (8, .int .i64 4), (9, .int .i64 i)], r0⟩, H, 22, []⟩ = some (.exit 0, ⟨⟨967, [(0, s), (1, .int .u64 x), (2, z), (6, e), (8, .int .i64 4), (9, .int .i64 i)], reg⟩, H, 22, []⟩) := by
  dsimp only [B76, codeOf, Tryz.f76, subC, bc, Nat.beq]
  simp (disch := decide) only [c_seq, c_cond, c_block, c_exit, c_skip, c_ret, c_region, o_cons, o_guard, o_nil, sg_true, sg_false, t_normal, t_exit, t_ret, lv_ret, lv_normal, lv_exit, w_move, w_assign, w_bin, w_conv, w_build, w_call, w_pick, w_alloc, w_box, w_agg, w_load, w_store, w_nil, w_un, w_iface, w_func, w_slice, w_faddr, w_field, w_iaddr, w_index, w_extract, e_loc, e_reg, e_const, e_func, e_glob, g_hit, g_miss, p_hit, p_miss, p_nil, s_done, s_go, s_put_loc, s_put_reg, s_put_none, s_back, okV, okH, ob_some, cond_bool, bc_true, bc_false, v_int, v_bool, v_str, v_nil, oBin, oConv, oBuildSlice, oUn, oLoad, oStore, oFieldAddr, oIndexAddr, oIndex, oSlice, oExtract, oPick, oAlloc, oBox, oNil, oBuild, stepC, s_call, oBuiltin, oLen, oAppend, optV_none, optV_some, parts_nil, parts_cons, vals_nil, vals_cons, b_lss, hi]
  exact ⟨_, rfl⟩
theorem trim76 (x i j : Int) (bs : List UInt8) (z : AV) (reg : List (Nat × AV)) :
    trim 6 1 ⟨⟨967, [(0, sS true bs), (1, .int .u64 x), (2, z), (6, .slice .nil 0 []), (8, .int .i64 4), (9, .int .i64 i), (7, .int .i64 j)], reg⟩, hS true bs.length, 22, []⟩ = some ⟨⟨967, [(0, sS true bs), (1, .int .u64 x), (2, z), (6, .slice .nil 0 []), (8, .int .i64 4), (9, .int .i64 i)], []⟩, hS true bs.length, 22, []⟩ := by kernel_rfl
theorem f76_loop (call : CallT) (lf : Nat) (z : AV) (x : Nat) : ∀ (n i k : Nat) (bs : List UInt8) (r0 : List (Nat × AV)), i + n = 4 → bs.length + n < 1073741824 → n < k → ∃ reg,
    loopN 6 1 (runCode Pt.env call lf B76) k ⟨⟨967, [(0, sS true bs), (1, .int .u64 x), (2, z), (6, .slice .nil 0 []), (8, .int .i64 4), (9, .int .i64 i)], r0⟩, hS true bs.length, 22, []⟩ =
      some (.exit 0, ⟨⟨967, [(0, sS true (bs ++ lit i n x)), (1, .int .u64 x), (2, z), (6, .slice .nil 0 []), (8, .int .i64 4), (9, .int .i64 4)], reg⟩, hS true (bs ++ lit i n x).length, 22, []⟩) := by
  intro n
  induction n with
  | zero =>
    intro i k bs r0 hn hb hk
    obtain ⟨k, rfl⟩ : ∃ j, k = j + 1 := ⟨k - 1, by omega⟩
    obtain rfl : i = 4 := by omega
    obtain ⟨reg, hr⟩ := f76_exit call lf r0 x 4 (.slice .nil 0 []) (sS true bs) z (hS true bs.length) (by decide)
    refine ⟨reg, ?_⟩
    rw [loopN_succ, show ((4 : Nat) : Int) = 4 from rfl, hr, t_exit]
    simp only [lit, List.append_nil]
  | succ n ih =>
    intro i k bs r0 hn hb hk
    obtain ⟨k, rfl⟩ : ∃ j, k = j + 1 := ⟨k - 1, by omega⟩
    obtain ⟨reg, hr⟩ := f76_body call lf r0 x i _ _ (.slice .nil 0 []) (sS true bs) _ z (hS true bs.length) _ (by simp; omega) (mul8 i (by omega)) (by simp; omega) (add1 i (by omega)) (append1 true bs _ _ (shrI_nat x i (by omega)) (by omega))
    obtain ⟨reg', h2⟩ := ih (i + 1) k (bs ++ [UInt8.ofNat (x / 2 ^ (8 * i))]) [] (by omega) (by simp; omega) (by omega)
    refine ⟨reg', ?_⟩
    rw [loopN_succ, hr, t_normal, trim76, ob_some, h2, List.append_assoc]
    rfl
theorem f76_head (call : CallT) (lf : Nat) (s : AV) (H : List ABlk) (x : Int) (a b : Code) : runCode Pt.env call lf (.seq (subC [0] (codeOf Tryz.f76)) (.seq (.seq (subC [1, 0, 0] (codeOf Tryz.f76)) a) b)) ⟨⟨967, [(0, s), (1, .int .u64 x), (2, .int .i64 4)], []⟩, H, 22, []⟩ =
    runCode Pt.env call lf (.seq (.seq .skip a) b) ⟨⟨967, [(0, s), (1, .int .u64 x), (2, .int .i64 4), (6, .slice .nil 0 []), (8, .int .i64 4), (9, .int .i64 0)], []⟩, H, 22, []⟩ := by
  dsimp only [codeOf, Tryz.f76, subC, bc, Nat.beq]
  simp (disch := decide) only [c_seq, c_cond, c_block, c_exit, c_skip, c_ret, c_region, o_cons, o_guard, o_nil, sg_true, sg_false, t_normal, t_exit, t_ret, lv_ret, lv_normal, lv_exit, w_move, w_assign, w_bin, w_conv, w_build, w_call, w_pick, w_alloc, w_box, w_agg, w_load, w_store, w_nil, w_un, w_iface, w_func, w_slice, w_faddr, w_field, w_iaddr, w_index, w_extract, e_loc, e_reg, e_const, e_func, e_glob, g_hit, g_miss, p_hit, p_miss, p_nil, s_done, s_go, s_put_loc, s_put_reg, s_put_none, s_back, okV, okH, ob_some, cond_bool, bc_true, bc_false, v_int, v_bool, v_str, v_nil, oBin, oConv, oBuildSlice, oUn, oLoad, oStore, oFieldAddr, oIndexAddr, oIndex, oSlice, oExtract, oPick, oAlloc, oBox, oNil, oBuild, stepC, s_call, oBuiltin, oLen, oAppend, optV_none, optV_some, parts_nil, parts_cons, vals_nil, vals_cons]
theorem f76_end (call : CallT) (lf : Nat) (s e a b c d : AV) (H : List ABlk) (reg : List (Nat × AV)) :
    ∃ reg', runCode Pt.env call lf C76 ⟨⟨967, [(0, s), (1, a), (2, b), (6, e), (8, c), (9, d)], reg⟩, H, 22, []⟩ = some (.ret, ⟨⟨967, [(0, s), (1, a), (2, b), (6, s), (8, c), (9, d)], reg'⟩, H, 22, []⟩) := by
  dsimp only [C76, codeOf, Tryz.f76, subC, bc, Nat.beq]
  simp (disch := decide) only [c_seq, c_cond, c_block, c_exit, c_skip, c_ret, c_region, o_cons, o_guard, o_nil, sg_true, sg_false, t_normal, t_exit, t_ret, lv_ret, lv_normal, lv_exit, w_move, w_assign, w_bin, w_conv, w_build, w_call, w_pick, w_alloc, w_box, w_agg, w_load, w_store, w_nil, w_un, w_iface, w_func, w_slice, w_faddr, w_field, w_iaddr, w_index, w_extract, e_loc, e_reg, e_const, e_func, e_glob, g_hit, g_miss, p_hit, p_miss, p_nil, s_done, s_go, s_put_loc, s_put_reg, s_put_none, s_back, okV, okH, ob_some, cond_bool, bc_true, bc_false, v_int, v_bool, v_str, v_nil, oBin, oConv, oBuildSlice, oUn, oLoad, oStore, oFieldAddr, oIndexAddr, oIndex, oSlice, oExtract, oPick, oAlloc, oBox, oNil, oBuild, stepC, s_call, oBuiltin, oLen, oAppend, optV_none, optV_some, parts_nil, parts_cons, vals_nil, vals_cons]
  exact ⟨_, rfl⟩
theorem f76_ok (k : Nat) (hk : 10 < k) (bs : List UInt8) (hb : bs.length < 1000000000) (x : Nat) :
    callN Pt.env (k + 1) 76 [sS true bs, .int .u64 x, .int .i64 4] (hS true bs.length) = some (.ret (sS true (bs ++ lit 0 4 x)), hS true (bs ++ lit 0 4 x).length) := by
  obtain ⟨reg, h2⟩ := f76_loop (callN Pt.env k) k (.int .i64 4) x 4 0 k bs [] (by omega) (by omega) (by omega)
  obtain ⟨reg', h3⟩ := f76_end (callN Pt.env k) k (sS true (bs ++ lit 0 4 x)) (.slice .nil 0 []) (.int .u64 x) (.int .i64 4) (.int .i64 4) (.int .i64 4) (hS true (bs ++ lit 0 4 x).length) reg
  refine callN_ret Pt.env _ k 76 _ Tryz.f76 (codeOf Tryz.f76) ⟨⟨967, [(0, sS true (bs ++ lit 0 4 x)), (1, .int .u64 x), (2, .int .i64 4), (6, sS true (bs ++ lit 0 4 x)), (8, .int .i64 4), (9, .int .i64 4)], reg'⟩, hS true (bs ++ lit 0 4 x).length, 22, []⟩ _ (by kernel_rfl) (by kernel_rfl) rfl (by kernel_rfl) ?_ rfl (by kernel_rfl)
  show runCode Pt.env (callN Pt.env k) k (.seq (subC [0] (codeOf Tryz.f76)) (.seq (.seq (subC [1, 0, 0] (codeOf Tryz.f76)) (.block 0 (.loop B76))) C76)) ⟨⟨967, [(0, sS true bs), (1, .int .u64 x), (2, .int .i64 4)], []⟩, hS true bs.length, 22, []⟩ = _
  rw [f76_head, c_seq, c_seq, c_skip, t_normal, c_block, c_loop]
  have h2' : loopN 6 1 (runCode Pt.env (callN Pt.env k) k B76) k ⟨⟨967, [(0, sS true bs), (1, .int .u64 x), (2, .int .i64 4), (6, .slice .nil 0 []), (8, .int .i64 4), (9, .int .i64 0)], []⟩, hS true bs.length, 22, []⟩ = _ := h2
  show thenA (ob (loopN 6 1 (runCode Pt.env (callN Pt.env k) k B76) k ⟨⟨967, [(0, sS true bs), (1, .int .u64 x), (2, .int .i64 4), (6, .slice .nil 0 []), (8, .int .i64 4), (9, .int .i64 0)], []⟩, hS true bs.length, 22, []⟩) _) _ = _
  rw [h2', ob_some]
  simp only [lv_exit, Nat.beq_refl, bc_true, t_normal]
  exact h3
end Go.Proofs
