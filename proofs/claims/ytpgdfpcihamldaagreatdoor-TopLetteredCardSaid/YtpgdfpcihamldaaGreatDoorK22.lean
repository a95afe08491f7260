/-
envelope.getLittle and getBig.
envelope.getBig.
envelope.getVar of what putVar puts.
-/
import Derived.Test.YtpgdfpcihamldaaGreatDoorK19
import Derived.Test.YtpgdfpcihamldaaGreatDoorK17
import Derived.Test.YtpgdfpcihamldaaGreatDoorK20
set_option linter.unusedSimpArgs false
namespace Go.Proofs
open Go Go.Pm Go.Proofs.Sum
set_option maxRecDepth 100000
theorem conv5_25 (H : List ABlk) (b : UInt8) : convertA Pt.env.ty 5 25 H (.int .u8 (b.toNat : Int)) = some (.int .u64 (b.toNat : Int), H) := by
  have h := b.toNat_lt
  simp only [convertA, d5, d25, wrap_u64]
  rw [Nat.mod_eq_of_lt (by omega)]
theorem shl_nat (x i : Nat) (hi : i ≤ 64) (h : x * 2 ^ i < 18446744073709551616) : IntKind.wrap .u64 ((x : Int) * 2 ^ (min ((i : Nat) : Int).toNat IntKind.u64.bits)) = ((x * 2 ^ i : Nat) : Int) := by
  have e : min ((i : Nat) : Int).toNat IntKind.u64.bits = i := by rw [Int.toNat_natCast]; show min i 64 = i; omega
  rw [e]
  have : (x : Int) * 2 ^ i = ((x * 2 ^ i : Nat) : Int) := by simp
  rw [this, wrap_u64, Nat.mod_eq_of_lt h]
theorem mul8' (i : Nat) (hi : i < 8) : IntKind.wrap .i64 (8 * (i : Int)) = ((8 * i : Nat) : Int) := by
  have h : ∀ i : Fin 8, IntKind.wrap .i64 (8 * (i.1 : Int)) = ((8 * i.1 : Nat) : Int) := by decide
  exact h ⟨i, hi⟩
theorem little_snoc (l : List UInt8) (b : UInt8) : little (l ++ [b]) = little l + b.toNat * 2 ^ (8 * l.length) := by
  induction l with
  | nil => simp [little]
  | cons a l ih =>
    simp only [List.cons_append, little, ih, List.length_cons]
    rw [show 8 * (l.length + 1) = 8 * l.length + 8 from by omega, Nat.pow_add, Nat.mul_add]
    rw [show (2 : Nat) ^ 8 = 256 from rfl, Nat.add_assoc]
    congr 2
    rw [Nat.mul_left_comm, Nat.mul_comm (2 ^ (8 * l.length)) 256]
theorem little_lt (l : List UInt8) : little l < 2 ^ (8 * l.length) := by
  induction l with
  | nil => simp [little]
  | cons a l ih =>
    have := a.toNat_lt
    simp only [little, List.length_cons]
    rw [show 8 * (l.length + 1) = 8 * l.length + 8 from by omega, Nat.pow_add, show (2 : Nat) ^ 8 = 256 from rfl]
    omega
noncomputable def B78 : Code := subC [1, 0, 1, 0, 0] (codeOf Tryz.f78)
theorem f78_round (call : CallT) (lf : Nat) (r0 : List (Nat × AV)) (s : List UInt8) (n : Nat) (x i : Nat) (b : UInt8) (hb : s[i]? = some b) (hi : i < n) (h8 : i < 8) (hx : x < 2 ^ (8 * i)) (z : AV) :
    ∃ v reg, runCode Pt.env call lf B78 ⟨⟨243, [(0, .str s), (1, z), (4, .int .u64 x), (6, .int .i64 n), (7, .int .i64 i)], r0⟩, [], 21, []⟩ =
      some (.normal, ⟨⟨243, [(0, .str s), (1, z), (4, .int .u64 (x + b.toNat * 2 ^ (8 * i) : Nat)), (6, .int .i64 n), (7, .int .i64 (i + 1 : Nat)), (5, v)], reg⟩, [], 21, []⟩) := by
  have h1 : decide ((i : Int) < n) = true := by simp; omega
  have hbl := b.toNat_lt
  have hp : 2 ^ (8 * i) ≤ 2 ^ 56 := Nat.pow_le_pow_right (by omega) (by omega)
  have hp2 : b.toNat * 2 ^ (8 * i) ≤ 255 * 2 ^ 56 := Nat.mul_le_mul (by omega) hp
  have h2 := shl_nat b.toNat (8 * i) (by omega) (by omega)
  have h3 := or_u64 x (b.toNat * 2 ^ (8 * i)) (by omega) (by omega)
  rw [or_add x b.toNat (8 * i) hx] at h3
  have hj0 : decide (((8 * i : Nat) : Int) < 0) = false := by simp; omega
  dsimp only [B78, codeOf, Tryz.f78, subC, bc, Nat.beq]
  simp (disch := decide) only [c_seq, c_cond, c_block, c_exit, c_skip, c_ret, c_region, o_cons, o_guard, o_nil, sg_true, sg_false, t_normal, t_exit, t_ret, lv_ret, lv_normal, lv_exit, w_move, w_assign, w_bin, w_conv, w_build, w_call, w_pick, w_alloc, w_box, w_agg, w_load, w_store, w_nil, w_un, w_iface, w_func, w_slice, w_faddr, w_field, w_iaddr, w_index, w_extract, e_loc, e_reg, e_const, e_func, e_glob, g_hit, g_miss, p_hit, p_miss, p_nil, s_done, s_go, s_put_loc, s_put_reg, s_put_none, s_back, okV, okH, ob_some, cond_bool, bc_true, bc_false, v_int, v_bool, v_str, v_nil, oBin, oConv, oBuildSlice, oUn, oLoad, oStore, oFieldAddr, oIndexAddr, oIndex, oSlice, oExtract, oPick, oAlloc, oBox, oNil, oBuild, stepC, s_call, oBuiltin, oLen, oAppend, optV_none, optV_some, parts_nil, parts_cons, vals_nil, vals_cons, b_lss, b_add, b_mul, b_or, b_shl _ _ _ _ _ _ _ hj0, h1, h2, h3, index9 s i b hb, conv5_25, mul8' i h8, add1' i (by omega)]
  exact ⟨_, _, rfl⟩
theorem f78_stop (call : CallT) (lf : Nat) (r0 : List (Nat × AV)) (s z x : AV) (n : Nat) :
    ∃ reg, runCode Pt.env call lf B78 ⟨⟨243, [(0, s), (1, z), (4, x), (6, .int .i64 n), (7, .int .i64 n)], r0⟩, [], 21, []⟩ =
      some (.exit 0, ⟨⟨243, [(0, s), (1, z), (4, x), (6, .int .i64 n), (7, .int .i64 n)], reg⟩, [], 21, []⟩) := by
  have h1 : decide ((n : Int) < n) = false := by simp
  dsimp only [B78, codeOf, Tryz.f78, subC, bc, Nat.beq]
  simp (disch := decide) only [c_seq, c_cond, c_block, c_exit, c_skip, c_ret, c_region, o_cons, o_guard, o_nil, sg_true, sg_false, t_normal, t_exit, t_ret, lv_ret, lv_normal, lv_exit, w_move, w_assign, w_bin, w_conv, w_build, w_call, w_pick, w_alloc, w_box, w_agg, w_load, w_store, w_nil, w_un, w_iface, w_func, w_slice, w_faddr, w_field, w_iaddr, w_index, w_extract, e_loc, e_reg, e_const, e_func, e_glob, g_hit, g_miss, p_hit, p_miss, p_nil, s_done, s_go, s_put_loc, s_put_reg, s_put_none, s_back, okV, okH, ob_some, cond_bool, bc_true, bc_false, v_int, v_bool, v_str, v_nil, oBin, oConv, oBuildSlice, oUn, oLoad, oStore, oFieldAddr, oIndexAddr, oIndex, oSlice, oExtract, oPick, oAlloc, oBox, oNil, oBuild, stepC, s_call, oBuiltin, oLen, oAppend, optV_none, optV_some, parts_nil, parts_cons, vals_nil, vals_cons, b_lss, h1]
  exact ⟨_, rfl⟩
theorem f78_loop (call : CallT) (lf : Nat) (z : AV) (s : List UInt8) (hs : s.length ≤ 8) : ∀ (rest pre : List UInt8) (k : Nat) (r0 : List (Nat × AV)), pre ++ rest = s → rest.length < k → ∃ reg,
    loopN 5 0 (runCode Pt.env call lf B78) k ⟨⟨243, [(0, .str s), (1, z), (4, .int .u64 (little pre)), (6, .int .i64 s.length), (7, .int .i64 pre.length)], r0⟩, [], 21, []⟩ =
      some (.exit 0, ⟨⟨243, [(0, .str s), (1, z), (4, .int .u64 (little s)), (6, .int .i64 s.length), (7, .int .i64 s.length)], reg⟩, [], 21, []⟩) := by
  intro rest
  induction rest with
  | nil =>
    intro pre k r0 hp hk
    obtain ⟨k, rfl⟩ : ∃ j, k = j + 1 := ⟨k - 1, by omega⟩
    rw [List.append_nil] at hp
    obtain ⟨reg, hr⟩ := f78_stop call lf r0 (.str s) z (.int .u64 (little s)) s.length
    exact ⟨reg, by rw [loopN_succ, hp, hr, t_exit]⟩
  | cons b rest ih =>
    intro pre k r0 hp hk
    obtain ⟨k, rfl⟩ : ∃ j, k = j + 1 := ⟨k - 1, by omega⟩
    have hb : s[pre.length]? = some b := by rw [← hp]; simp
    have hlen : pre.length < s.length := by rw [← hp]; simp
    obtain ⟨v, reg, hr⟩ := f78_round call lf r0 s s.length (little pre) pre.length b hb hlen (by omega) (little_lt pre) z
    obtain ⟨reg', h2⟩ := ih (pre ++ [b]) k [] (by rw [← hp]; simp) (by simp at hk; omega)
    refine ⟨reg', ?_⟩
    rw [loopN_succ, hr, t_normal]
    rw [show trim 5 0 _ = _ from trim0 243 5 _ reg 21 [] [], ob_some]
    rw [little_snoc, List.length_append] at h2
    exact h2
theorem f78_head (call : CallT) (lf : Nat) (s : AV) (n : Int) (a b : Code) : runCode Pt.env call lf (.seq (subC [0] (codeOf Tryz.f78)) (.seq (.seq (subC [1, 0, 0] (codeOf Tryz.f78)) a) b)) ⟨⟨243, [(0, s), (1, .int .i64 n)], []⟩, [], 21, []⟩ =
    runCode Pt.env call lf (.seq (.seq .skip a) b) ⟨⟨243, [(0, s), (1, .int .i64 n), (4, .int .u64 0), (6, .int .i64 n), (7, .int .i64 0)], []⟩, [], 21, []⟩ := by
  dsimp only [codeOf, Tryz.f78, subC, bc, Nat.beq]
  simp (disch := decide) only [c_seq, c_cond, c_block, c_exit, c_skip, c_ret, c_region, o_cons, o_guard, o_nil, sg_true, sg_false, t_normal, t_exit, t_ret, lv_ret, lv_normal, lv_exit, w_move, w_assign, w_bin, w_conv, w_build, w_call, w_pick, w_alloc, w_box, w_agg, w_load, w_store, w_nil, w_un, w_iface, w_func, w_slice, w_faddr, w_field, w_iaddr, w_index, w_extract, e_loc, e_reg, e_const, e_func, e_glob, g_hit, g_miss, p_hit, p_miss, p_nil, s_done, s_go, s_put_loc, s_put_reg, s_put_none, s_back, okV, okH, ob_some, cond_bool, bc_true, bc_false, v_int, v_bool, v_str, v_nil, oBin, oConv, oBuildSlice, oUn, oLoad, oStore, oFieldAddr, oIndexAddr, oIndex, oSlice, oExtract, oPick, oAlloc, oBox, oNil, oBuild, stepC, s_call, oBuiltin, oLen, oAppend, optV_none, optV_some, parts_nil, parts_cons, vals_nil, vals_cons]
theorem f78_end (call : CallT) (lf : Nat) (r0 : List (Nat × AV)) (s z x l i : AV) :
    ∃ reg, runCode Pt.env call lf (subC [1, 1] (codeOf Tryz.f78)) ⟨⟨243, [(0, s), (1, z), (4, x), (6, l), (7, i)], r0⟩, [], 21, []⟩ =
      some (.ret, ⟨⟨243, [(0, s), (1, z), (4, x), (6, l), (7, i)], reg⟩, [], 21, []⟩) := by
  dsimp only [codeOf, Tryz.f78, subC, bc, Nat.beq]
  simp (disch := decide) only [c_seq, c_cond, c_block, c_exit, c_skip, c_ret, c_region, o_cons, o_guard, o_nil, sg_true, sg_false, t_normal, t_exit, t_ret, lv_ret, lv_normal, lv_exit, w_move, w_assign, w_bin, w_conv, w_build, w_call, w_pick, w_alloc, w_box, w_agg, w_load, w_store, w_nil, w_un, w_iface, w_func, w_slice, w_faddr, w_field, w_iaddr, w_index, w_extract, e_loc, e_reg, e_const, e_func, e_glob, g_hit, g_miss, p_hit, p_miss, p_nil, s_done, s_go, s_put_loc, s_put_reg, s_put_none, s_back, okV, okH, ob_some, cond_bool, bc_true, bc_false, v_int, v_bool, v_str, v_nil, oBin, oConv, oBuildSlice, oUn, oLoad, oStore, oFieldAddr, oIndexAddr, oIndex, oSlice, oExtract, oPick, oAlloc, oBox, oNil, oBuild, stepC, s_call, oBuiltin, oLen, oAppend, optV_none, optV_some, parts_nil, parts_cons, vals_nil, vals_cons]
  exact ⟨_, rfl⟩
theorem f78_ok (k : Nat) (hk : 8 < k) (s : List UInt8) (hs : s.length = 4) : callN Pt.env (k + 1) 78 [.str s, .int .i64 4] [] = some (.ret (.int .u64 (little s)), []) := by
  obtain ⟨reg, h2⟩ := f78_loop (callN Pt.env k) k (.int .i64 4) s (by omega) s [] k [] rfl (by omega)
  obtain ⟨reg', h3⟩ := f78_end (callN Pt.env k) k reg (.str s) (.int .i64 4) (.int .u64 (little s)) (.int .i64 s.length) (.int .i64 s.length)
  refine callN_ret Pt.env _ k 78 _ Tryz.f78 (codeOf Tryz.f78) ⟨⟨243, [(0, .str s), (1, .int .i64 4), (4, .int .u64 (little s)), (6, .int .i64 s.length), (7, .int .i64 s.length)], reg'⟩, [], 21, []⟩ _ (by kernel_rfl) (by kernel_rfl) rfl (by kernel_rfl) ?_ rfl (by kernel_rfl)
  show runCode Pt.env (callN Pt.env k) k (.seq (subC [0] (codeOf Tryz.f78)) (.seq (.seq (subC [1, 0, 0] (codeOf Tryz.f78)) (.block 0 (.loop B78))) (subC [1, 1] (codeOf Tryz.f78)))) ⟨⟨243, [(0, .str s), (1, .int .i64 4)], []⟩, [], 21, []⟩ = _
  rw [f78_head, c_seq, c_seq, c_skip, t_normal, c_block, c_loop]
  rw [hs] at h2 h3
  have h2' : loopN 5 0 (runCode Pt.env (callN Pt.env k) k B78) k ⟨⟨243, [(0, .str s), (1, .int .i64 4), (4, .int .u64 0), (6, .int .i64 4), (7, .int .i64 0)], []⟩, [], 21, []⟩ = _ := h2
  show thenA (ob (loopN 5 0 (runCode Pt.env (callN Pt.env k) k B78) k ⟨⟨243, [(0, .str s), (1, .int .i64 4), (4, .int .u64 0), (6, .int .i64 4), (7, .int .i64 0)], []⟩, [], 21, []⟩) _) _ = _
  rw [h2', ob_some, hs]
  simp only [lv_exit, Nat.beq_refl, bc_true, t_normal]
  exact h3
end Go.Proofs
set_option linter.unusedSimpArgs false
namespace Go.Proofs
open Go Go.Pm Go.Proofs.Sum
set_option maxRecDepth 100000
/-- The number of bytes, the highest one first. -/
def bigN (l : List UInt8) : Nat := l.foldl (fun x b => x * 256 + b.toNat) 0
theorem bigN_snoc (l : List UInt8) (b : UInt8) : bigN (l ++ [b]) = bigN l * 256 + b.toNat := by simp [bigN]
theorem bigN_ind (P : List UInt8 → Prop) (h0 : P []) (h1 : ∀ l b, P l → P (l ++ [b])) (l : List UInt8) : P l := by
  rw [← List.reverse_reverse l]
  generalize l.reverse = m
  induction m with
  | nil => exact h0
  | cons b m ih => rw [List.reverse_cons]; exact h1 _ _ ih
theorem bigN_lt (l : List UInt8) : bigN l < 2 ^ (8 * l.length) := by
  refine bigN_ind (fun l => bigN l < 2 ^ (8 * l.length)) (by simp [bigN]) (fun l b ih => ?_) l
  have := b.toNat_lt
  rw [bigN_snoc, List.length_append, List.length_singleton]
  rw [show 8 * (l.length + 1) = 8 * l.length + 8 from by omega, Nat.pow_add, show (2 : Nat) ^ 8 = 256 from rfl]
  omega
theorem bigN_from (l : List UInt8) : ∀ x : Nat, l.foldl (fun x b => x * 256 + b.toNat) x = x * 2 ^ (8 * l.length) + bigN l := by
  induction l with
  | nil => intro x; simp [bigN]
  | cons a l ih =>
    intro x
    rw [List.foldl_cons, ih]
    have e : bigN (a :: l) = a.toNat * 2 ^ (8 * l.length) + bigN l := by
      unfold bigN
      rw [List.foldl_cons, ih, Nat.zero_mul, Nat.zero_add]; rfl
    rw [e, List.length_cons, show 8 * (l.length + 1) = 8 + 8 * l.length from by omega, Nat.pow_add, Nat.add_mul, Nat.mul_assoc, Nat.add_assoc]
theorem bigN_big (n : Nat) : ∀ x, bigN (big n x) = x % 2 ^ (8 * n) := by
  induction n with
  | zero => intro x; simp [big, bigN, Nat.mod_one]
  | succ n ih =>
    intro x
    have e : bigN (big (n + 1) x) = (UInt8.ofNat (x / 2 ^ (8 * n))).toNat * 2 ^ (8 * n) + bigN (big n x) := by
      show List.foldl _ 0 (UInt8.ofNat (x / 2 ^ (8 * n)) :: big n x) = _
      rw [List.foldl_cons, bigN_from, big_length, Nat.zero_mul, Nat.zero_add]
    rw [e, ih, UInt8.toNat_ofNat', show 8 * (n + 1) = 8 * n + 8 from by omega, Nat.pow_add, Nat.mod_mul, Nat.mul_comm (2 ^ (8 * n)), Nat.add_comm]
noncomputable def B83 : Code := subC [1, 0, 1, 0, 0] (codeOf Tryz.f83)
theorem f83_round (call : CallT) (lf : Nat) (r0 : List (Nat × AV)) (s : List UInt8) (n : Nat) (x i : Nat) (b : UInt8) (hb : s[i]? = some b) (hi : i < n) (h8 : i < 8) (hx : x < 2 ^ (8 * i)) (z : AV) :
    ∃ v reg, runCode Pt.env call lf B83 ⟨⟨243, [(0, .str s), (1, z), (4, .int .u64 x), (6, .int .i64 n), (7, .int .i64 i)], r0⟩, [], 19, []⟩ =
      some (.normal, ⟨⟨243, [(0, .str s), (1, z), (4, .int .u64 (x * 256 + b.toNat : Nat)), (6, .int .i64 n), (7, .int .i64 (i + 1 : Nat)), (5, v)], reg⟩, [], 19, []⟩) := by
  have h1 : decide ((i : Int) < n) = true := by simp; omega
  have hbl := b.toNat_lt
  have hp : 2 ^ (8 * i) ≤ 2 ^ 56 := Nat.pow_le_pow_right (by omega) (by omega)
  have h2 := shl_nat x 8 (by omega) (by omega)
  rw [show ((8 : Nat) : Int) = 8 from rfl] at h2
  have h3 := or_u64 (x * 2 ^ 8) b.toNat (by omega) (by omega)
  rw [Nat.or_comm, or_add b.toNat x 8 (by omega), Nat.add_comm] at h3
  rw [show (2 : Nat) ^ 8 = 256 from rfl] at h2 h3
  dsimp only [B83, codeOf, Tryz.f83, subC, bc, Nat.beq]
  simp (disch := decide) only [c_seq, c_cond, c_block, c_exit, c_skip, c_ret, c_region, o_cons, o_guard, o_nil, sg_true, sg_false, t_normal, t_exit, t_ret, lv_ret, lv_normal, lv_exit, w_move, w_assign, w_bin, w_conv, w_build, w_call, w_pick, w_alloc, w_box, w_agg, w_load, w_store, w_nil, w_un, w_iface, w_func, w_slice, w_faddr, w_field, w_iaddr, w_index, w_extract, e_loc, e_reg, e_const, e_func, e_glob, g_hit, g_miss, p_hit, p_miss, p_nil, s_done, s_go, s_put_loc, s_put_reg, s_put_none, s_back, okV, okH, ob_some, cond_bool, bc_true, bc_false, v_int, v_bool, v_str, v_nil, oBin, oConv, oBuildSlice, oUn, oLoad, oStore, oFieldAddr, oIndexAddr, oIndex, oSlice, oExtract, oPick, oAlloc, oBox, oNil, oBuild, stepC, s_call, oBuiltin, oLen, oAppend, optV_none, optV_some, parts_nil, parts_cons, vals_nil, vals_cons, b_lss, b_add, b_or, b_shl, h1, h2, h3, index9 s i b hb, conv5_25, add1' i (by omega)]
  exact ⟨_, _, rfl⟩
theorem f83_stop (call : CallT) (lf : Nat) (r0 : List (Nat × AV)) (s z x : AV) (n : Nat) :
    ∃ reg, runCode Pt.env call lf B83 ⟨⟨243, [(0, s), (1, z), (4, x), (6, .int .i64 n), (7, .int .i64 n)], r0⟩, [], 19, []⟩ =
      some (.exit 0, ⟨⟨243, [(0, s), (1, z), (4, x), (6, .int .i64 n), (7, .int .i64 n)], reg⟩, [], 19, []⟩) := by
  have h1 : decide ((n : Int) < n) = false := by simp
  dsimp only [B83, codeOf, Tryz.f83, subC, bc, Nat.beq]
  simp (disch := decide) only [c_seq, c_cond, c_block, c_exit, c_skip, c_ret, c_region, o_cons, o_guard, o_nil, sg_true, sg_false, t_normal, t_exit, t_ret, lv_ret, lv_normal, lv_exit, w_move, w_assign, w_bin, w_conv, w_build, w_call, w_pick, w_alloc, w_box, w_agg, w_load, w_store, w_nil, w_un, w_iface, w_func, w_slice, w_faddr, w_field, w_iaddr, w_index, w_extract, e_loc, e_reg, e_const, e_func, e_glob, g_hit, g_miss, p_hit, p_miss, p_nil, s_done, s_go, s_put_loc, s_put_reg, s_put_none, s_back, okV, okH, ob_some, cond_bool, bc_true, bc_false, v_int, v_bool, v_str, v_nil, oBin, oConv, oBuildSlice, oUn, oLoad, oStore, oFieldAddr, oIndexAddr, oIndex, oSlice, oExtract, oPick, oAlloc, oBox, oNil, oBuild, stepC, s_call, oBuiltin, oLen, oAppend, optV_none, optV_some, parts_nil, parts_cons, vals_nil, vals_cons, b_lss, h1]
  exact ⟨_, rfl⟩
theorem f83_loop (call : CallT) (lf : Nat) (z : AV) (s : List UInt8) (hs : s.length ≤ 8) : ∀ (rest pre : List UInt8) (k : Nat) (r0 : List (Nat × AV)), pre ++ rest = s → rest.length < k → ∃ reg,
    loopN 5 0 (runCode Pt.env call lf B83) k ⟨⟨243, [(0, .str s), (1, z), (4, .int .u64 (bigN pre)), (6, .int .i64 s.length), (7, .int .i64 pre.length)], r0⟩, [], 19, []⟩ =
      some (.exit 0, ⟨⟨243, [(0, .str s), (1, z), (4, .int .u64 (bigN s)), (6, .int .i64 s.length), (7, .int .i64 s.length)], reg⟩, [], 19, []⟩) := by
  intro rest
  induction rest with
  | nil =>
    intro pre k r0 hp hk
    obtain ⟨k, rfl⟩ : ∃ j, k = j + 1 := ⟨k - 1, by omega⟩
    rw [List.append_nil] at hp
    obtain ⟨reg, hr⟩ := f83_stop call lf r0 (.str s) z (.int .u64 (bigN s)) s.length
    exact ⟨reg, by rw [loopN_succ, hp, hr, t_exit]⟩
  | cons b rest ih =>
    intro pre k r0 hp hk
    obtain ⟨k, rfl⟩ : ∃ j, k = j + 1 := ⟨k - 1, by omega⟩
    have hb : s[pre.length]? = some b := by rw [← hp]; simp
    have hlen : pre.length < s.length := by rw [← hp]; simp
    obtain ⟨v, reg, hr⟩ := f83_round call lf r0 s s.length (bigN pre) pre.length b hb hlen (by omega) (bigN_lt pre) z
    obtain ⟨reg', h2⟩ := ih (pre ++ [b]) k [] (by rw [← hp]; simp) (by simp at hk; omega)
    refine ⟨reg', ?_⟩
    rw [loopN_succ, hr, t_normal]
    rw [show trim 5 0 _ = _ from trim0 243 5 _ reg 19 [] [], ob_some]
    rw [bigN_snoc, List.length_append] at h2
    exact h2
theorem f83_head (call : CallT) (lf : Nat) (s : AV) (n : Int) (a b : Code) : runCode Pt.env call lf (.seq (subC [0] (codeOf Tryz.f83)) (.seq (.seq (subC [1, 0, 0] (codeOf Tryz.f83)) a) b)) ⟨⟨243, [(0, s), (1, .int .i64 n)], []⟩, [], 19, []⟩ =
    runCode Pt.env call lf (.seq (.seq .skip a) b) ⟨⟨243, [(0, s), (1, .int .i64 n), (4, .int .u64 0), (6, .int .i64 n), (7, .int .i64 0)], []⟩, [], 19, []⟩ := by
  dsimp only [codeOf, Tryz.f83, subC, bc, Nat.beq]
  simp (disch := decide) only [c_seq, c_cond, c_block, c_exit, c_skip, c_ret, c_region, o_cons, o_guard, o_nil, sg_true, sg_false, t_normal, t_exit, t_ret, lv_ret, lv_normal, lv_exit, w_move, w_assign, w_bin, w_conv, w_build, w_call, w_pick, w_alloc, w_box, w_agg, w_load, w_store, w_nil, w_un, w_iface, w_func, w_slice, w_faddr, w_field, w_iaddr, w_index, w_extract, e_loc, e_reg, e_const, e_func, e_glob, g_hit, g_miss, p_hit, p_miss, p_nil, s_done, s_go, s_put_loc, s_put_reg, s_put_none, s_back, okV, okH, ob_some, cond_bool, bc_true, bc_false, v_int, v_bool, v_str, v_nil, oBin, oConv, oBuildSlice, oUn, oLoad, oStore, oFieldAddr, oIndexAddr, oIndex, oSlice, oExtract, oPick, oAlloc, oBox, oNil, oBuild, stepC, s_call, oBuiltin, oLen, oAppend, optV_none, optV_some, parts_nil, parts_cons, vals_nil, vals_cons]
theorem f83_end (call : CallT) (lf : Nat) (r0 : List (Nat × AV)) (s z x l i : AV) :
    ∃ reg, runCode Pt.env call lf (subC [1, 1] (codeOf Tryz.f83)) ⟨⟨243, [(0, s), (1, z), (4, x), (6, l), (7, i)], r0⟩, [], 19, []⟩ =
      some (.ret, ⟨⟨243, [(0, s), (1, z), (4, x), (6, l), (7, i)], reg⟩, [], 19, []⟩) := by
  dsimp only [codeOf, Tryz.f83, subC, bc, Nat.beq]
  simp (disch := decide) only [c_seq, c_cond, c_block, c_exit, c_skip, c_ret, c_region, o_cons, o_guard, o_nil, sg_true, sg_false, t_normal, t_exit, t_ret, lv_ret, lv_normal, lv_exit, w_move, w_assign, w_bin, w_conv, w_build, w_call, w_pick, w_alloc, w_box, w_agg, w_load, w_store, w_nil, w_un, w_iface, w_func, w_slice, w_faddr, w_field, w_iaddr, w_index, w_extract, e_loc, e_reg, e_const, e_func, e_glob, g_hit, g_miss, p_hit, p_miss, p_nil, s_done, s_go, s_put_loc, s_put_reg, s_put_none, s_back, okV, okH, ob_some, cond_bool, bc_true, bc_false, v_int, v_bool, v_str, v_nil, oBin, oConv, oBuildSlice, oUn, oLoad, oStore, oFieldAddr, oIndexAddr, oIndex, oSlice, oExtract, oPick, oAlloc, oBox, oNil, oBuild, stepC, s_call, oBuiltin, oLen, oAppend, optV_none, optV_some, parts_nil, parts_cons, vals_nil, vals_cons]
  exact ⟨_, rfl⟩
theorem f83_ok (k : Nat) (hk : 10 < k) (s : List UInt8) (hs : s.length = 8) : callN Pt.env (k + 1) 83 [.str s, .int .i64 8] [] = some (.ret (.int .u64 (bigN s)), []) := by
  obtain ⟨reg, h2⟩ := f83_loop (callN Pt.env k) k (.int .i64 8) s (by omega) s [] k [] rfl (by omega)
  obtain ⟨reg', h3⟩ := f83_end (callN Pt.env k) k reg (.str s) (.int .i64 8) (.int .u64 (bigN s)) (.int .i64 s.length) (.int .i64 s.length)
  refine callN_ret Pt.env _ k 83 _ Tryz.f83 (codeOf Tryz.f83) ⟨⟨243, [(0, .str s), (1, .int .i64 8), (4, .int .u64 (bigN s)), (6, .int .i64 s.length), (7, .int .i64 s.length)], reg'⟩, [], 19, []⟩ _ (by kernel_rfl) (by kernel_rfl) rfl (by kernel_rfl) ?_ rfl (by kernel_rfl)
  show runCode Pt.env (callN Pt.env k) k (.seq (subC [0] (codeOf Tryz.f83)) (.seq (.seq (subC [1, 0, 0] (codeOf Tryz.f83)) (.block 0 (.loop B83))) (subC [1, 1] (codeOf Tryz.f83)))) ⟨⟨243, [(0, .str s), (1, .int .i64 8)], []⟩, [], 19, []⟩ = _
  rw [f83_head, c_seq, c_seq, c_skip, t_normal, c_block, c_loop]
  rw [hs] at h2 h3
  have h2' : loopN 5 0 (runCode Pt.env (callN Pt.env k) k B83) k ⟨⟨243, [(0, .str s), (1, .int .i64 8), (4, .int .u64 0), (6, .int .i64 8), (7, .int .i64 0)], []⟩, [], 19, []⟩ = _ := h2
  show thenA (ob (loopN 5 0 (runCode Pt.env (callN Pt.env k) k B83) k ⟨⟨243, [(0, .str s), (1, .int .i64 8), (4, .int .u64 0), (6, .int .i64 8), (7, .int .i64 0)], []⟩, [], 19, []⟩) _) _ = _
  rw [h2', ob_some, hs]
  simp only [lv_exit, Nat.beq_refl, bc_true, t_normal]
  exact h3
end Go.Proofs
set_option linter.unusedSimpArgs false
namespace Go.Proofs
open Go Go.Pm Go.Proofs.Sum
set_option maxRecDepth 100000
theorem mm_min (k : IntKind) (a b : Int) : minmax false [.int k a, .int k b] = some (.int k (if b < a then b else a)) := by simp [minmax, minmaxFrom]
noncomputable def B140 : Code := subC [1, 0, 1, 0, 0] (codeOf Tryz.f140)
theorem mul7 (i : Nat) (hi : i < 10) : IntKind.wrap .i64 (7 * (i : Int)) = ((7 * i : Nat) : Int) := by
  have h : ∀ i : Fin 10, IntKind.wrap .i64 (7 * (i.1 : Int)) = ((7 * i.1 : Nat) : Int) := by decide
  exact h ⟨i, hi⟩
theorem conv5_25n (H : List ABlk) (n : Nat) (h : n < 256) : convertA Pt.env.ty 5 25 H (.int .u8 (n : Int)) = some (.int .u64 (n : Int), H) := by
  simp only [convertA, d5, d25, wrap_u64]
  rw [Nat.mod_eq_of_lt (by omega)]
theorem pow7 (i : Nat) : (2 : Nat) ^ (7 * i) = 128 ^ i := by rw [Nat.pow_mul]
theorem f140_more (call : CallT) (lf : Nat) (r0 : List (Nat × AV)) (s : List UInt8) (L : Int) (x i : Nat) (b : UInt8) (hb : s[i]? = some b) (hi : (i : Int) < L) (h9 : i < 9) (hx : x < 128 ^ i) (hb8 : 128 ≤ b.toNat) :
    ∃ v reg, runCode Pt.env call lf B140 ⟨⟨413, [(0, .str s), (2, .int .u64 x), (3, .int .i64 0), (7, .int .i64 L), (8, .int .i64 i)], r0⟩, [], 37, []⟩ =
      some (.normal, ⟨⟨413, [(0, .str s), (2, .int .u64 (x + (b.toNat % 128) * 128 ^ i : Nat)), (3, .int .i64 0), (7, .int .i64 L), (8, .int .i64 (i + 1 : Nat)), (4, v)], reg⟩, [], 37, []⟩) := by
  have h1 : decide ((i : Int) < L) = true := by simp; omega
  have hbl := b.toNat_lt
  have h0 := and_u8 b.toNat 127 (by omega) (by omega)
  rw [and127] at h0
  have hp : 2 ^ (7 * i) ≤ 2 ^ 56 := Nat.pow_le_pow_right (by omega) (by omega)
  have hp2 : (b.toNat % 128) * 2 ^ (7 * i) ≤ 127 * 2 ^ 56 := Nat.mul_le_mul (by omega) hp
  have h2 := shl_nat (b.toNat % 128) (7 * i) (by omega) (by omega)
  have hx' : x < 2 ^ (7 * i) := by rw [pow7]; exact hx
  have h3 := or_u64 x (b.toNat % 128 * 2 ^ (7 * i)) (by omega) (by omega)
  rw [or_add x (b.toNat % 128) (7 * i) hx'] at h3
  rw [pow7] at h2 h3
  have hj0 : decide (((7 * i : Nat) : Int) < 0) = false := by simp; omega
  have h128 : decide ((b.toNat : Int) < 128) = false := by simp; omega
  rw [show ((127 : Nat) : Int) = 127 from rfl] at h0
  have hc : ∀ H, convertA Pt.env.ty 5 25 H (.int .u8 ((b.toNat % 128 : Nat) : Int)) = _ := fun H => conv5_25n H (b.toNat % 128) (by omega)
  dsimp only [B140, codeOf, Tryz.f140, subC, bc, Nat.beq]
  simp (disch := decide) only [c_seq, c_cond, c_block, c_exit, c_skip, c_ret, c_region, o_cons, o_guard, o_nil, sg_true, sg_false, t_normal, t_exit, t_ret, lv_ret, lv_normal, lv_exit, w_move, w_assign, w_bin, w_conv, w_build, w_call, w_pick, w_alloc, w_box, w_agg, w_load, w_store, w_nil, w_un, w_iface, w_func, w_slice, w_faddr, w_field, w_iaddr, w_index, w_extract, e_loc, e_reg, e_const, e_func, e_glob, g_hit, g_miss, p_hit, p_miss, p_nil, s_done, s_go, s_put_loc, s_put_reg, s_put_none, s_back, okV, okH, ob_some, cond_bool, bc_true, bc_false, v_int, v_bool, v_str, v_nil, oBin, oConv, oBuildSlice, oUn, oLoad, oStore, oFieldAddr, oIndexAddr, oIndex, oSlice, oExtract, oPick, oAlloc, oBox, oNil, oBuild, stepC, s_call, oBuiltin, oLen, oAppend, optV_none, optV_some, parts_nil, parts_cons, vals_nil, vals_cons, b_lss, b_add, b_mul, b_and, b_or, b_shl _ _ _ _ _ _ _ hj0, h0, h1, h2, h3, h128, index9 s i b hb, hc, mul7 i (by omega), add1' i (by omega)]
  exact ⟨_, _, rfl⟩
theorem f140_last (call : CallT) (lf : Nat) (r0 : List (Nat × AV)) (s : List UInt8) (L : Int) (x i : Nat) (b : UInt8) (hb : s[i]? = some b) (hi : (i : Int) < L) (h9 : i < 9 ∨ i = 9 ∧ b.toNat ≤ 1) (hx : x < 128 ^ i) (hb8 : b.toNat < 128) :
    ∃ v reg, runCode Pt.env call lf B140 ⟨⟨413, [(0, .str s), (2, .int .u64 x), (3, .int .i64 0), (7, .int .i64 L), (8, .int .i64 i)], r0⟩, [], 37, []⟩ =
      some (.ret, ⟨⟨413, [(0, .str s), (2, .int .u64 (x + b.toNat * 128 ^ i : Nat)), (3, .int .i64 (i + 1 : Nat)), (7, .int .i64 L), (8, .int .i64 i), (4, v)], reg⟩, [], 37, []⟩) := by
  have h1 : decide ((i : Int) < L) = true := by simp; omega
  have h0 := and_u8 b.toNat 127 (by omega) (by omega)
  rw [and127, Nat.mod_eq_of_lt hb8] at h0
  have hp2 : b.toNat * 2 ^ (7 * i) < 18446744073709551616 := by
    rcases h9 with h | ⟨rfl, h⟩
    · have hp : 2 ^ (7 * i) ≤ 2 ^ 56 := Nat.pow_le_pow_right (by omega) (by omega)
      have := Nat.mul_le_mul (show b.toNat ≤ 127 from by omega) hp
      omega
    · have := Nat.mul_le_mul_right (2 ^ (7 * 9)) h
      omega
  have h2 := shl_nat b.toNat (7 * i) (by omega) (by omega)
  have hx' : x < 2 ^ (7 * i) := by rw [pow7]; exact hx
  have hp1 : 2 ^ (7 * i) ≤ 2 ^ 63 := Nat.pow_le_pow_right (by omega) (by omega)
  have h3 := or_u64 x (b.toNat * 2 ^ (7 * i)) (by omega) (by omega)
  rw [or_add x b.toNat (7 * i) hx'] at h3
  rw [pow7] at h2 h3
  have hj0 : decide (((7 * i : Nat) : Int) < 0) = false := by simp; omega
  have h128 : decide ((b.toNat : Int) < 128) = true := by simp; omega
  rw [show ((127 : Nat) : Int) = 127 from rfl] at h0
  rcases h9 with h9 | ⟨rfl, hb1⟩
  · have h5 : ((i : Int) == 9) = false := by simp; omega
    dsimp only [B140, codeOf, Tryz.f140, subC, bc, Nat.beq]
    simp (disch := decide) only [c_seq, c_cond, c_block, c_exit, c_skip, c_ret, c_region, o_cons, o_guard, o_nil, sg_true, sg_false, t_normal, t_exit, t_ret, lv_ret, lv_normal, lv_exit, w_move, w_assign, w_bin, w_conv, w_build, w_call, w_pick, w_alloc, w_box, w_agg, w_load, w_store, w_nil, w_un, w_iface, w_func, w_slice, w_faddr, w_field, w_iaddr, w_index, w_extract, e_loc, e_reg, e_const, e_func, e_glob, g_hit, g_miss, p_hit, p_miss, p_nil, s_done, s_go, s_put_loc, s_put_reg, s_put_none, s_back, okV, okH, ob_some, cond_bool, bc_true, bc_false, v_int, v_bool, v_str, v_nil, oBin, oConv, oBuildSlice, oUn, oLoad, oStore, oFieldAddr, oIndexAddr, oIndex, oSlice, oExtract, oPick, oAlloc, oBox, oNil, oBuild, stepC, s_call, oBuiltin, oLen, oAppend, optV_none, optV_some, parts_nil, parts_cons, vals_nil, vals_cons, wg, wo_some, wv_bool, wv_undef, nth_zero, nth_succ, beq_tt, beq_ff, beq_tf, beq_ft, Bool.not_true, Bool.not_false, b_lss, b_add, b_mul, b_and, b_or, b_eql, b_shl _ _ _ _ _ _ _ hj0, h0, h1, h2, h3, h5, h128, index9 s i b hb, conv5_25, mul7 i (by omega), add1' i (by omega)]
    exact ⟨_, _, rfl⟩
  · have h5 : (((9 : Nat) : Int) == 9) = true := rfl
    have h6 : decide ((b.toNat : Int) > 1) = false := by simp; omega
    have h7 := mul7 9 (by omega)
    have h8 := add1' 9 (by omega)
    dsimp only [B140, codeOf, Tryz.f140, subC, bc, Nat.beq]
    simp (disch := decide) only [c_seq, c_cond, c_block, c_exit, c_skip, c_ret, c_region, o_cons, o_guard, o_nil, sg_true, sg_false, t_normal, t_exit, t_ret, lv_ret, lv_normal, lv_exit, w_move, w_assign, w_bin, w_conv, w_build, w_call, w_pick, w_alloc, w_box, w_agg, w_load, w_store, w_nil, w_un, w_iface, w_func, w_slice, w_faddr, w_field, w_iaddr, w_index, w_extract, e_loc, e_reg, e_const, e_func, e_glob, g_hit, g_miss, p_hit, p_miss, p_nil, s_done, s_go, s_put_loc, s_put_reg, s_put_none, s_back, okV, okH, ob_some, cond_bool, bc_true, bc_false, v_int, v_bool, v_str, v_nil, oBin, oConv, oBuildSlice, oUn, oLoad, oStore, oFieldAddr, oIndexAddr, oIndex, oSlice, oExtract, oPick, oAlloc, oBox, oNil, oBuild, stepC, s_call, oBuiltin, oLen, oAppend, optV_none, optV_some, parts_nil, parts_cons, vals_nil, vals_cons, wg, wo_some, wv_bool, wv_undef, nth_zero, nth_succ, beq_tt, beq_ff, beq_tf, beq_ft, Bool.not_true, Bool.not_false, b_lss, b_add, b_mul, b_and, b_or, b_eql, b_gtr, b_shl _ _ _ _ _ _ _ hj0, h0, h1, h2, h3, h5, h6, h128, index9 s 9 b hb, conv5_25, h7, h8]
    exact ⟨_, _, rfl⟩
theorem f140_loop (call : CallT) (lf : Nat) (s rest : List UInt8) (L : Int) (X : Nat) (hX : X < 18446744073709551616) : ∀ (f y i x k : Nat) (pre : List UInt8) (r0 : List (Nat × AV)), pre ++ vb f y ++ rest = s → pre.length = i → i + f = 9 → x < 128 ^ i → x + y * 128 ^ i = X → (i + (vb f y).length : Int) ≤ L → f < k → ∃ loc reg, loc.take 3 = [(0, .str s), (2, .int .u64 X), (3, .int .i64 (i + (vb f y).length : Nat))] ∧
    loopN 5 0 (runCode Pt.env call lf B140) k ⟨⟨413, [(0, .str s), (2, .int .u64 x), (3, .int .i64 0), (7, .int .i64 L), (8, .int .i64 i)], r0⟩, [], 37, []⟩ =
      some (.ret, ⟨⟨413, loc, reg⟩, [], 37, []⟩) := by
  intro f
  induction f with
  | zero =>
    intro y i x k pre r0 hp hpl hi hx hxy hL hk
    obtain ⟨k, rfl⟩ : ∃ j, k = j + 1 := ⟨k - 1, by omega⟩
    obtain rfl : i = 9 := by omega
    have hy : y ≤ 1 := by
      have : (128 : Nat) ^ 9 = 9223372036854775808 := by decide
      rw [this] at hxy hx
      omega
    have hb : s[9]? = some (UInt8.ofNat y) := by rw [← hp, ← hpl]; simp [vb]
    have hbn : (UInt8.ofNat y).toNat = y := by rw [UInt8.toNat_ofNat']; omega
    obtain ⟨v, reg, hr⟩ := f140_last call lf r0 s L x 9 _ hb (by simp [vb] at hL; omega) (.inr ⟨rfl, by omega⟩) hx (by omega)
    rw [hbn, hxy] at hr
    exact ⟨_, _, rfl, by rw [loopN_succ, hr, t_ret]⟩
  | succ f ih =>
    intro y i x k pre r0 hp hpl hi hx hxy hL hk
    obtain ⟨k, rfl⟩ : ∃ j, k = j + 1 := ⟨k - 1, by omega⟩
    by_cases hg : y > 127
    · have e : vb (f + 1) y = UInt8.ofNat (y % 128 + 128) :: vb f (y / 128) := by rw [vb, if_pos hg]
      have hb : s[i]? = some (UInt8.ofNat (y % 128 + 128)) := by rw [← hp, ← hpl, e]; simp
      have hbn : (UInt8.ofNat (y % 128 + 128)).toNat = y % 128 + 128 := by rw [UInt8.toNat_ofNat']; omega
      have hm : (y % 128 + 128) % 128 = y % 128 := by omega
      obtain ⟨v, reg, hr⟩ := f140_more call lf r0 s L x i _ hb (by rw [e] at hL; simp at hL; omega) (by omega) hx (by omega)
      rw [hbn, hm] at hr
      have hx2 : x + y % 128 * 128 ^ i < 128 ^ (i + 1) := by
        have h1 : y % 128 * 128 ^ i ≤ 127 * 128 ^ i := Nat.mul_le_mul_right _ (by omega)
        rw [Nat.pow_succ]; omega
      have hxy2 : x + y % 128 * 128 ^ i + y / 128 * 128 ^ (i + 1) = X := by
        rw [← hxy, Nat.pow_succ, Nat.add_assoc]
        congr 1
        rw [Nat.mul_comm (128 ^ i) 128, ← Nat.mul_assoc, ← Nat.add_mul]
        congr 1
        omega
      obtain ⟨loc, reg', h4, h2⟩ := ih (y / 128) (i + 1) (x + y % 128 * 128 ^ i) k (pre ++ [UInt8.ofNat (y % 128 + 128)]) [] (by rw [← hp, e]; simp) (by simp [hpl]) (by omega) hx2 hxy2 (by rw [e] at hL; simp at hL ⊢; omega) (by omega)
      refine ⟨loc, reg', ?_, ?_⟩
      · rw [h4, e, List.length_cons, show i + 1 + (vb f (y / 128)).length = i + ((vb f (y / 128)).length + 1) from by omega]
      · rw [loopN_succ, hr, t_normal]
        rw [show trim 5 0 _ = _ from trim0 413 5 _ reg 37 [] [], ob_some]
        exact h2
    · have e : vb (f + 1) y = [UInt8.ofNat y] := by rw [vb, if_neg hg]
      have hb : s[i]? = some (UInt8.ofNat y) := by rw [← hp, ← hpl, e]; simp
      have hbn : (UInt8.ofNat y).toNat = y := by rw [UInt8.toNat_ofNat']; omega
      obtain ⟨v, reg, hr⟩ := f140_last call lf r0 s L x i _ hb (by rw [e] at hL; simp at hL; omega) (.inl (by omega)) hx (by omega)
      rw [hbn, hxy] at hr
      exact ⟨[(0, .str s), (2, .int .u64 X), (3, .int .i64 (i + 1 : Nat)), (7, .int .i64 L), (8, .int .i64 i), (4, v)], reg, by rw [e]; rfl, by rw [loopN_succ, hr, t_ret]⟩
theorem f140_head (call : CallT) (lf : Nat) (s : List UInt8) (a b : Code) : runCode Pt.env call lf (.seq (subC [0] (codeOf Tryz.f140)) (.seq (.seq (subC [1, 0, 0] (codeOf Tryz.f140)) a) b)) ⟨⟨413, [(0, .str s)], []⟩, [], 37, []⟩ =
    runCode Pt.env call lf (.seq (.seq .skip a) b) ⟨⟨413, [(0, .str s), (2, .int .u64 0), (3, .int .i64 0), (7, .int .i64 (if (10 : Int) < s.length then 10 else s.length)), (8, .int .i64 0)], [(6, .int .i64 s.length), (5, .str s)]⟩, [], 37, []⟩ := by
  dsimp only [codeOf, Tryz.f140, subC, bc, Nat.beq]
  simp (disch := decide) only [c_seq, c_cond, c_block, c_exit, c_skip, c_ret, c_region, o_cons, o_guard, o_nil, sg_true, sg_false, t_normal, t_exit, t_ret, lv_ret, lv_normal, lv_exit, w_move, w_assign, w_bin, w_conv, w_build, w_call, w_pick, w_alloc, w_box, w_agg, w_load, w_store, w_nil, w_un, w_iface, w_func, w_slice, w_faddr, w_field, w_iaddr, w_index, w_extract, e_loc, e_reg, e_const, e_func, e_glob, g_hit, g_miss, p_hit, p_miss, p_nil, s_done, s_go, s_put_loc, s_put_reg, s_put_none, s_back, okV, okH, ob_some, cond_bool, bc_true, bc_false, v_int, v_bool, v_str, v_nil, oBin, oConv, oBuildSlice, oUn, oLoad, oStore, oFieldAddr, oIndexAddr, oIndex, oSlice, oExtract, oPick, oAlloc, oBox, oNil, oBuild, stepC, s_call, oBuiltin, oLen, oAppend, optV_none, optV_some, parts_nil, parts_cons, vals_nil, vals_cons, len9', mm_min]
theorem f140_fin (s : List UInt8) (x y : Int) (l reg : List (Nat × AV)) : finishA Pt.env Tryz.f140 ⟨⟨413, (0, .str s) :: (2, .int .u64 x) :: (3, .int .i64 y) :: l, reg⟩, [], 37, []⟩ [] = some (.ret (.tuple [.int .u64 x, .int .i64 y]), []) := by kernel_rfl
theorem f140_ok (k : Nat) (hk : 12 < k) (X : Nat) (hX : X < 18446744073709551616) (rest : List UInt8) : callN Pt.env (k + 1) 140 [.str (vb 9 X ++ rest)] [] = some (.ret (.tuple [.int .u64 X, .int .i64 (vb 9 X).length]), []) := by
  have hvl := vb_length 9 X
  obtain ⟨loc, reg, h4, h2⟩ := f140_loop (callN Pt.env k) k (vb 9 X ++ rest) rest (if (10 : Int) < (vb 9 X ++ rest).length then 10 else (vb 9 X ++ rest).length) X hX 9 X 0 0 k [] [(6, .int .i64 (vb 9 X ++ rest).length), (5, .str (vb 9 X ++ rest))] rfl rfl (by omega) (by simp) (by simp) (by
    split
    · omega
    · simp only [List.length_append]; omega) (by omega)
  refine callN_ret Pt.env _ k 140 _ Tryz.f140 (codeOf Tryz.f140) ⟨⟨413, loc, reg⟩, [], 37, []⟩ _ (by kernel_rfl) (by kernel_rfl) rfl (by kernel_rfl) ?_ rfl ?_
  · show runCode Pt.env (callN Pt.env k) k (.seq (subC [0] (codeOf Tryz.f140)) (.seq (.seq (subC [1, 0, 0] (codeOf Tryz.f140)) (.block 0 (.loop B140))) (subC [1, 1] (codeOf Tryz.f140)))) ⟨⟨413, [(0, .str (vb 9 X ++ rest))], []⟩, [], 37, []⟩ = _
    rw [f140_head, c_seq, c_seq, c_skip, t_normal, c_block, c_loop]
    have h2' : loopN 5 0 (runCode Pt.env (callN Pt.env k) k B140) k ⟨⟨413, [(0, .str (vb 9 X ++ rest)), (2, .int .u64 0), (3, .int .i64 0), (7, .int .i64 (if (10 : Int) < (vb 9 X ++ rest).length then 10 else (vb 9 X ++ rest).length)), (8, .int .i64 0)], [(6, .int .i64 (vb 9 X ++ rest).length), (5, .str (vb 9 X ++ rest))]⟩, [], 37, []⟩ = _ := h2
    show thenA (ob (loopN 5 0 (runCode Pt.env (callN Pt.env k) k B140) k ⟨⟨413, [(0, .str (vb 9 X ++ rest)), (2, .int .u64 0), (3, .int .i64 0), (7, .int .i64 (if (10 : Int) < (vb 9 X ++ rest).length then 10 else (vb 9 X ++ rest).length)), (8, .int .i64 0)], [(6, .int .i64 (vb 9 X ++ rest).length), (5, .str (vb 9 X ++ rest))]⟩, [], 37, []⟩) _) _ = _
    rw [h2', ob_some, lv_ret, t_ret]
  · rw [Nat.zero_add] at h4
    match loc, h4 with
    | [], h4 => simp at h4
    | [_], h4 => simp at h4
    | [_, _], h4 => simp at h4
    | a :: b :: c :: l, h4 =>
      simp only [List.take_succ_cons, List.take_zero, List.cons.injEq, and_true] at h4
      obtain ⟨rfl, rfl, rfl⟩ := h4
      exact f140_fin _ _ _ l reg
end Go.Proofs
