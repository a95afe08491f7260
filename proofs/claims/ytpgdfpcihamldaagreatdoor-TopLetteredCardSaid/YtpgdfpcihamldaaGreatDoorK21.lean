/-
envelope.Pack.
envelope.Pack of a letter, and of what is none.
-/
import Derived.Test.YtpgdfpcihamldaaGreatDoorK20
import Derived.Test.YtpgdfpcihamldaaGreatDoorK17
import Derived.Test.YtpgdfpcihamldaaGreatDoorK19
set_option linter.unusedSimpArgs false
namespace Go.Proofs
open Go Go.Pm Go.Proofs.Sum
set_option maxRecDepth 100000
theorem melt_lc (kd fr to sq : Int) (key : List UInt8) (pr : Int) (sv md : List UInt8) (cd : Int) (bd : List UInt8) : AV.melt (.agg (lc kd fr to sq key pr sv md cd bd)) = .agg (lc kd fr to sq key pr sv md cd bd) := by kernel_rfl
theorem own72 : Pt.env.owns 72 = false := by kernel_rfl
theorem own77 : Pt.env.owns 77 = false := by kernel_rfl
theorem byte3 (a b c : UInt8) : buildSliceA Pt.env.ty 22 3 [(0, .int .u8 (a.toNat : Int)), (1, .int .u8 (b.toNat : Int)), (2, .int .u8 (c.toNat : Int))] = some (sS false [a, b, c]) := by kernel_rfl
theorem conv3_5 (H : List ABlk) (a : UInt8) : convertA Pt.env.ty 3 5 H (.int .i64 (a.toNat : Int)) = some (.int .u8 (a.toNat : Int), H) := by
  have d3 : descT Pt.env.ty 3 = some (.int .i64) := by kernel_rfl
  have h := a.toNat_lt
  simp only [convertA, d3, d5, wrap_u8]
  rw [Nat.mod_eq_of_lt (by omega)]
theorem conv150_25 (H : List ABlk) (c : BitVec 32) : convertA Pt.env.ty 150 25 H (.int .u32 (c.toNat : Int)) = some (.int .u64 (c.toNat : Int), H) := by
  have h := c.isLt
  simp only [convertA, d150, d25, wrap_u64]
  rw [Nat.mod_eq_of_lt (by omega)]
theorem toStr1 (H : List ABlk) (s : List UInt8) : convertA Pt.env.ty 22 9 H (s1 s) = some (.str s, H) := toStr H _ s _ rfl
theorem leads_own1 (B : ABlk) (n : Nat) (bs : List UInt8) (rest : List AV) (h : refsL rest = []) : leads [B, .owner n 1] (s1 bs :: rest) = [1] := by
  unfold leads
  rw [show refsL (s1 bs :: rest) = [1] from refs_own 1 _ _ rest h]; rfl
theorem leads_newS (B : ABlk) (bs : List UInt8) (rest : List AV) (h : refsL rest = []) : leads [B] (sS false bs :: rest) = [] := by
  apply leads_bare
  show refsL rest = []
  exact h
theorem lo1 (B : ABlk) (n : Nat) (bs s : List UInt8) : leads [B, .owner n 1] [s1 bs, .str s] = [1] := leads_own1 B n bs _ rfl
theorem lo2 (B : ABlk) (n : Nat) (bs : List UInt8) (x : Int) : leads [B, .owner n 1] [s1 bs, .int .u64 x] = [1] := leads_own1 B n bs _ rfl
theorem lo3 (B : ABlk) (bs : List UInt8) (x : Int) : leads [B] [sS false bs, .int .u64 x] = [] := leads_newS B bs _ rfl
theorem hd74 (l : List AV) : handed Pt.env 74 l = l := nr rfl
theorem hd73 (l : List AV) : handed Pt.env 73 l = l := nr rfl
theorem z3 : sizeT Pt.env.ty 3 = some 1 := by kernel_rfl
theorem z9 : sizeT Pt.env.ty 9 = some 1 := by kernel_rfl
theorem z25 : sizeT Pt.env.ty 25 = some 1 := by kernel_rfl
theorem allOf_nil : allOf [] = [] := nr rfl
theorem allOf_one (r : Nat) : allOf [r] = [(r, 0, far)] := nr rfl
/-- The letter's bytes ahead of the sum. -/
def pk (a f t : UInt8) (sq : Nat) (key : List UInt8) (pr : Nat) (sv md : List UInt8) (cd : Nat) (bd : List UInt8) : List UInt8 :=
  [a, f, t] ++ vb 9 sq ++ vb 9 key.length ++ key ++ big 8 pr ++ vb 9 sv.length ++ sv ++ vb 9 md.length ++ md ++ vb 9 cd ++ vb 9 bd.length ++ bd
theorem m27 : Pt.env.mask 27 = 31 := by kernel_rfl
section
variable (call : CallT) (lf : Nat) (a f t : UInt8) (sq pr cd : Nat) (key sv md bd : List UInt8)
theorem f27_run (B : ABlk) (hB : B = .cells (lc a.toNat f.toNat t.toNat sq key pr sv md cd bd))
    (b1 b2 b3 b4 b5 b6 b7 b8 : List UInt8) (sm : BitVec 32) (hcd : cd < 18446744073709551616)
    (h72 : callAt call 72 [.agg (lc a.toNat f.toNat t.toNat sq key pr sv md cd bd)] [B] = some (.ret (.bool true), [B]))
    (h1 : callAt call 74 [sS false [a, f, t], .int .u64 sq] [B] = some (.ret (s1 b1), [B, .owner b1.length 1]))
    (h2 : callAt call 73 [s1 b1, .str key] [B, .owner b1.length 1] = some (.ret (s1 b2), [B, .owner b2.length 1]))
    (h3 : callAt call 75 [s1 b2, .int .u64 pr, .int .i64 8] [B, .owner b2.length 1] = some (.ret (s1 b3), [B, .owner b3.length 1]))
    (h4 : callAt call 73 [s1 b3, .str sv] [B, .owner b3.length 1] = some (.ret (s1 b4), [B, .owner b4.length 1]))
    (h5 : callAt call 73 [s1 b4, .str md] [B, .owner b4.length 1] = some (.ret (s1 b5), [B, .owner b5.length 1]))
    (h6 : callAt call 74 [s1 b5, .int .u64 cd] [B, .owner b5.length 1] = some (.ret (s1 b6), [B, .owner b6.length 1]))
    (h7 : callAt call 73 [s1 b6, .str bd] [B, .owner b6.length 1] = some (.ret (s1 b7), [B, .owner b7.length 1]))
    (h77 : callAt call 77 [.str b7] [B, .owner b7.length 1] = some (.ret (.int .u32 (sm.toNat : Nat)), [B, .owner b7.length 1]))
    (h8 : callAt call 76 [s1 b7, .int .u64 (sm.toNat : Nat), .int .i64 4] [B, .owner b7.length 1] = some (.ret (s1 b8), [B, .owner b8.length 1])) :
    ∃ st, runCode Pt.env call lf (codeOf Tryz.f27) ⟨⟨Pt.env.mask 27, [(0, .agg (lc a.toNat f.toNat t.toNat sq key pr sv md cd bd))], []⟩, [], 50, []⟩ = some (.ret, st) ∧ st.defers = [] ∧ finishA Pt.env Tryz.f27 st st.heap = some (.ret (.tuple [.str b8, .int .i64 0]), st.heap) := by
  subst hB
  have hcv (H : List ABlk) := conv3_25 H cd hcd
  rw [m27]
  dsimp only [codeOf, Tryz.f27]
  simp (disch := decide) only [c_seq, c_cond, c_block, c_exit, c_skip, c_ret, c_region, o_cons, o_guard, o_nil, sg_true, sg_false, t_normal, t_exit, t_ret, lv_ret, lv_normal, lv_exit, w_move, w_assign, w_bin, w_conv, w_build, w_call, w_pick, w_alloc, w_box, w_agg, w_load, w_store, w_nil, w_un, w_iface, w_func, w_slice, w_faddr, w_field, w_iaddr, w_index, w_extract, e_loc, e_reg, e_const, e_func, e_glob, g_hit, g_miss, p_hit, p_miss, p_nil, s_done, s_go, s_put_loc, s_put_reg, s_put_none, s_back, okV, okH, ob_some, cond_bool, bc_true, bc_false, v_int, v_bool, v_str, v_nil, oBin, oConv, oBuildSlice, oUn, oLoad, oStore, oFieldAddr, oIndexAddr, oIndex, oSlice, oExtract, oPick, oAlloc, oBox, oNil, oBuild, stepC, s_call, oBuiltin, oLen, oAppend, optV_none, optV_some, parts_nil, parts_cons, vals_nil, vals_cons, ld0_kd, ld0_fr, ld0_to, ld0_sq, ld0_key, ld0_pr, ld0_sv, ld0_md, ld0_cd, ld0_bd, ld0_28, fo28_0, fo28_1, fo28_2, fo28_3, fo28_4, fo28_5, fo28_6, fo28_7, fo28_8, fo28_9, a_ref, cellsA, u_not, Nat.zero_add, own72, own73, own74, own75, own76, own77, List.append_nil, List.nil_append, List.map_cons, List.map_nil, melt_int, melt_str, melt_lc, List.length_nil, h72, h1, h2, h3, h4, h5, h6, h7, h77, h8, hcv, Bool.not_true,
    conv3_5, conv150_25, byte3, toStr1, c_draw, d_cons, d_nil, ko_move, ko_faddr, ko_load, ko_call, ko_assign, ko_conv, kc_int, kf_call, dk_plain, dk_read0, dk_write0, dk_read, dk_write, tn_normal, lf_ref, z3, z9, z25, span_lit, readK_lit, lo1, lo2, lo3, hd74, hd73, allOf_nil, allOf_one]
  exact ⟨_, rfl, rfl, by kernel_rfl⟩
end
end Go.Proofs
set_option linter.unusedSimpArgs false
namespace Go.Proofs
open Go Go.Pm Go.Proofs.Sum
set_option maxRecDepth 100000
def nameP (s : List UInt8) : Prop := s = [83] ∨ s = [116] ∨ s = [116, 97, 107, 101, 95, 49]
structure LOk (a f t : UInt8) (sq : Nat) (key : List UInt8) (pr : Nat) (sv md : List UInt8) (cd : Nat) (bd : List UInt8) : Prop where
  hf : f.toNat < 4
  ht : t.toNat < 4
  hsq : sq < 18446744073709551616
  hk1 : 1 ≤ key.length
  hk2 : key.length ≤ 64
  hpr : pr < 18446744073709551616
  hb : bd.length ≤ 400
  hcd : cd ≤ 999
  hk : ((a = 1 ∨ a = 3 ∧ bd = []) ∧ nameP sv ∧ nameP md ∧ cd = 0) ∨ ((a = 2 ∨ a = 4) ∧ sv = [] ∧ md = [])
theorem name_ok (k : Nat) (hk : 60 ≤ k) (s : List UInt8) (h : nameP s) (H : List ABlk) : callAt (callN Pt.env k) 127 [.str s] H = some (.ret (.bool true), H) := by
  obtain ⟨k, rfl⟩ : ∃ j, k = j + 60 := ⟨k - 60, by omega⟩
  have ht : isTrue (callN Pt.env (k + 60) 127 [.str s] []) = true := by
    rcases h with rfl | rfl | rfl
    · exact name_S k
    · exact name_t k
    · exact name_take k
  obtain ⟨H1, h1⟩ := isTrue_some ht
  exact callAt_bare _ 127 _ H H1 _ rfl h1 rfl
theorem peer_ok (k : Nat) (hk : 1 ≤ k) (n : Nat) (hn : n < 4) (H : List ABlk) : callAt (callN Pt.env k) 138 [.int .i64 n] H = some (.ret (.bool true), H) := by
  obtain ⟨k, rfl⟩ : ∃ j, k = j + 1 := ⟨k - 1, by omega⟩
  exact callAt_bare _ 138 _ H [] _ rfl (f138_ok k n hn) rfl
theorem peer_bad (k : Nat) (hk : 1 ≤ k) (H : List ABlk) : callAt (callN Pt.env k) 138 [.int .i64 4] H = some (.ret (.bool false), H) := by
  obtain ⟨k, rfl⟩ : ∃ j, k = j + 1 := ⟨k - 1, by omega⟩
  exact callAt_bare _ 138 _ H [] _ rfl (f138_four k) rfl
section
variable (a f t : UInt8) (sq : Nat) (key : List UInt8) (pr : Nat) (sv md : List UInt8) (cd : Nat) (bd : List UInt8)
theorem refs_lc (kd fr to sq : Int) (key : List UInt8) (pr : Int) (sv md : List UInt8) (cd : Int) (bd : List UInt8) : refsL [.agg (lc kd fr to sq key pr sv md cd bd)] = [] := by kernel_rfl
theorem right_ok (k : Nat) (hk : 61 ≤ k) (L : LOk a f t sq key pr sv md cd bd) (H : List ABlk) :
    callAt (callN Pt.env k) 72 [.agg (lc a.toNat f.toNat t.toNat sq key pr sv md cd bd)] H = some (.ret (.bool true), H) := by
  obtain ⟨k, rfl⟩ : ∃ j, k = j + 1 := ⟨k - 1, by omega⟩
  have hp := fun H => peer_ok k (by omega) f.toNat L.hf H
  have hq := fun H => peer_ok k (by omega) t.toNat L.ht H
  have hb : bd.length ≤ 4096 := by have := L.hb; omega
  have : ∃ st, runCode Pt.env (callN Pt.env k) k (codeOf Tryz.f72) ⟨⟨Pt.env.mask 72, [(0, .agg (lc a.toNat f.toNat t.toNat sq key pr sv md cd bd))], []⟩, [], 80, []⟩ = some (.ret, st) ∧ st.defers = [] ∧ finishA Pt.env Tryz.f72 st st.heap = some (.ret (.bool true), st.heap) := by
    rcases L.hk with ⟨ha, hs, hm, rfl⟩ | ⟨ha, rfl, rfl⟩
    · rcases ha with rfl | ⟨rfl, rfl⟩
      · exact f72_1 _ _ f.toNat t.toNat sq pr key sv md bd hp hq L.hk1 L.hk2 hb (name_ok k (by omega) sv hs) (name_ok k (by omega) md hm)
      · exact f72_3 _ _ f.toNat t.toNat sq pr key sv md hp hq L.hk1 L.hk2 (name_ok k (by omega) sv hs) (name_ok k (by omega) md hm)
    · rcases ha with rfl | rfl
      · exact f72_2 _ _ f.toNat t.toNat sq pr cd key bd hp hq L.hk1 L.hk2 hb (by omega) (by have := L.hcd; omega)
      · exact f72_4 _ _ f.toNat t.toNat sq pr cd key bd hp hq L.hk1 L.hk2 hb (by omega) (by have := L.hcd; omega)
  obtain ⟨st, h1, h2, h3⟩ := this
  exact callAt_bare _ 72 _ H st.heap _ (refs_lc ..) (callN_ret Pt.env _ k 72 _ Tryz.f72 (codeOf Tryz.f72) st _ (by kernel_rfl) (by kernel_rfl) rfl (by kernel_rfl) h1 h2 h3) rfl
theorem right_bad (k : Nat) (hk : 2 ≤ k) (kd sq pr cd : Int) (hf : f.toNat < 4) (H : List ABlk) :
    callAt (callN Pt.env k) 72 [.agg (lc kd f.toNat 4 sq key pr sv md cd bd)] H = some (.ret (.bool false), H) := by
  obtain ⟨k, rfl⟩ : ∃ j, k = j + 1 := ⟨k - 1, by omega⟩
  obtain ⟨st, h1, h2, h3⟩ := f72_bad (callN Pt.env k) k f.toNat sq pr cd key sv md bd kd (fun H => peer_ok k (by omega) f.toNat hf H) (fun H => peer_bad k (by omega) H)
  exact callAt_bare _ 72 _ H st.heap _ (refs_lc ..) (callN_ret Pt.env _ k 72 _ Tryz.f72 (codeOf Tryz.f72) st _ (by kernel_rfl) (by kernel_rfl) rfl (by kernel_rfl) h1 h2 h3) rfl
theorem lit_four (c : BitVec 32) : lit 0 4 c.toNat = four c := by
  simp only [lit, four, byteAt]
theorem pk_length : (pk a f t sq key pr sv md cd bd).length ≤ 3 + 10 + 10 + key.length + 8 + 10 + sv.length + 10 + md.length + 10 + 10 + bd.length := by
  have h1 := vb_length 9 sq
  have h2 := vb_length 9 key.length
  have h3 := vb_length 9 sv.length
  have h4 := vb_length 9 md.length
  have h5 := vb_length 9 cd
  have h6 := vb_length 9 bd.length
  simp only [pk, List.length_append, List.length_cons, List.length_nil, big_length]
  omega
theorem name_length (s : List UInt8) (h : nameP s) : s.length ≤ 6 := by
  rcases h with rfl | rfl | rfl <;> decide
theorem LOk.len (L : LOk a f t sq key pr sv md cd bd) : (pk a f t sq key pr sv md cd bd).length ≤ 560 := by
  have h := pk_length a f t sq key pr sv md cd bd
  have hs : sv.length ≤ 6 ∧ md.length ≤ 6 := by
    rcases L.hk with ⟨_, hs, hm, _⟩ | ⟨_, rfl, rfl⟩
    · exact ⟨name_length sv hs, name_length md hm⟩
    · simp
  have := L.hk2
  have := L.hb
  omega
theorem m27' : Pt.env.mask 27 = 31 := m27
theorem pack_ok (k : Nat) (hk : 700 ≤ k) (L : LOk a f t sq key pr sv md cd bd) (H : List ABlk) :
    callAt (callN Pt.env k) 27 [.agg (lc a.toNat f.toNat t.toNat sq key pr sv md cd bd)] H = some (.ret (.tuple [.str (pk a f t sq key pr sv md cd bd ++ four (Sum.sum (pk a f t sq key pr sv md cd bd))), .int .i64 0]), H) := by
  obtain ⟨k, rfl⟩ : ∃ j, k = j + 1 := ⟨k - 1, by omega⟩
  obtain ⟨k, rfl⟩ : ∃ j, k = j + 1 := ⟨k - 1, by omega⟩
  have hlen := L.len
  have hl : ∀ x : List UInt8, x.length ≤ (pk a f t sq key pr sv md cd bd).length → x.length < 900000000 := fun x hx => by omega
  let B : ABlk := .cells (lc a.toNat f.toNat t.toNat sq key pr sv md cd bd)
  have e1 := callAt_new1 (callN Pt.env (k + 1)) 74 B [a, f, t] _ [.int .u64 sq] rfl (f74_ok k (by omega) false [a, f, t] (by simp) sq L.hsq)
  have n1 : ([a, f, t] ++ vb 9 sq).length < 900000000 := hl _ (by simp only [pk, List.length_append]; omega)
  have e2 := callAt_own1 (callN Pt.env (k + 1)) 73 B ([a, f, t] ++ vb 9 sq) _ [.str key] rfl (f73_ok k (by omega) _ key (by have := L.hk2; omega) n1)
  have n2 : ([a, f, t] ++ vb 9 sq ++ vb 9 key.length ++ key).length < 900000000 := hl _ (by simp only [pk, List.length_append]; omega)
  have e3 := callAt_own1 (callN Pt.env (k + 1)) 75 B ([a, f, t] ++ vb 9 sq ++ vb 9 key.length ++ key) _ [.int .u64 pr, .int .i64 8] rfl (f75_ok k (by omega) _ (by omega) pr)
  have n3 : ([a, f, t] ++ vb 9 sq ++ vb 9 key.length ++ key ++ big 8 pr).length < 900000000 := hl _ (by simp only [pk, List.length_append]; omega)
  have e4 := callAt_own1 (callN Pt.env (k + 1)) 73 B ([a, f, t] ++ vb 9 sq ++ vb 9 key.length ++ key ++ big 8 pr) _ [.str sv] rfl (f73_ok k (by omega) _ sv (by
    rcases L.hk with ⟨_, hs, _⟩ | ⟨_, rfl, _⟩
    · have := name_length sv hs; omega
    · simp) n3)
  have n4 : ([a, f, t] ++ vb 9 sq ++ vb 9 key.length ++ key ++ big 8 pr ++ vb 9 sv.length ++ sv).length < 900000000 := hl _ (by simp only [pk, List.length_append]; omega)
  have e5 := callAt_own1 (callN Pt.env (k + 1)) 73 B ([a, f, t] ++ vb 9 sq ++ vb 9 key.length ++ key ++ big 8 pr ++ vb 9 sv.length ++ sv) _ [.str md] rfl (f73_ok k (by omega) _ md (by
    rcases L.hk with ⟨_, _, hm, _⟩ | ⟨_, _, rfl⟩
    · have := name_length md hm; omega
    · simp) n4)
  have n5 : ([a, f, t] ++ vb 9 sq ++ vb 9 key.length ++ key ++ big 8 pr ++ vb 9 sv.length ++ sv ++ vb 9 md.length ++ md).length < 900000000 := hl _ (by simp only [pk, List.length_append]; omega)
  have e6 := callAt_own1 (callN Pt.env (k + 1)) 74 B ([a, f, t] ++ vb 9 sq ++ vb 9 key.length ++ key ++ big 8 pr ++ vb 9 sv.length ++ sv ++ vb 9 md.length ++ md) _ [.int .u64 cd] rfl (f74_ok k (by omega) true _ (by omega) cd (by have := L.hcd; omega))
  have n6 : ([a, f, t] ++ vb 9 sq ++ vb 9 key.length ++ key ++ big 8 pr ++ vb 9 sv.length ++ sv ++ vb 9 md.length ++ md ++ vb 9 cd).length < 900000000 := hl _ (by simp only [pk, List.length_append]; omega)
  have e7 := callAt_own1 (callN Pt.env (k + 1)) 73 B ([a, f, t] ++ vb 9 sq ++ vb 9 key.length ++ key ++ big 8 pr ++ vb 9 sv.length ++ sv ++ vb 9 md.length ++ md ++ vb 9 cd) _ [.str bd] rfl (f73_ok k (by omega) _ bd (by have := L.hb; omega) n6)
  have e77 := callAt_bare (callN Pt.env (k + 1)) 77 [.str (pk a f t sq key pr sv md cd bd)] [B, .owner (pk a f t sq key pr sv md cd bd).length 1] _ _ rfl (f77_ok k _ (by omega) (by omega) (by omega)) rfl
  have e8 := callAt_own1 (callN Pt.env (k + 1)) 76 B (pk a f t sq key pr sv md cd bd) _ [.int .u64 ((Sum.sum (pk a f t sq key pr sv md cd bd)).toNat : Nat), .int .i64 4] rfl (f76_ok k (by omega) _ (by omega) _)
  rw [lit_four] at e8
  obtain ⟨st, h1, h2, h3⟩ := f27_run (callN Pt.env (k + 1)) (k + 1) a f t sq pr cd key sv md bd B rfl _ _ _ _ _ _ _ _ (Sum.sum (pk a f t sq key pr sv md cd bd)) (by have := L.hcd; omega) (right_ok a f t sq key pr sv md cd bd (k + 1) (by omega) L _) e1 e2 e3 e4 e5 e6 e7 e77 e8
  exact callAt_bare _ 27 _ H st.heap _ (refs_lc ..) (callN_ret Pt.env _ (k + 1) 27 _ Tryz.f27 (codeOf Tryz.f27) st _ (by kernel_rfl) (by kernel_rfl) rfl (by kernel_rfl) h1 h2 h3) rfl
theorem f27_bad (call : CallT) (lf : Nat) (kd fr to sq pr cd : Int) (h72 : ∀ H, callAt call 72 [.agg (lc kd fr to sq key pr sv md cd bd)] H = some (.ret (.bool false), H)) :
    ∃ st, runCode Pt.env call lf (codeOf Tryz.f27) ⟨⟨Pt.env.mask 27, [(0, .agg (lc kd fr to sq key pr sv md cd bd))], []⟩, [], 50, []⟩ = some (.ret, st) ∧ st.defers = [] ∧ finishA Pt.env Tryz.f27 st st.heap = some (.ret (.tuple [.str [], .int .i64 1]), st.heap) := by
  rw [m27]
  dsimp only [codeOf, Tryz.f27]
  simp (disch := decide) only [c_seq, c_cond, c_block, c_exit, c_skip, c_ret, c_region, o_cons, o_guard, o_nil, sg_true, sg_false, t_normal, t_exit, t_ret, lv_ret, lv_normal, lv_exit, w_move, w_assign, w_bin, w_conv, w_build, w_call, w_pick, w_alloc, w_box, w_agg, w_load, w_store, w_nil, w_un, w_iface, w_func, w_slice, w_faddr, w_field, w_iaddr, w_index, w_extract, e_loc, e_reg, e_const, e_func, e_glob, g_hit, g_miss, p_hit, p_miss, p_nil, s_done, s_go, s_put_loc, s_put_reg, s_put_none, s_back, okV, okH, ob_some, cond_bool, bc_true, bc_false, v_int, v_bool, v_str, v_nil, oBin, oConv, oBuildSlice, oUn, oLoad, oStore, oFieldAddr, oIndexAddr, oIndex, oSlice, oExtract, oPick, oAlloc, oBox, oNil, oBuild, stepC, s_call, oBuiltin, oLen, oAppend, optV_none, optV_some, parts_nil, parts_cons, vals_nil, vals_cons, ld0_kd, ld0_fr, ld0_to, ld0_sq, ld0_key, ld0_pr, ld0_sv, ld0_md, ld0_cd, ld0_bd, ld0_28, fo28_0, fo28_1, fo28_2, fo28_3, fo28_4, fo28_5, fo28_6, fo28_7, fo28_8, fo28_9, a_ref, cellsA, u_not, Nat.zero_add, own72, List.append_nil, List.nil_append, List.map_cons, List.map_nil, melt_lc, List.length_nil, h72, Bool.not_false]
  exact ⟨_, rfl, rfl, by kernel_rfl⟩
theorem pack_bad (k : Nat) (hk : 3 ≤ k) (kd sq pr cd : Int) (hf : f.toNat < 4) (H : List ABlk) :
    callAt (callN Pt.env k) 27 [.agg (lc kd f.toNat 4 sq key pr sv md cd bd)] H = some (.ret (.tuple [.str [], .int .i64 1]), H) := by
  obtain ⟨k, rfl⟩ : ∃ j, k = j + 1 := ⟨k - 1, by omega⟩
  obtain ⟨st, h1, h2, h3⟩ := f27_bad key sv md bd (callN Pt.env k) k kd f.toNat 4 sq pr cd (right_bad f key sv md bd k (by omega) kd sq pr cd hf)
  exact callAt_bare _ 27 _ H st.heap _ (refs_lc ..) (callN_ret Pt.env _ k 27 _ Tryz.f27 (codeOf Tryz.f27) st _ (by kernel_rfl) (by kernel_rfl) rfl (by kernel_rfl) h1 h2 h3) rfl
end
end Go.Proofs
