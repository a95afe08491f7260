/-
The plain machine at symbols, by 'simp': how each piece of code is taken.
redresstop.small at any number.
redresstop.small at any number: its loop.
The plain machine at symbols: the rest of the operations, calls, loops, and the ends of functions.
-/
import Derived.Test.YtpgdfpcihamldaaGreatDoorK02
namespace Go.Pm
open Go
/-- A step by computation, of which 'simp' keeps the proof. -/
theorem nr {α : Type _} {a b : α} (h : a = b) : a = b := h
section
variable (E : Env) (call : CallT) (lf : Nat) (m : Nat) (loc reg : List (Nat × AV)) (H : List ABlk) (n : Nat) (ds : List (FuncId × List AV)) (st : St)
theorem c_seq (a b : Code) : runCode E call lf (.seq a b) st = thenA (runCode E call lf a st) (runCode E call lf b) := nr rfl
theorem c_skip : runCode E call lf .skip st = some (.normal, st) := nr rfl
theorem c_ret : runCode E call lf .ret st = some (.ret, st) := nr rfl
theorem c_exit (i : Nat) : runCode E call lf (.exit i) st = some (.exit i, st) := nr rfl
theorem c_block (i : Nat) (c : Code) : runCode E call lf (.block i c) st = ob (runCode E call lf c st) fun p => some (leaveA i p.1, p.2) := nr rfl
theorem c_cond (x : Operand) (a b : Code) : runCode E call lf (.cond x a b) st = runCond (ev E st.tm x) (runCode E call lf a st) (runCode E call lf b st) := nr rfl
theorem c_region (i : Nat) (ops : List Oper) : runCode E call lf (.region i ⟨ops⟩ false) ⟨⟨m, loc, reg⟩, H, n, ds⟩ = runOps E call ⟨ops⟩ ops ⟨⟨m, loc, []⟩, H, n, ds⟩ := nr rfl
theorem o_nil (ops : Array Oper) : runOps E call ops [] st = some (.normal, st) := nr rfl
theorem o_cons (ops : Array Oper) (dst : Option Tmp) (op : Op) (ty : TypeId) (pos : String) (after : Array Edge) (l : List Oper) : runOps E call ops (⟨dst, op, ty, pos, after, none⟩ :: l) st = thenA (stepW E call dst op st) (runOps E call ops l) := nr rfl
theorem t_normal (k : St → StR) : thenA (some (.normal, st)) k = k st := nr rfl
theorem t_exit (i : Nat) (k : St → StR) : thenA (some (.exit i, st)) k = some (.exit i, st) := nr rfl
theorem t_ret (k : St → StR) : thenA (some (.ret, st)) k = some (.ret, st) := nr rfl
theorem cond_bool (b : Bool) (x y : StR) : runCond (some (.bool b)) x y = bc b x y := nr rfl
theorem s_done (dst : Option Tmp) (v : AV) (H' : List ABlk) : sDone st dst (some (v, H')) = goOn (st.put dst v H') := nr rfl
theorem s_go : goOn (some st) = some (.normal, st) := nr rfl
theorem s_put_loc (d : Nat) (v : AV) (H' : List ABlk) (h1 : Nat.ble (d + 1) n = true) (h2 : bit m d = true) : (⟨⟨m, loc, reg⟩, H, n, ds⟩ : St).put (some d) v H' = some ⟨⟨m, put loc d v, reg⟩, H', n, ds⟩ := by
  simp only [St.put, h1, Tm.put, h2]
theorem s_put_reg (d : Nat) (v : AV) (H' : List ABlk) (h1 : Nat.ble (d + 1) n = true) (h2 : bit m d = false) : (⟨⟨m, loc, reg⟩, H, n, ds⟩ : St).put (some d) v H' = some ⟨⟨m, loc, (d, v) :: reg⟩, H', n, ds⟩ := by
  simp only [St.put, h1, Tm.put, h2]
theorem s_put_none (v : AV) (H' : List ABlk) : st.put none v H' = some ⟨st.tm, H', st.n, st.defers⟩ := nr rfl
theorem g_hit (k : Nat) (v : AV) (l : List (Nat × AV)) (t : Nat) (h : Nat.beq k t = true) : Pm.get ((k, v) :: l) t = some v := by simp only [get_cons, h, bc_true]
theorem g_miss (k : Nat) (v : AV) (l : List (Nat × AV)) (t : Nat) (h : Nat.beq k t = false) : Pm.get ((k, v) :: l) t = Pm.get l t := by simp only [get_cons, h, bc_false]
theorem p_hit (k : Nat) (v u : AV) (l : List (Nat × AV)) (t : Nat) (h : Nat.beq k t = true) : Pm.put ((k, v) :: l) t u = (t, u) :: l := by simp only [put_cons, h, bc_true]
theorem p_miss (k : Nat) (v u : AV) (l : List (Nat × AV)) (t : Nat) (h : Nat.beq k t = false) : Pm.put ((k, v) :: l) t u = (k, v) :: Pm.put l t u := by simp only [put_cons, h, bc_false]
theorem e_loc (t : Nat) (h : bit m t = true) : ev E ⟨m, loc, reg⟩ (.tmp t) = Pm.get loc t := by
  show Tm.get ⟨m, loc, reg⟩ t = _
  simp only [Tm.get, h]
theorem e_reg (t : Nat) (h : bit m t = false) : ev E ⟨m, loc, reg⟩ (.tmp t) = Pm.get reg t := by
  show Tm.get ⟨m, loc, reg⟩ t = _
  simp only [Tm.get, h]
theorem e_const (T : Tm) (v : Value) : ev E T (.const v) = ofVal v := nr rfl
theorem w_move (dst : Option Tmp) (x : Operand) : stepW E call dst (.move x) st = sDone st dst (okV st.heap (ev E st.tm x)) := nr rfl
theorem w_assign (dst : Option Tmp) (x : Operand) : stepW E call dst (.assign x) st = sDone st dst (okV st.heap (ev E st.tm x)) := nr rfl
theorem w_bin (dst : Option Tmp) (op : BinOp) (t u : TypeId) (x y : Operand) : stepW E call dst (.binOp op t x y u) st = sDone st dst (oBin E.ty (ev E st.tm) st.heap op t x y) := nr rfl
theorem w_conv (dst : Option Tmp) (s d : TypeId) (x : Operand) : stepW E call dst (.convert s d x) st = sDone st dst (oConv E.ty (ev E st.tm) st.heap s d x) := nr rfl
theorem w_build (dst : Option Tmp) (t : TypeId) (k : Nat) (ps : Array (Nat × Operand)) : stepW E call dst (.buildSlice t k ps) st = sDone st dst (oBuildSlice E.ty (ev E st.tm) st.heap t k ps) := nr rfl
theorem w_call (dst : Option Tmp) (c : Call) : stepW E call dst (.call c) st = stepC E call dst st c := nr rfl
theorem parts_nil (ρ : Rho) : parts ρ [] = some [] := nr rfl
theorem parts_cons (ρ : Rho) (p : Nat × Operand) (l : List (Nat × Operand)) : parts ρ (p :: l) = ob (ρ p.2) fun v => ob (parts ρ l) fun l => some ((p.1, v) :: l) := nr rfl
theorem vals_nil (ρ : Rho) : vals ρ [] = some [] := nr rfl
theorem vals_cons (ρ : Rho) (x : Operand) (l : List Operand) : vals ρ (x :: l) = ob (ρ x) fun v => ob (vals ρ l) fun l => some (v :: l) := nr rfl
theorem v_int (k : IntKind) (i : Int) : ofVal (.int k i) = some (.int k i) := nr rfl
theorem v_bool (b : Bool) : ofVal (.bool b) = some (.bool b) := nr rfl
theorem v_str (a : Array UInt8) : ofVal (.string ⟨a⟩) = some (.str a.toList) := nr rfl
theorem v_nil : ofVal (.slice none 0 0) = some (.slice .nil 0 []) := nr rfl
theorem w_bin2 (dst : Option Tmp) (op : BinOp) (t u : TypeId) (x y : Operand) (a b v : AV) (h1 : ev E st.tm x = some a) (h2 : ev E st.tm y = some b) (h3 : binA E.ty op t (isCst x || isCst y) a b = some v) :
    stepW E call dst (.binOp op t x y u) st = goOn (st.put dst v st.heap) := by
  rw [w_bin]; simp only [oBin, h1, h2, h3, okV, ob_some, s_done]
section
variable (T : Ty) (t : TypeId) (c : Bool) (k : IntKind) (a b : Int)
theorem b_gtr : binA T .gtr t c (.int k a) (.int k b) = some (.bool (decide (a > b))) := by simp [binA, intOp]
theorem b_lss : binA T .lss t c (.int k a) (.int k b) = some (.bool (decide (a < b))) := by simp [binA, intOp]
theorem b_leq : binA T .leq t c (.int k a) (.int k b) = some (.bool (decide (a ≤ b))) := by simp [binA, intOp]
theorem b_geq : binA T .geq t c (.int k a) (.int k b) = some (.bool (decide (a ≥ b))) := by simp [binA, intOp]
theorem b_eql : binA T .eql t c (.int k a) (.int k b) = some (.bool (a == b)) := by simp [binA, intOp]
theorem b_neq : binA T .neq t c (.int k a) (.int k b) = some (.bool (a != b)) := by simp [binA, intOp]
theorem b_add : binA T .add t c (.int k a) (.int k b) = some (.int k (k.wrap (a + b))) := by simp [binA, intOp]
theorem b_sub : binA T .sub t c (.int k a) (.int k b) = some (.int k (k.wrap (a - b))) := by simp [binA, intOp]
theorem b_mul : binA T .mul t c (.int k a) (.int k b) = some (.int k (k.wrap (a * b))) := by simp [binA, intOp]
theorem b_and : binA T .and t c (.int k a) (.int k b) = some (.int k (k.wrap ((BitVec.ofInt k.bits a &&& BitVec.ofInt k.bits b).toNat : Int))) := by simp [binA, intOp]
theorem b_or : binA T .or t c (.int k a) (.int k b) = some (.int k (k.wrap ((BitVec.ofInt k.bits a ||| BitVec.ofInt k.bits b).toNat : Int))) := by simp [binA, intOp]
theorem b_xor : binA T .xor t c (.int k a) (.int k b) = some (.int k (k.wrap ((BitVec.ofInt k.bits a ^^^ BitVec.ofInt k.bits b).toNat : Int))) := by simp [binA, intOp]
theorem b_shl (k' : IntKind) (j : Int) (h : decide (j < 0) = false) : binA T .shl t c (.int k a) (.int k' j) = some (.int k (k.wrap (a * 2 ^ (min j.toNat k.bits)))) := by
  simp only [binA, shiftOp, h, bc_false]
theorem b_shr (k' : IntKind) (j : Int) (h : decide (j < 0) = false) : binA T .shr t c (.int k a) (.int k' j) = some (.int k (a.fdiv (2 ^ (min j.toNat k.bits)))) := by
  simp only [binA, shiftOp, h, bc_false]
end
end
end Go.Pm
namespace Go.Proofs
open Go Go.Pm
noncomputable def subC (l : List Nat) (c : Code) : Code := List.rec (motive := fun _ => Code → Code) (fun c => c) (fun i _ ih c => ih (Code.rec (motive := fun _ => Code) .skip (fun _ _ _ => .skip) (fun a b _ _ => bc (Nat.beq i 0) a b) (fun _ a b _ _ => bc (Nat.beq i 0) a b) (fun _ a _ => a) (fun a _ => a) (fun _ _ _ _ _ _ => .skip) (fun _ => .skip) (fun _ _ => .skip) (fun _ => .skip) (fun _ => .skip) .skip (fun _ => .skip) c)) l c
noncomputable def codeOf (fn : Func) : Code := match fn.body with | some c => c | none => .skip
end Go.Proofs
namespace Go.Proofs
open Go Go.Pm
noncomputable def low8 (x : Int) : Int := IntKind.wrap .u8 ((BitVec.ofInt IntKind.u8.bits (IntKind.wrap .u8 x) ||| BitVec.ofInt IntKind.u8.bits 128).toNat : Int)
noncomputable def shr7 (x : Int) : Int := x.fdiv (2 ^ (min (7 : Int).toNat IntKind.u64.bits))
noncomputable def B25 : Code := subC [1, 1, 0, 0, 0] (codeOf Tryz.f25)
set_option maxRecDepth 100000
theorem d5 : descT Pt.env.ty 5 = some (.int .u8) := by kernel_rfl
theorem d25 : descT Pt.env.ty 25 = some (.int .u64) := by kernel_rfl
theorem conv25_5 (H : List ABlk) (x : Int) : convertA Pt.env.ty 25 5 H (.int .u64 x) = some (.int .u8 (IntKind.wrap .u8 x), H) := by simp only [convertA, d5, d25]
theorem byte1 (b : Int) : buildSliceA Pt.env.ty 22 1 [(0, .int .u8 b)] = some (.slice .exact 1 [.int .u8 b]) := by kernel_rfl
theorem f25_body (call : CallT) (lf : Nat) (x : Int) (e s s' : AV) (H H' : List ABlk) (hx : decide (x > 127) = true) (ha : appendA Pt.env.ty H 22 22 s (.slice .exact 1 [.int .u8 (low8 x)]) = some (s', H')) :
    runCode Pt.env call lf B25 ⟨⟨13, [(0, .int .u64 x), (2, e), (3, s)], []⟩, H, 20, []⟩ = some (.normal, ⟨⟨13, [(0, .int .u64 (shr7 x)), (2, e), (3, s')], [(7, .int .u64 (shr7 x)), (6, .int .u64 x)]⟩, H', 20, []⟩) := by
  simp only [low8] at ha
  simp only [shr7]
  dsimp only [B25, codeOf, Tryz.f25, subC, bc, Nat.beq]
  simp (disch := decide) only [c_seq, c_cond, c_block, c_exit, c_skip, c_region, o_cons, o_nil, t_normal, w_move, w_assign, w_bin, w_conv, w_build, w_call, e_loc, e_reg, e_const, g_hit, g_miss, p_hit, p_miss, s_done, s_go, s_put_loc, s_put_reg, okV, ob_some, oBin, cond_bool, bc_true,
    v_int, b_gtr, b_or, b_shr, hx, oConv, conv25_5, oBuildSlice, stepC, oBuiltin, oAppend, leaveA, parts_nil, parts_cons, vals_nil, vals_cons, byte1, ha]
theorem f25_exit (call : CallT) (lf : Nat) (x : Int) (e s : AV) (H : List ABlk) (hx : decide (x > 127) = false) :
    runCode Pt.env call lf B25 ⟨⟨13, [(0, .int .u64 x), (2, e), (3, s)], []⟩, H, 20, []⟩ = some (.exit 0, ⟨⟨13, [(0, .int .u64 x), (2, e), (3, s)], [(5, .bool false), (4, .int .u64 x)]⟩, H, 20, []⟩) := by
  dsimp only [B25, codeOf, Tryz.f25, subC, bc, Nat.beq]
  simp (disch := decide) only [c_seq, c_cond, c_exit, c_region, o_cons, o_nil, t_normal, t_exit, w_move, w_bin, e_loc, e_reg, e_const, g_hit, s_done, s_go, s_put_reg, okV, ob_some, oBin, cond_bool, bc_false,
    v_int, b_gtr, hx]
theorem d22 : descT Pt.env.ty 22 = some (.slice 5) := by kernel_rfl
theorem z5 : sizeT Pt.env.ty 5 = some 1 := by kernel_rfl
theorem y5 : bytesT Pt.env.ty 5 = some 1 := by kernel_rfl
theorem o5 : zeroT Pt.env.ty 5 = some (.int .u8 0) := by kernel_rfl
theorem seq22 : seqT Pt.env.ty 22 = true := by kernel_rfl
theorem append_first (b : Int) : appendA Pt.env.ty [] 22 22 (.slice .nil 0 []) (.slice .exact 1 [.int .u8 b]) = some (.slice (.own 0) 1 [.int .u8 b], [.owner 1 1]) := by kernel_rfl
theorem append_next (m : Nat) (cs : List AV) (b : Int) (hl : cs.length = m) (hm : m ≤ 1073741824) :
    appendA Pt.env.ty [.owner m 1] 22 22 (.slice (.own 0) m cs) (.slice .exact 1 [.int .u8 b]) = some (.slice (.own 0) (m + 1) (cs ++ [.int .u8 b]), [.owner (m + 1) 1]) := by
  have h1 : Nat.ble ((m + 1) * (1 + 1)) 35184372088832 = true := Nat.ble_eq_true_of_le (by omega)
  have h2 : Nat.beq cs.length (m * 1) = true := by rw [hl, Nat.mul_one]; exact Nat.beq_refl m
  have h3 : Nat.beq m m = true := Nat.beq_refl m
  simp only [appendA, d22, z5, y5, o5, seq22, ob_some, moreOf, h1, h2, growA, nth_zero, h3]
  rfl
/-- What small lays down: bytes of seven bits, the last one without the eighth. -/
noncomputable def smallN : Nat → Nat → List AV
  | 0, _ => []
  | f + 1, x => if x > 127 then .int .u8 (low8 x) :: smallN f (x / 128) else []
theorem shr7_nat (x : Nat) : shr7 x = ((x / 128 : Nat) : Int) := by
  simp only [shr7]
  have : (2 : Int) ^ (min (7 : Int).toNat IntKind.u64.bits) = ((128 : Nat) : Int) := by decide
  rw [this, Int.ofNat_fdiv]
theorem trim25 (x : Int) (m : Nat) (cs : List AV) (reg : List (Nat × AV)) :
    trim 3 0 ⟨⟨13, [(0, .int .u64 x), (2, .str []), (3, .slice (.own 0) m cs)], reg⟩, [.owner m 1], 20, []⟩ = some ⟨⟨13, [(0, .int .u64 x), (2, .str []), (3, .slice (.own 0) m cs)], []⟩, [.owner m 1], 20, []⟩ := by kernel_rfl
end Go.Proofs
namespace Go.Proofs
open Go Go.Pm
theorem loopN_succ (n0 h0 : Nat) (f : St → StR) (k : Nat) (st : St) : loopN n0 h0 f (k + 1) st = thenA (f st) fun st => ob (trim n0 h0 st) (loopN n0 h0 f k) := rfl
/-- All of small's bytes. -/
noncomputable def smallL : Nat → Nat → List AV
  | 0, x => [.int .u8 (IntKind.wrap .u8 x)]
  | f + 1, x => if x > 127 then .int .u8 (low8 x) :: smallL f (x / 128) else [.int .u8 (IntKind.wrap .u8 x)]
/-- The loop, behind its first round. -/
theorem f25_loop (call : CallT) (lf : Nat) : ∀ (f x m k : Nat) (cs : List AV), cs.length = m → m + f ≤ 1073741824 → x < 128 ^ (f + 1) → f < k → ∃ (m' : Nat) (y : Nat) (reg : List (Nat × AV)), m' = (cs ++ smallN f x).length ∧ (y ≤ 127 ∧ smallN f x ++ [.int .u8 (IntKind.wrap .u8 y)] = smallL f x) ∧
    loopN 3 0 (runCode Pt.env call lf B25) k ⟨⟨13, [(0, .int .u64 x), (2, .str []), (3, .slice (.own 0) m cs)], []⟩, [.owner m 1], 20, []⟩ =
      some (.exit 0, ⟨⟨13, [(0, .int .u64 y), (2, .str []), (3, .slice (.own 0) m' (cs ++ smallN f x))], reg⟩, [.owner m' 1], 20, []⟩) := by
  intro f
  induction f with
  | zero =>
    intro x m k cs hl hm hx hk
    obtain ⟨k, rfl⟩ : ∃ j, k = j + 1 := ⟨k - 1, by omega⟩
    have hd : decide ((x : Int) > 127) = false := by simp; omega
    refine ⟨m, x, [(5, .bool false), (4, .int .u64 x)], by simp [smallN, hl], ⟨by omega, by simp [smallN, smallL]⟩, ?_⟩
    rw [loopN_succ, f25_exit _ _ _ _ _ _ hd, t_exit]
    simp [smallN]
  | succ f ih =>
    intro x m k cs hl hm hx hk
    obtain ⟨k, rfl⟩ : ∃ j, k = j + 1 := ⟨k - 1, by omega⟩
    by_cases hgt : x > 127
    · have hd : decide ((x : Int) > 127) = true := by simp; omega
      have hq : x / 128 < 128 ^ (f + 1) := by
        rw [Nat.div_lt_iff_lt_mul (by decide)]
        rw [Nat.pow_succ] at hx; exact hx
      obtain ⟨m', y, reg, h1, h2, h3⟩ := ih (x / 128) (m + 1) k (cs ++ [.int .u8 (low8 x)]) (by simp [hl]) (by omega) hq (by omega)
      have e : cs ++ [AV.int .u8 (low8 x)] ++ smallN f (x / 128) = cs ++ smallN (f + 1) x := by simp [smallN, hgt]
      refine ⟨m', y, reg, by rw [h1, e], ⟨h2.1, by simp [smallN, smallL, hgt]; exact h2.2⟩, ?_⟩
      rw [loopN_succ, f25_body _ _ _ _ _ _ _ _ hd (append_next m cs (low8 x) hl (by omega)), t_normal]
      simp only [shr7_nat]
      rw [trim25, ob_some, h3, e]
    · have hd : decide ((x : Int) > 127) = false := by simp; omega
      refine ⟨m, x, [(5, .bool false), (4, .int .u64 x)], by simp [smallN, hgt, hl], ⟨by omega, by simp [smallN, smallL, hgt]⟩, ?_⟩
      rw [loopN_succ, f25_exit _ _ _ _ _ _ hd, t_exit]
      simp [smallN, hgt]
end Go.Proofs
namespace Go.Pm
open Go
noncomputable def sGuard (w : Option Bool) (a b : StR) : StR := match w with | none => none | some w => bc w b a
section
variable (E : Env) (call : CallT) (lf : Nat) (m : Nat) (loc reg : List (Nat × AV)) (H : List ABlk) (n : Nat) (ds : List (FuncId × List AV)) (st : St) (dst : Option Tmp)
theorem w_pick (c a b : Operand) : stepW E call dst (.pick c a b) st = sDone st dst (oPick (ev E st.tm) st.heap c a b) := nr rfl
theorem w_alloc (e : TypeId) : stepW E call dst (.alloc e) st = sDone st dst (oAlloc E.ty st.heap e) := nr rfl
theorem w_box (e : TypeId) (x : Operand) : stepW E call dst (.box e x) st = sDone st dst (oBox (ev E st.tm) st.heap x) := nr rfl
theorem w_agg (t : TypeId) (ps : Array (Nat × Operand)) : stepW E call dst (.build t ps) st = sDone st dst (oBuild E.ty (ev E st.tm) st.heap t ps) := nr rfl
theorem w_load (t : TypeId) (a : Operand) : stepW E call dst (.load t a) st = sDone st dst (oLoad E.ty (ev E st.tm) st.heap t a) := nr rfl
theorem w_store (t : TypeId) (a x : Operand) : stepW E call dst (.store t a x) st = sDone st dst (oStore E.ty (ev E st.tm) st.heap t a x) := nr rfl
theorem w_nil (x : Operand) : stepW E call dst (.nilCheck x) st = sDone st dst (oNil (ev E st.tm) st.heap x) := nr rfl
theorem w_un (op : UnOp) (t : TypeId) (x : Operand) : stepW E call dst (.unOp op t x) st = sDone st dst (oUn (ev E st.tm) st.heap op x) := nr rfl
theorem w_iface (t : TypeId) (x : Operand) : stepW E call dst (.makeInterface t x) st = sDone st dst (oIface E.ty (ev E st.tm) st.heap t x) := nr rfl
theorem w_func (fn : Fn) (a b : Array Operand) : stepW E call dst (.makeFunc fn a b) st = sDone st dst (oFunc (ev E st.tm) st.heap fn a b) := nr rfl
theorem w_slice (t : TypeId) (x : Operand) (lo hi mx : Option Operand) : stepW E call dst (.slice t x lo hi mx) st = sDone st dst (oSlice E.ty (ev E st.tm) st.heap t x lo hi mx) := nr rfl
theorem w_faddr (t : TypeId) (x : Operand) (f : Nat) : stepW E call dst (.fieldAddr t x f) st = sDone st dst (oFieldAddr E.ty (ev E st.tm) st.heap t x f) := nr rfl
theorem w_field (t : TypeId) (x : Operand) (f : Nat) : stepW E call dst (.field t x f) st = sDone st dst (oField E.ty (ev E st.tm) st.heap t x f) := nr rfl
theorem w_iaddr (t : TypeId) (x i : Operand) : stepW E call dst (.indexAddr t x i) st = sDone st dst (oIndexAddr E.ty (ev E st.tm) st.heap t x i) := nr rfl
theorem w_index (t : TypeId) (x i : Operand) : stepW E call dst (.index t x i) st = sDone st dst (oIndex E.ty (ev E st.tm) st.heap t x i) := nr rfl
theorem w_extract (t : Operand) (i : Nat) : stepW E call dst (.extract t i) st = sDone st dst (oExtract (ev E st.tm) st.heap t i) := nr rfl
theorem o_guard (ops : Array Oper) (dst : Option Tmp) (op : Op) (ty : TypeId) (pos : String) (after : Array Edge) (j : Nat) (want : Bool) (l : List Oper) :
    runOps E call ops (⟨dst, op, ty, pos, after, some (j, want)⟩ :: l) st = thenA (sGuard (wantedG ops st.tm j want) (goOn (st.put dst undefA st.heap)) (stepW E call dst op st)) (runOps E call ops l) := by
  show thenA (stepA E call ops _ st) _ = _
  rw [show stepA E call ops ⟨dst, op, ty, pos, after, some (j, want)⟩ st = ob (wantedG ops st.tm j want) fun w => Bool.rec (goOn (st.put dst undefA st.heap)) (stepW E call dst op st) w from rfl]
  cases wantedG ops st.tm j want with
  | none => rfl
  | some w => cases w <;> rfl
theorem sg_true (a b : StR) : sGuard (some true) a b = b := nr rfl
theorem sg_false (a b : StR) : sGuard (some false) a b = a := nr rfl
theorem g_nil (t : Nat) : Pm.get [] t = none := nr rfl
theorem p_nil (t : Nat) (v : AV) : Pm.put [] t v = [(t, v)] := nr rfl
theorem e_glob (T : Tm) (g : Nat) : ev E T (.global g) = ob (E.glob g) fun cs => some (.eptr cs) := nr rfl
theorem e_func (T : Tm) (f : FuncId) : ev E T (.func f) = some (.func f [] []) := nr rfl
theorem v_u8 (k : IntKind) (i : Int) : ofVal (.int k i) = some (.int k i) := nr rfl
theorem optV_none (ρ : Rho) : optV ρ none = none := nr rfl
theorem optV_some (ρ : Rho) (x : Operand) : optV ρ (some x) = some (ρ x) := nr rfl
theorem s_call (f : FuncId) (xs ys cs : List AV) : sCall E call st dst (some (.func f xs ys)) (some cs) = sBack st dst (callAt call f (bc (E.owns f) (xs ++ cs ++ ys) ((xs ++ cs ++ ys).map AV.melt)) st.heap) := nr rfl
theorem s_back (v : AV) (H' : List ABlk) : sBack st dst (some (.ret v, H')) = goOn (st.put dst v H') := nr rfl
theorem c_loop (c : Code) : runCode E call lf (.loop c) st = loopN st.tm.loc.length st.heap.length (runCode E call lf c) lf st := nr rfl
theorem l_succ (n0 h0 : Nat) (f : St → StR) (k : Nat) : loopN n0 h0 f (k + 1) st = thenA (f st) fun st => ob (trim n0 h0 st) (loopN n0 h0 f k) := nr rfl
theorem lv_ret (i : Nat) : leaveA i .ret = .ret := nr rfl
theorem lv_normal (i : Nat) : leaveA i .normal = .normal := nr rfl
theorem lv_exit (i j : Nat) : leaveA i (.exit j) = bc (Nat.beq j i) .normal (.exit j) := by cases h : Nat.beq j i <;> simp only [leaveA, h] <;> rfl
theorem st_eta : (⟨⟨m, loc, reg⟩, H, n, ds⟩ : St).tm.loc = loc := nr rfl
/-- A whole call. -/
theorem callN_plain (k : Nat) (f : FuncId) (args : List AV) (fn : Func) (c : Code) (hi : E.intr f = none) (hf : E.func f = some fn) (hb : fn.body = some c) (ha : Nat.ble args.length fn.ntmps = true)
    (e : Ex) (st' : St) (he : e = .ret ∨ e = .normal) (hr : runCode E (callN E k) k c ⟨⟨E.mask f, numbered 0 args, []⟩, H, fn.ntmps, []⟩ = some (e, st')) (hd : st'.defers = []) :
    callN E (k + 1) f args H = finishA E fn st' st'.heap := by
  have h : callN E (k + 1) f args H = Option.rec (motive := fun _ => Option (End × List ABlk)) (ob (E.func f) fun fn => runBody E (callN E k) k (E.mask f) fn args H) (fun g => g args H) (E.intr f) := rfl
  rw [h, hi, hf]
  show runBody E (callN E k) k (E.mask f) fn args H = _
  rcases he with rfl | rfl <;> simp only [runBody, runFn, hb, ha, bc_true, hr, hd, deferA, ob_some]
end
theorem callN_ret (E : Env) (H : List ABlk) (k : Nat) (f : FuncId) (args : List AV) (fn : Func) (c : Code) (st' : St) (r : End × List ABlk) (hi : E.intr f = none) (hf : E.func f = some fn) (hb : fn.body = some c) (ha : Nat.ble args.length fn.ntmps = true)
    (hr : runCode E (callN E k) k c ⟨⟨E.mask f, numbered 0 args, []⟩, H, fn.ntmps, []⟩ = some (.ret, st')) (hd : st'.defers = []) (hz : finishA E fn st' st'.heap = some r) :
    callN E (k + 1) f args H = some r := (callN_plain E H k f args fn c hi hf hb ha .ret st' (.inl rfl) hr hd).trans hz
/-! ### calls that lead to no block -/
noncomputable def bare (v : AV) : Bool := match v.refs with | [] => true | _ :: _ => false
theorem bare_refs {v : AV} (h : bare v = true) : v.refs = [] := by
  unfold bare at h
  cases hv : v.refs with
  | nil => rfl
  | cons x l => rw [hv] at h; cases h
mutual
theorem ren_bare (ρ : Nat → Option Nat) : ∀ v : AV, v.refs = [] → v.ren ρ = some v
  | .bool _, _ => by simp [AV.ren]
  | .int _ _, _ => by simp [AV.ren]
  | .str _, _ => by simp [AV.ren]
  | .nilp, _ => by simp [AV.ren]
  | .ref _ _, h => by simp [AV.refs] at h
  | .eptr _, _ => by simp [AV.ren]
  | .slice .none _ _, _ => by simp [AV.ren]
  | .slice .exact _ _, _ => by simp [AV.ren]
  | .slice .nil _ _, _ => by simp [AV.ren]
  | .slice (.own _) _ _, h => by simp [AV.refs] at h
  | .vslice _ _ _, h => by simp [AV.refs] at h
  | .nilmap, _ => by simp [AV.ren]
  | .map _, h => by simp [AV.refs] at h
  | .func f a b, h => by
    simp only [AV.refs, List.append_eq_nil_iff] at h
    simp [AV.ren, renL_bare ρ a h.1, renL_bare ρ b h.2]
  | .nilFunc, _ => by simp [AV.ren]
  | .iface t v, h => by
    simp only [AV.refs] at h
    simp [AV.ren, ren_bare ρ v h]
  | .nilIface, _ => by simp [AV.ren]
  | .agg cs, h => by
    simp only [AV.refs] at h
    simp [AV.ren, renL_bare ρ cs h]
  | .tuple vs, h => by
    simp only [AV.refs] at h
    simp [AV.ren, renL_bare ρ vs h]
theorem renL_bare (ρ : Nat → Option Nat) : ∀ l : List AV, refsL l = [] → renL ρ l = some l
  | [], _ => by simp [renL]
  | v :: l, h => by
    simp only [refsL, List.append_eq_nil_iff] at h
    simp [renL, ren_bare ρ v h.1, renL_bare ρ l h.2]
end
theorem close_nil (H : List ABlk) (k : Nat) : close H k [] 0 = [] := by
  cases k <;> simp [close]
theorem callAt_bare (call : CallT) (f : FuncId) (args : List AV) (H H1 : List ABlk) (v : AV) (ha : refsL args = []) (hc : call f args [] = some (.ret v, H1)) (hv : v.refs = []) :
    callAt call f args H = some (.ret v, H) := by
  unfold callAt
  rw [ha]
  show ob (renL (idx (close H (H.length + 1) [] 0)) args) _ = _
  rw [close_nil, renL_bare _ _ ha, ob_some]
  show ob (some []) _ = _
  rw [ob_some, hc, ob_some]
  unfold callBack
  show (let L1 := close H1 (H1.length + 1) (addNew (upTo [].length) v.refs) 0; ob (v.ren (backR H.length [] L1)) fun v' => ob (pickB (backR H.length [] L1) H1 L1) fun bs => some (End.withVal (.ret v) v', putBack H [] (bs.take [].length) ++ bs.drop [].length)) = _
  rw [hv]
  show ob (v.ren (backR H.length [] (close H1 (H1.length + 1) [] 0))) _ = _
  rw [ren_bare _ _ hv, ob_some]
  show ob (pickB _ H1 (close H1 (H1.length + 1) [] 0)) _ = _
  rw [close_nil]
  show some _ = _
  simp [putBack]
  rfl
end Go.Pm
