/-
Operators, conversions that make no memory, len, min, max, look-ups.
Conversions that make no memory, len, min, max, look-ups, parts of values.
What changes one block of the small heap; new blocks, stores.
-/
import Derived.Test.YtpgdfpcihamldaaGreatDoorK03
import Derived.Laws.BytesString
import Derived.MapKept
import Derived.Deep.AppendSrc
namespace Go.Pm
open Go

variable {P : Program} {T : Ty} {G : Gh} {w : World}

def PlainOff : Nat → List Field → Prop
  | _, [] => True
  | i, f :: fs => f.name ≠ "_" ∧ f.offset = i ∧ PlainOff (i + 1) fs
/-- Where a type is marked so, '==' of two of its values goes field by field. -/
structure EqOk (P : Program) (T : Ty) : Prop where
  eq : ∀ t i fs, T t = some i → i.eqOk = true → i.desc = .struct fs → P.stoodInHeld t = false ∧ P.eqGuardType P.depth t = false ∧ fs = P.fieldsOf t ∧ PlainOff 0 fs.toList

theorem intOp_sound {op : BinOp} {k : IntKind} {a b : Int} {z : AV} (h : intOp op k a b = some z) (t : TypeId) (hs : op ≠ .shl) (hs' : op ≠ .shr) :
    ∃ V, (binOp op t (.int k a) (.int k b)).run P w = .ok V w ∧ Rel G w z V := by
  cases op
  case shl => exact absurd rfl hs
  case shr => exact absurd rfl hs'
  case quo =>
    simp only [intOp, bc_eq] at h
    split at h
    · simp at h
    · rename_i hb
      simp at h hb; subst h
      exact ⟨_, by simp [binOp, Op.intDiv, hb], rfl⟩
  case rem =>
    simp only [intOp, bc_eq] at h
    split at h
    · simp at h
    · rename_i hb
      simp at h hb; subst h
      exact ⟨_, by simp [binOp, Op.intDiv, hb], rfl⟩
  all_goals first
    | (simp [intOp] at h; done)
    | (simp only [intOp, Option.some.injEq] at h; subst h; exact ⟨_, by simp [binOp, Op.intArith, Op.intBits, Op.intCmp], rfl⟩)
theorem shiftOp_sound {op : BinOp} {k k' : IntKind} {a b : Int} {z : AV} (h : shiftOp op k a b = some z) (t : TypeId) :
    ∃ V, (binOp op t (.int k a) (.int k' b)).run P w = .ok V w ∧ Rel G w z V := by
  unfold shiftOp at h
  rw [bc_eq] at h
  split at h
  · simp at h
  · rename_i hb
    have hb : ¬ b < 0 := by simpa using hb
    cases op <;> first | (simp at h; done) | (simp at h; subst h; exact ⟨_, by simp [binOp, Op.shift, hb], rfl⟩)
theorem strOp_sound {op : BinOp} {a b : List UInt8} {z : AV} (h : strOp op a b = some z) (t : TypeId) :
    ∃ V, (binOp op t (.string ⟨⟨a⟩⟩) (.string ⟨⟨b⟩⟩)).run P w = .ok V w ∧ Rel G w z V := by
  have e1 : (⟨⟨a⟩⟩ : ByteArray).size = a.length := rfl
  have e2 : (⟨⟨b⟩⟩ : ByteArray).size = b.length := rfl
  cases op <;> simp only [strOp] at h <;> first
    | (simp at h; done)
    | (obtain ⟨hb, h⟩ := bc_some h
       simp at h; subst h
       have hb : a.length + b.length ≤ 4611686018427387904 := Nat.le_of_ble_eq_true hb
       have hn : ¬ (((a.length + b.length : Nat) : Int) > IntKind.i64.max) := by
         have : IntKind.i64.max = 9223372036854775807 := by decide
         omega
       exact ⟨.string ⟨⟨a ++ b⟩⟩, by simp only [binOp, Op.stringOp, e1, e2, if_neg hn, bytes_append]; rfl, rfl⟩)
    | (simp at h; subst h; exact ⟨_, by simp [binOp, Op.stringOp, ByteArray.toList_eq], rfl⟩)
theorem sameField_sound (hT : TyOk P T) {f : Field} {d : TypeDesc} {x y : AV} {X Y : Value} {r : Bool} (hd : descT T f.type = some d) (h : sameField d x y = some r) (hx : Rel G w x X) (hy : Rel G w y Y) (n : Nat) (w1 : World) :
    (Op.equalIn (n + 1) f.type X Y).run P w1 = .ok r w1 ∧ (isAgg f.type).run P w1 = .ok false w1 := by
  obtain ⟨i, hi, hid⟩ := descT_some hd
  have hu := hT.desc _ _ hi
  rw [hid] at hu
  unfold sameField at h
  split at h
  · simp at h; subst h
    obtain rfl := hx; obtain rfl := hy
    exact ⟨run_equalIn_bool' w1 n _ _ _ hu, by simp [isAgg, run_underlying hu]⟩
  · obtain ⟨hk, h⟩ := bc_some h
    simp at h hk; subst h; subst hk
    obtain rfl := hx; obtain rfl := hy
    exact ⟨run_equalIn_int w1 n _ _ _ _ _ hu, by simp [isAgg, run_underlying hu]⟩
  · simp at h; subst h
    obtain rfl := hx; obtain rfl := hy
    exact ⟨by rw [run_equalIn_string w1 n _ _ _ hu]; simp [ByteArray.toList_eq], by simp [isAgg, run_underlying hu]⟩
  · simp at h
theorem sameFields_sound (hT : TyOk P T) {xs ys : Array Value} (n : Nat) (w1 : World) : ∀ (fs : List Field) (i : Nat) (cs ds : List AV) (r : Bool), PlainOff i fs → sameFields T fs cs ds = some r →
    RelL G w cs (xs.toList.drop i) → RelL G w ds (ys.toList.drop i) → (Op.eqFields (n + 1) xs ys fs).run P w1 = .ok r w1
  | [], _, cs, ds, r, _, h, _, _ => by
    cases cs <;> cases ds <;> simp [sameFields] at h
    subst h; simp [Op.eqFields]
  | f :: fs, i, cs, ds, r, ⟨h1, h2, h3⟩, h, hc, hd => by
    cases cs with
    | nil => cases ds <;> simp [sameFields] at h
    | cons c cs =>
    cases ds with
    | nil => simp [sameFields] at h
    | cons d ds =>
    simp only [sameFields] at h
    split at h
    · rename_i dd hdd
      split at h
      · rename_i a b ha hb
        simp at h; subst h
        obtain ⟨X, Xs, e1, k1, k2⟩ := hc
        obtain ⟨Y, Ys, e2, k3, k4⟩ := hd
        obtain ⟨q1, q2⟩ := sameField_sound (P := P) hT hdd ha k1 k3 n w1
        have nxt : ∀ {zs : Array Value} {Z : Value} {Zs : List Value}, zs.toList.drop i = Z :: Zs → zs[i]? = some Z ∧ zs.toList.drop (i + 1) = Zs := by
          intro zs Z Zs e
          constructor
          · have : (zs.toList.drop i)[0]? = some Z := by rw [e]; rfl
            simpa using this
          · have : (zs.toList.drop i).drop 1 = Zs := by rw [e]; rfl
            simpa [Nat.add_comm] using this
        obtain ⟨g1, g2⟩ := nxt e1
        obtain ⟨g3, g4⟩ := nxt e2
        subst g2; subst g4
        have ih := sameFields_sound hT n w1 fs (i + 1) cs ds b h3 hb k2 k4
        subst h2
        simp only [Op.eqFields, h1, ne_eq, not_false_eq_true, if_true, part, Sem.run_bind, Sem.run_ite, q2, Result.andThen_ok, Bool.false_eq_true, if_false, g1, g3, Sem.run_pure, q1]
        cases a
        · simp
        · simp [ih]
      · simp at h
    · simp at h
theorem equal_succ (t : TypeId) (X Y : Value) : Op.equal t X Y = Op.equalIn (9999 + 1) t X Y := rfl
section
variable {t : TypeId} (n : Nat)
theorem eq_ii {ms} (hd : P.underlying t = some (.interface ms)) : (Op.equalIn (n + 1) t .nilIface .nilIface).run P w = .ok true w := by simp [Op.equalIn, run_underlying hd]
theorem eq_iv {ms} (hd : P.underlying t = some (.interface ms)) (u : TypeId) (v : Value) : (Op.equalIn (n + 1) t .nilIface (.iface u v)).run P w = .ok false w := by simp [Op.equalIn, run_underlying hd]
theorem eq_vi {ms} (hd : P.underlying t = some (.interface ms)) (u : TypeId) (v : Value) : (Op.equalIn (n + 1) t (.iface u v) .nilIface).run P w = .ok false w := by simp [Op.equalIn, run_underlying hd]
theorem eq_ss {e} (hd : P.underlying t = some (.slice e)) : (Op.equalIn (n + 1) t (.slice none 0 0) (.slice none 0 0)).run P w = .ok true w := by simp [Op.equalIn, run_underlying hd]
theorem eq_vs {e} (hd : P.underlying t = some (.slice e)) (a : Addr) (l c : Nat) : (Op.equalIn (n + 1) t (.slice (some a) l c) (.slice none 0 0)).run P w = .ok false w := by simp [Op.equalIn, run_underlying hd]
theorem eq_ff {a b c} (hd : P.underlying t = some (.func a b c)) : (Op.equalIn (n + 1) t .nilFunc .nilFunc).run P w = .ok true w := by simp [Op.equalIn, run_underlying hd]
theorem eq_vf {a b c} (hd : P.underlying t = some (.func a b c)) (f : Fn) (x y : Array Value) : (Op.equalIn (n + 1) t (.func f x y) .nilFunc).run P w = .ok false w := by simp [Op.equalIn, run_underlying hd]
theorem eq_pp {e} (hd : P.underlying t = some (.pointer e)) : (Op.equalIn (n + 1) t (.pointer none) (.pointer none)).run P w = .ok true w := by simp [Op.equalIn, run_underlying hd]
theorem eq_vp {e} (hd : P.underlying t = some (.pointer e)) (a : Addr) : (Op.equalIn (n + 1) t (.pointer (some a)) (.pointer none)).run P w = .ok false w := by simp [Op.equalIn, run_underlying hd]
end
/-- What '==' and '!=' come to. -/
def EqRun (P : Program) (w : World) (op : BinOp) (t : TypeId) (xo yo : Operand) (X Y : Value) (r : Bool) : Prop :=
  (eqGuard op t xo yo X Y).run P w = .ok () w ∧ (binOp .eql t X Y).run P w = .ok (.bool r) w ∧ (binOp .neq t X Y).run P w = .ok (.bool (!r)) w
theorem eqlA_sound (hT : TyOk P T) (hE : EqOk P T) {op : BinOp} {t : TypeId} {x y : AV} {X Y : Value} {xo yo : Operand} {r : Bool} (h : eqlA T t (isCst xo || isCst yo) x y = some r)
    (hx : Rel G w x X) (hy : Rel G w y Y) : EqRun P w op t xo yo X Y r := by
  have cst : ∀ o : Operand, isCst o = true → ∃ v, o = .const v := by intro o ho; cases o <;> simp [isCst] at ho; exact ⟨_, rfl⟩
  have dsc : ∀ {d : TypeDesc}, descT T t = some d → P.underlying t = some d := by
    intro d hd
    obtain ⟨i, hi, hid⟩ := descT_some hd
    have hu := hT.desc _ _ hi
    rw [hid] at hu; exact hu
  unfold eqlA at h
  split at h
  · -- bool
    split at h
    · rename_i hd
      simp at h; subst h
      obtain rfl := hx; obtain rfl := hy
      have he := run_equalIn_bool' w 9999 t ‹Bool› ‹Bool› (dsc hd)
      refine ⟨by cases op <;> simp [eqGuard], ?_, ?_⟩
      · simp only [binOp, equal_succ, Sem.run_bind, run_equalIn_bool' w 9999 t _ _ (dsc hd), Result.andThen_ok, Sem.run_pure]
      · simp only [binOp, equal_succ, Sem.run_bind, run_equalIn_bool' w 9999 t _ _ (dsc hd), Result.andThen_ok, Sem.run_pure]
    · simp at h
  · -- struct
    rename_i xs ys
    split at h
    · rename_i i hi
      split at h
      · rename_i fs hfs
        obtain ⟨hk, h⟩ := bc_some h
        obtain ⟨Xs, rfl, kx⟩ := hx
        obtain ⟨Ys, rfl, ky⟩ := hy
        obtain ⟨e1, e2, e3, e4⟩ := hE.eq t i fs hi hk hfs
        have hu := hT.desc _ _ hi
        rw [hfs, e3] at hu
        have he : (Op.equalIn (9999 + 1) t (.agg Xs) (.agg Ys)).run P w = .ok r w := by
          rw [run_equalIn_agg w 9999 t Xs Ys hu e1]
          rw [e3] at h e4
          exact sameFields_sound hT 9998 w _ 0 xs ys r e4 h (by simpa using kx) (by simpa using ky)
        refine ⟨run_eqGuard_agg w op t xo yo Xs Ys e2, ?_, ?_⟩
        · simp only [binOp, equal_succ, Sem.run_bind, he, Result.andThen_ok, Sem.run_pure]
        · simp only [binOp, equal_succ, Sem.run_bind, he, Result.andThen_ok, Sem.run_pure]
      · simp at h
    · simp at h
  · -- nil, nil
    split at h
    · rename_i ms hd
      obtain ⟨hc, h⟩ := bc_some h
      simp at h; subst h
      obtain rfl := hx; obtain rfl := hy
      refine ⟨?_, ?_, ?_⟩
      · simp only [Bool.or_eq_true] at hc
        rcases hc with hc | hc
        · obtain ⟨v, rfl⟩ := cst _ hc
          cases op <;> simp [eqGuard]
        · obtain ⟨v, rfl⟩ := cst _ hc
          cases op <;> simp [eqGuard]
      · simp only [binOp, equal_succ, Sem.run_bind, eq_ii 9999 (dsc hd), Result.andThen_ok, Sem.run_pure]
      · simp only [binOp, equal_succ, Sem.run_bind, eq_ii 9999 (dsc hd), Result.andThen_ok, Sem.run_pure]
    · simp at h
  · split at h
    · rename_i ms hd
      simp at h; subst h
      obtain rfl := hx; obtain ⟨Y', rfl, _⟩ := hy
      refine ⟨by cases op <;> simp [eqGuard], ?_, ?_⟩ <;> simp only [binOp, equal_succ, Sem.run_bind, eq_iv 9999 (dsc hd), Result.andThen_ok, Sem.run_pure]
    · simp at h
  · split at h
    · rename_i ms hd
      simp at h; subst h
      obtain rfl := hy; obtain ⟨Y', rfl, _⟩ := hx
      refine ⟨by cases op <;> simp [eqGuard], ?_, ?_⟩ <;> simp only [binOp, equal_succ, Sem.run_bind, eq_vi 9999 (dsc hd), Result.andThen_ok, Sem.run_pure]
    · simp at h
  · split at h
    · rename_i ms hd
      simp at h; subst h
      obtain ⟨a, cap, rfl, _, _, _, ht⟩ := hx
      obtain ⟨a', cap', rfl, _, _, _, ht'⟩ := hy
      simp only [TokRel] at ht ht'
      rw [ht, ht']
      refine ⟨by cases op <;> simp [eqGuard], ?_, ?_⟩ <;> simp only [binOp, equal_succ, Sem.run_bind, eq_ss 9999 (dsc hd), Result.andThen_ok, Sem.run_pure]
    · simp at h
  · split at h
    · rename_i ms hd
      simp at h; subst h
      obtain ⟨a, cap, rfl, _, _, hk, _⟩ := hx
      obtain ⟨a', cap', rfl, _, _, _, ht'⟩ := hy
      simp only [TokRel] at ht'
      rw [ht']
      rcases hk with hk | ⟨b, o, rfl, _⟩
      · simp at hk
      refine ⟨by cases op <;> simp [eqGuard], ?_, ?_⟩ <;> simp only [binOp, equal_succ, Sem.run_bind, eq_vs 9999 (dsc hd), Result.andThen_ok, Sem.run_pure]
    · simp at h
  · split at h
    · rename_i hd
      simp at h; subst h
      obtain rfl := hx; obtain rfl := hy
      refine ⟨by cases op <;> simp [eqGuard], ?_, ?_⟩ <;> simp only [binOp, equal_succ, Sem.run_bind, eq_ff 9999 (dsc hd), Result.andThen_ok, Sem.run_pure]
    · simp at h
  · split at h
    · rename_i hd
      simp at h; subst h
      obtain ⟨_, _, rfl, _⟩ := hx; obtain rfl := hy
      refine ⟨by cases op <;> simp [eqGuard], ?_, ?_⟩ <;> simp only [binOp, equal_succ, Sem.run_bind, eq_vf 9999 (dsc hd), Result.andThen_ok, Sem.run_pure]
    · simp at h
  · split at h
    · rename_i hd
      simp at h; subst h
      obtain rfl := hx; obtain rfl := hy
      refine ⟨by cases op <;> simp [eqGuard], ?_, ?_⟩ <;> simp only [binOp, equal_succ, Sem.run_bind, eq_pp 9999 (dsc hd), Result.andThen_ok, Sem.run_pure]
    · simp at h
  · split at h
    · rename_i hd
      simp at h; subst h
      obtain ⟨_, rfl⟩ := hx; obtain rfl := hy
      refine ⟨by cases op <;> simp [eqGuard], ?_, ?_⟩ <;> simp only [binOp, equal_succ, Sem.run_bind, eq_vp 9999 (dsc hd), Result.andThen_ok, Sem.run_pure]
    · simp at h
  · simp at h
theorem run_guard_int (op : BinOp) (t : TypeId) (xo yo : Operand) (k k' : IntKind) (a b : Int) : (eqGuard op t xo yo (.int k a) (.int k' b)).run P w = .ok () w := by cases op <;> simp [eqGuard]
theorem run_guard_str (op : BinOp) (t : TypeId) (xo yo : Operand) (a b : ByteArray) : (eqGuard op t xo yo (.string a) (.string b)).run P w = .ok () w := by cases op <;> simp [eqGuard]
theorem binA_sound (hT : TyOk P T) (hE : EqOk P T) {op : BinOp} {t : TypeId} {x y z : AV} {X Y : Value} {xo yo : Operand} (h : binA T op t (isCst xo || isCst yo) x y = some z)
    (hx : Rel G w x X) (hy : Rel G w y Y) : ∃ V, (do eqGuard op t xo yo X Y; binOp op t X Y).run P w = .ok V w ∧ Rel G w z V := by
  unfold binA at h
  split at h
  · obtain rfl := hx; obtain rfl := hy
    simp only [Sem.run_bind, run_guard_int, Result.andThen_ok]
    split at h
    · exact shiftOp_sound h t
    · exact shiftOp_sound h t
    · rename_i h1 h2
      obtain ⟨hk, h'⟩ := bc_some h
      clear h
      simp at hk; subst hk
      exact intOp_sound h' t (fun e => h1 e) (fun e => h2 e)
  · obtain rfl := hx; obtain rfl := hy
    simp only [Sem.run_bind, run_guard_str, Result.andThen_ok]
    exact strOp_sound h t
  · split at h
    · split at h
      · rename_i b hb
        simp at h; subst h
        obtain ⟨h1, h2, _⟩ := eqlA_sound hT hE (op := .eql) hb hx hy
        exact ⟨_, by simp only [Sem.run_bind, h1, Result.andThen_ok, h2], rfl⟩
      · simp at h
    · split at h
      · rename_i b hb
        simp at h; subst h
        obtain ⟨h1, _, h2⟩ := eqlA_sound hT hE (op := .neq) hb hx hy
        exact ⟨_, by simp only [Sem.run_bind, h1, Result.andThen_ok, h2], rfl⟩
      · simp at h
    · simp at h
end Go.Pm
namespace Go.Pm
open Go Go.MapKept

variable {P : Program} {T : Ty} {G : Gh} {w : World}

theorem unA_sound {op : UnOp} {x z : AV} {X : Value} (h : unA op x = some z) (hx : Rel G w x X) : ∃ V, (Op.unary op X).run P w = .ok V w ∧ Rel G w z V := by
  unfold unA at h
  split at h
  · obtain rfl := hx
    split at h
    · simp only [intOp, Option.some.injEq] at h; subst h
      exact ⟨_, by simp [Op.unary, Op.intArith], rfl⟩
    · simp only [intOp, Option.some.injEq] at h; subst h
      exact ⟨_, by simp [Op.unary, Op.intBits], rfl⟩
    · simp at h
  · obtain rfl := hx
    split at h
    · simp at h; subst h
      exact ⟨_, by simp [Op.unary], rfl⟩
    · simp at h
  · simp at h
theorem foldl_push (ns : List Int) : ∀ (b : List UInt8), ns.foldl (fun r n => r.push (UInt8.ofNat n.toNat)) (⟨⟨b⟩⟩ : ByteArray) = ⟨⟨b ++ ns.map fun n => UInt8.ofNat n.toNat⟩⟩ := by
  induction ns with
  | nil => intro b; simp
  | cons n ns ih =>
    intro b
    have : (⟨⟨b⟩⟩ : ByteArray).push (UInt8.ofNat n.toNat) = ⟨⟨b ++ [UInt8.ofNat n.toNat]⟩⟩ := by ext1; simp [ByteArray.push]
    rw [List.foldl_cons, this, ih]
    simp
theorem bytesOf_sound : ∀ {cs : List AV} {s : List UInt8} {vs : List Value}, bytesOf cs = some s → RelL G w cs vs → ∃ ns : List Int, vs = ns.map (Value.int .u8) ∧ s = ns.map fun n => UInt8.ofNat n.toNat
  | [], s, vs, h, k => by
    cases k
    simp [bytesOf] at h; subst h
    exact ⟨[], rfl, rfl⟩
  | c :: cs, s, vs, h, ⟨x, xs, e, k1, k2⟩ => by
    subst e
    unfold bytesOf at h
    split at h
    · simp_all
    · rename_i n l heq
      simp at heq
      obtain ⟨rfl, rfl⟩ := heq
      split at h
      · rename_i bs hb
        simp at h; subst h
        obtain ⟨ns, rfl, rfl⟩ := bytesOf_sound hb k2
        obtain rfl := k1
        exact ⟨n :: ns, rfl, rfl⟩
      · simp at h
    · simp at h
theorem bytesToString_sound {cs : List AV} {s : List UInt8} (h : bytesOf cs = some s) {vs : List Value} (hr : RelL G w cs vs) {b o : Nat} (hc : ∀ j v, vs[j]? = some v → w.cell? ⟨b, o + j, none⟩ = some v) (cap : Nat) :
    (Conv.bytesToString (.slice (some ⟨b, o, none⟩) cs.length cap)).run P w = .ok (.string ⟨⟨s⟩⟩) w := by
  obtain ⟨ns, rfl, rfl⟩ := bytesOf_sound h hr
  have hl := hr.length
  have hrun := run_loadCells_list (P := P) w ⟨b, o, none⟩ (ns.map (Value.int .u8)) (fun j v hj => by rw [add_plain]; exact hc j v hj)
  rw [← hl] at hrun
  rw [run_bytesToString w _ _ cap ns hrun]
  have := foldl_push ns []
  simp only [List.nil_append] at this
  have e : ByteArray.empty = ⟨⟨[]⟩⟩ := rfl
  rw [e, this]
/-- Conversions that make no memory. -/
theorem convertA_sound {N0 : Nat} {F : Nat → Prop} {H H' : List ABlk} (hT : TyOk P T) (hH : HRel N0 F G w H) {s d : TypeId} {x z : AV} {X : Value} (h : convertA T s d H x = some (z, H')) (hx : Rel G w x X)
    (hno : ∀ e, ¬ (descT T s = some .string ∧ descT T d = some (.slice e))) : H' = H ∧ ∃ V, (convert s d X).run P w = .ok V w ∧ Rel G w z V := by
  unfold convertA at h
  split at h
  · rename_i ds k k' n hs hd
    simp at h; obtain ⟨rfl, rfl⟩ := h
    obtain rfl := hx
    refine ⟨rfl, _, ?_, rfl⟩
    simp [convert, run_desc hT hs, run_desc hT hd, Conv.intToInt]
  · rename_i ds a hs hd
    simp at h; obtain ⟨rfl, rfl⟩ := h
    obtain rfl := hx
    refine ⟨rfl, _, ?_, rfl⟩
    simp [convert, run_desc hT hs, run_desc hT hd]
  · rename_i k k' n hs hd
    obtain ⟨hb, h⟩ := bc_some h
    simp at h hb; obtain ⟨rfl, rfl⟩ := h
    obtain rfl := hx
    refine ⟨rfl, _, ?_, rfl⟩
    simp only [convert, Sem.run_bind, run_desc hT hs, run_desc hT hd, Result.andThen_ok, Conv.intToString, Sem.run_pure]
    have hv : Utf8.valid n = true := by unfold Utf8.valid; simp; omega
    have hlt : n.toNat < 128 := by omega
    simp only [Utf8.encode, hv, if_true]
    rw [if_pos hlt]
  · exact absurd ⟨by assumption, by assumption⟩ (hno _)
  · rename_i e tk n cs hs hd
    split at h
    · rename_i he
      obtain ⟨hb, h⟩ := bc_some h
      split at h
      · rename_i bs hbs
        simp at h; obtain ⟨rfl, rfl⟩ := h
        have hn : n = cs.length := Nat.eq_of_beq_eq_true hb
        obtain ⟨a, cap, rfl, _, _, hk, _⟩ := hx
        refine ⟨rfl, .string ⟨⟨bs⟩⟩, ?_, rfl⟩
        simp only [convert, Sem.run_bind, run_desc hT hs, run_desc hT hd, Result.andThen_ok, run_desc hT he]
        rcases hk with rfl | ⟨b, o, rfl, hk⟩
        · simp [bytesOf] at hbs; subst hbs
          simp at hn; subst hn
          cases a with
          | none => rfl
          | some a => simp [Conv.bytesToString, loadCells, loadCellsFrom]; rfl
        · obtain ⟨vs, k1, k2⟩ := hk.list
          subst hn
          exact bytesToString_sound hbs k1 k2 cap
      · simp at h
    · simp at h
  · rename_i e r off n hs hd
    split at h
    · rename_i xs he hb
      obtain ⟨hl, h⟩ := bc_some h
      split at h
      · rename_i bs hbs
        simp at h; obtain ⟨rfl, rfl⟩ := h
        obtain ⟨hr, cap, hc, rfl⟩ := hx
        refine ⟨rfl, .string ⟨⟨bs⟩⟩, ?_, rfl⟩
        simp only [convert, Sem.run_bind, run_desc hT hs, run_desc hT hd, Result.andThen_ok, run_desc hT he]
        obtain ⟨_, c, E, fr, k1, k2, k3⟩ := hH.blk r _ hb
        obtain ⟨vs, k4, k5⟩ := k3.from off
        have hln : ((xs.drop off).take n).length = n := by
          have : off + n ≤ xs.length := Nat.le_of_ble_eq_true hl
          simp; omega
        have := bytesToString_sound (P := P) (b := G.β r) (o := off) hbs (k4.take n) (fun j v hj => by
          rw [cell_of_block k1]
          rw [List.getElem?_take] at hj
          split at hj
          · exact k5 j v hj
          · simp at hj) cap
        rw [hln] at this
        exact this
      · simp at h
    · simp at h
  · simp at h
theorem RelE.length : ∀ {es : List (AV × AV)} {l : List MapEntry}, RelE G w es l → es.length = l.length
  | [], _, k => by cases k; rfl
  | (_, _) :: _, _, ⟨_, _, e, _, _, k⟩ => by subst e; simp [k.length]
theorem lenA_sound {N0 : Nat} {F : Nat → Prop} {H : List ABlk} (hT : TyOk P T) (hH : HRel N0 F G w H) {t : TypeId} {x z : AV} {X : Value} (h : lenA T H t x = some z) (hx : Rel G w x X) (ts : Array TypeId) (vs : Array Value) (u : TypeId)
    (h1 : ts[0]? = some t) (h2 : vs[0]? = some X) : ∃ V, (Builtin.len_ ts u vs).run P w = .ok V w ∧ Rel G w z V := by
  unfold lenA at h
  split at h
  · rename_i s hd
    simp at h; subst h; obtain rfl := hx
    exact ⟨_, by simp [Builtin.len_, h1, h2, run_desc hT hd]; rfl, rfl⟩
  · rename_i e tk n cs hd
    simp at h; subst h; obtain ⟨a, cap, rfl, _⟩ := hx
    exact ⟨_, by simp [Builtin.len_, h1, h2, run_desc hT hd]; rfl, rfl⟩
  · rename_i e r o n hd
    simp at h; subst h; obtain ⟨_, cap, _, rfl⟩ := hx
    exact ⟨_, by simp [Builtin.len_, h1, h2, run_desc hT hd]; rfl, rfl⟩
  · rename_i n e hd
    simp at h; subst h
    exact ⟨_, by simp [Builtin.len_, h1, h2, run_desc hT hd]; rfl, rfl⟩
  · rename_i a hd
    split at h
    · rename_i n e hd2
      simp at h; subst h
      exact ⟨_, by simp [Builtin.len_, h1, h2, run_desc hT hd, run_desc hT hd2]; rfl, rfl⟩
    · simp at h
  · rename_i k e hd
    simp at h; subst h; obtain rfl := hx
    exact ⟨_, by simp [Builtin.len_, h1, h2, run_desc hT hd]; rfl, rfl⟩
  · rename_i k e r hd
    split at h
    · rename_i es hb
      simp at h; subst h; obtain ⟨_, rfl⟩ := hx
      obtain ⟨_, ents, clock, k1, k2⟩ := hH.blk r _ hb
      refine ⟨.int .i64 ents.size, ?_, ?_⟩
      · simp [Builtin.len_, h1, h2, run_desc hT hd, run_getObj_map k1, goInt]
      · have := k2.length; simp at this; simp [Rel, this]
    · simp at h
  · simp at h
theorem minmaxFrom_sound {big : Bool} {k : IntKind} : ∀ {as : List AV} {a : Int} {z : AV} {vs : List Value}, minmaxFrom big k a as = some z → RelL G w as vs →
    ∃ V, (vs.foldlM (if big then Builtin.max2 else Builtin.min2) (.int k a)).run P w = .ok V w ∧ Rel G w z V
  | [], a, z, vs, h, hr => by
    cases hr
    simp [minmaxFrom] at h; subst h
    exact ⟨_, by simp, rfl⟩
  | c :: cs, a, z, vs, h, ⟨x, xs, e, k1, k2⟩ => by
    subst e
    unfold minmaxFrom at h
    split at h
    · simp_all
    · rename_i k' b rest heq
      simp at heq
      obtain ⟨rfl, rfl⟩ := heq
      obtain ⟨hk, h'⟩ := bc_some h
      clear h
      simp at hk; subst hk
      obtain rfl := k1
      obtain ⟨V, hV, kV⟩ := minmaxFrom_sound h' k2
      refine ⟨V, ?_, kV⟩
      cases big
      · simp only [Bool.false_eq_true, if_false] at hV ⊢
        simp only [List.foldlM_cons, Sem.run_bind, Builtin.min2, Sem.run_pure, Result.andThen_ok]
        exact hV
      · simp only [if_true] at hV ⊢
        simp only [List.foldlM_cons, Sem.run_bind, Builtin.max2, Sem.run_pure, Result.andThen_ok]
        exact hV
    · simp at h
theorem minmax_sound {big : Bool} {as : List AV} {z : AV} {vs : Array Value} (h : minmax big as = some z) (hr : RelL G w as vs.toList) (ts : Array TypeId) (u : TypeId) :
    ∃ V, (if big then Builtin.max_ ts u vs else Builtin.min_ ts u vs).run P w = .ok V w ∧ Rel G w z V := by
  unfold minmax at h
  split at h
  · obtain ⟨x, xs, e, k1, k2⟩ := hr
    obtain rfl := k1
    obtain ⟨V, hV, kV⟩ := minmaxFrom_sound (P := P) h k2
    refine ⟨V, ?_, kV⟩
    cases big
    · simpa [Builtin.min_, e] using hV
    · simpa [Builtin.max_, e] using hV
  · simp at h

/-! ### maps -/
def KeyDesc : TypeDesc → AV → Prop
  | .bool, .bool _ => True
  | .int k, .int k' _ => k = k'
  | .string, .str _ => True
  | _, _ => False
theorem keyOk_desc {t : TypeId} {k : AV} (h : keyOk T t k = true) : ∃ d, descT T t = some d ∧ KeyDesc d k := by
  unfold keyOk at h
  split at h
  · split at h
    · rename_i hd; exact ⟨_, hd, trivial⟩
    · simp at h
  · split at h
    · rename_i hd; exact ⟨_, hd, by simp at h; exact h.symm⟩
    · simp at h
  · split at h
    · rename_i hd; exact ⟨_, hd, trivial⟩
    · simp at h
  · simp at h
theorem KeyDesc.isKey {d : TypeDesc} {k : AV} {K : Value} (h : KeyDesc d k) (hk : Rel G w k K) : IsKey d K := by
  cases d <;> cases k <;> simp [KeyDesc] at h <;> obtain rfl := hk <;> simp_all [IsKey]
theorem sameCell_now {d : TypeDesc} {k x : AV} {K X : Value} {r : Bool} (h : sameCell k x = some r) (hd : KeyDesc d k) (hk : Rel G w k K) (hx : Rel G w x X) : Instr.sameNow d K X = some r := by
  unfold sameCell at h
  split at h
  · simp at h; subst h; obtain rfl := hk; obtain rfl := hx
    cases d <;> simp [KeyDesc] at hd
    simp [Instr.sameNow]
  · obtain ⟨he, h⟩ := bc_some h
    simp at h he; subst h; subst he; obtain rfl := hk; obtain rfl := hx
    cases d <;> simp [KeyDesc] at hd
    simp [Instr.sameNow]
  · simp at h; subst h; obtain rfl := hk; obtain rfl := hx
    cases d <;> simp [KeyDesc] at hd
    simp only [Instr.sameNow, beq_toListBytes, ByteArray.toList_eq]
  · simp at h
theorem findA_sound {d : TypeDesc} {k : AV} {K : Value} (hd : KeyDesc d k) (hk : Rel G w k K) : ∀ {es : List (AV × AV)} {l : List MapEntry} {r : Option AV} (i : Nat), findA k es = some r → RelE G w es l →
    match r with
    | none => Instr.findNow d K l i = some none
    | some v => ∃ j V, Instr.findNow d K l i = some (some (j, V)) ∧ Rel G w v V
  | [], l, r, i, h, hr => by
    cases hr
    simp [findA] at h; subst h
    simp [Instr.findNow]
  | (x, v) :: es, l, r, i, h, ⟨e, es', he, k1, k2, k3⟩ => by
    subst he
    simp only [findA] at h
    split at h
    · rename_i hs
      simp at h; subst h
      exact ⟨i, e.val, by simp [Instr.findNow, sameCell_now hs hd hk k1], k2⟩
    · rename_i hs
      have ih := findA_sound hd hk (i + 1) h k3
      cases r with
      | none => simp only at ih ⊢; simp [Instr.findNow, sameCell_now hs hd hk k1, ih]
      | some u =>
        obtain ⟨j, V, q1, q2⟩ := ih
        exact ⟨j, V, by simp [Instr.findNow, sameCell_now hs hd hk k1, q1], q2⟩
    · simp at h
theorem tuple2_rel {x y : AV} {X Y : Value} (h : Rel G w x X) (k : Rel G w y Y) : Rel G w (.tuple [x, y]) (.tuple #[X, Y]) := ⟨_, rfl, _, _, rfl, h, _, _, rfl, k, rfl⟩
theorem lookupA_sound {N0 : Nat} {F : Nat → Prop} {H : List ABlk} (hT : TyOk P T) (hH : HRel N0 F G w H) {t : TypeId} {m k z : AV} {M K : Value} {ok : Bool} (h : lookupA T H t m k ok = some z) (hm : Rel G w m M) (hk : Rel G w k K) :
    ∃ V, (Instr.lookup t M K ok).run P w = .ok V w ∧ Rel G w z V := by
  unfold lookupA at h
  split at h
  · rename_i kt e hd
    obtain ⟨hko, h⟩ := bc_some h
    obtain ⟨d, hkd, hkk⟩ := keyOk_desc hko
    obtain ⟨i, hi, hid⟩ := descT_some hkd
    have hu := hT.desc _ _ hi
    rw [hid] at hu
    have hik := hkk.isKey hk
    have fin : ∀ (es : Array MapEntry) (r : Option AV), ((M = .map none ∧ es = #[]) ∨ ∃ r clock, M = .map (some r) ∧ w.heap[r]? = some (.map es clock)) →
        (match r with | none => Instr.findNow d K es.toList 0 = some none | some v => ∃ j V, Instr.findNow d K es.toList 0 = some (some (j, V)) ∧ Rel G w v V) →
        (match r with | some v => z = bc ok (.tuple [v, .bool true]) v | none => ∃ z0, zeroT T e = some z0 ∧ z = bc ok (.tuple [z0, .bool false]) z0) →
        ∃ V, (Instr.lookup t M K ok).run P w = .ok V w ∧ Rel G w z V := by
      intro es r hes hf hz
      cases r with
      | some v =>
        obtain ⟨j, V, q1, q2⟩ := hf
        simp only at hz; subst hz
        refine ⟨if ok then .tuple #[V, .bool true] else V, ?_, ?_⟩
        · rcases hes with ⟨rfl, rfl⟩ | ⟨r, clock, rfl, hb⟩
          · simp at q1
            simp only [Instr.lookup, Sem.run_bind, run_desc hT hd, Result.andThen_ok, run_checkKey hu hik, run_findKey (l := []) hu q1, Sem.run_pure]
          · simp only [Instr.lookup, Sem.run_bind, run_desc hT hd, Result.andThen_ok, run_getObj_map hb, run_checkKey hu hik, run_findKey hu q1, Sem.run_pure]
        · cases ok
          · exact q2
          · exact tuple2_rel q2 rfl
      | none =>
        simp only at hf
        obtain ⟨z0, hz0, rfl⟩ := hz
        obtain ⟨Z, hZ, kZ⟩ := run_zero hT hz0 w
        refine ⟨if ok then .tuple #[Z, .bool false] else Z, ?_, ?_⟩
        · rcases hes with ⟨rfl, rfl⟩ | ⟨r, clock, rfl, hb⟩
          · simp at hf
            simp only [Instr.lookup, Sem.run_bind, run_desc hT hd, Result.andThen_ok, run_checkKey hu hik, run_findKey (l := []) hu hf, Sem.run_pure, hZ]
          · simp only [Instr.lookup, Sem.run_bind, run_desc hT hd, Result.andThen_ok, run_getObj_map hb, run_checkKey hu hik, run_findKey hu hf, Sem.run_pure, hZ]
        · cases ok
          · exact kZ G w
          · exact tuple2_rel (kZ G w) rfl
    cases m with
    | nilmap =>
      obtain rfl := hm
      simp only at h
      refine fin #[] none (.inl ⟨rfl, rfl⟩) (by simp [Instr.findNow]) ?_
      cases hz : zeroT T e <;> simp [hz] at h ⊢
      exact h.symm
    | map r =>
      obtain ⟨_, rfl⟩ := hm
      simp only at h
      cases hb : nth H r with
      | none => simp [hb] at h
      | some b =>
        cases b with
        | map es =>
          obtain ⟨_, ents, clock, q1, q2⟩ := hH.blk r _ hb
          simp only [hb] at h
          cases hf : findA k es with
          | none => simp [hf] at h
          | some r =>
            refine fin ents r (.inr ⟨_, _, rfl, q1⟩) (findA_sound hkk hk 0 hf q2) ?_
            rw [hf] at h
            cases r with
            | none => cases hz : zeroT T e <;> simp [hz] at h ⊢; exact h.symm
            | some v => simp at h ⊢; exact h.symm
        | _ => simp [hb] at h
    | _ => simp at h
  · simp at h
end Go.Pm
namespace Go.Pm
open Go Go.MapKept

variable {P : Program} {T : Ty} {G : Gh} {w : World} {N0 : Nat} {F : Nat → Prop} {H : List ABlk}

theorem nth_append {α : Type} (l : List α) (x : α) (i : Nat) (y : α) : nth (l ++ [x]) i = some y ↔ nth l i = some y ∨ (i = l.length ∧ y = x) := by
  rw [nth_eq, nth_eq]
  by_cases h : i < l.length
  · rw [List.getElem?_append_left h]
    constructor
    · exact .inl
    · rintro (k | ⟨rfl, _⟩)
      · exact k
      · omega
  · rw [List.getElem?_append_right (by omega)]
    constructor
    · intro k
      right
      have : i - l.length = 0 := by
        rcases Nat.eq_zero_or_pos (i - l.length) with e | e
        · exact e
        · rw [List.getElem?_eq_none (by simp; omega)] at k; simp at k
      rw [this] at k; simp at k
      exact ⟨by omega, k.symm⟩
    · rintro (k | ⟨rfl, rfl⟩)
      · rw [List.getElem?_eq_none (by omega)] at k; simp at k
      · simp
theorem nth_setNth {α : Type} (l : List α) (r i : Nat) (x y : α) (hr : r < l.length) : nth (setNth l r x) i = some y ↔ (i ≠ r ∧ nth l i = some y) ∨ (i = r ∧ y = x) := by
  rw [setNth_eq, nth_eq, nth_eq, List.getElem?_set]
  by_cases h : r = i
  · subst h
    simp [hr, eq_comm]
  · simp [h, Ne.symm h]
theorem setNth_length {α : Type} (l : List α) (r : Nat) (x : α) : (setNth l r x).length = l.length := by rw [setNth_eq]; simp

/-- One block alone is changed, or new. -/
theorem HRel.one {G' : Gh} {w' : World} {H' : List ABlk} {r0 : Nat} {b0 : ABlk} (h : HRel N0 F G w H) (ext : Ext G w G' w') (len : G'.n = H'.length) (size : w.heap.size ≤ w'.heap.size)
    (os : w'.os = w.os) (tape : w'.tape = w.tape) (output : w'.output = w.output) (fresh : ∀ B, w'.heap.size ≤ B → G'.m B = 0) (h0 : nth H' r0 = some b0)
    (kept : ∀ r b, r ≠ r0 → nth H' r = some b → nth H r = some b ∧ G'.cur r = G.cur r) (blk0 : BRel G' w' r0 b0)
    (loc0 : (∃ b, nth H r0 = some b ∧ loc G' r0 b0 = loc G r0 b) ∨ w.heap.size ≤ loc G' r0 b0)
    (others : ∀ B, B < w.heap.size → (∀ b, nth H r0 = some b → B ≠ loc G r0 b) → w'.heap[B]? = w.heap[B]? ∧ G'.m B = G.m B) :
    HRel N0 F G' w' H' ∧ Step N0 F G.m w G'.m w' := by
  have lk : ∀ {r b}, r ≠ r0 → nth H' r = some b → nth H r = some b ∧ G'.cur r = G.cur r ∧ loc G' r b = loc G r b := by
    intro r b hr hb
    obtain ⟨k1, k2⟩ := kept r b hr hb
    have : r < G.n := by rw [h.len]; exact nth_lt k1
    exact ⟨k1, k2, loc_ext ext this k2 b⟩
  have apart : ∀ {r b}, r ≠ r0 → nth H' r = some b → loc G' r0 b0 ≠ loc G' r b := by
    intro r b hr hb
    obtain ⟨k1, k2, k3⟩ := lk hr hb
    rw [k3]
    rcases loc0 with ⟨b', q1, q2⟩ | q
    · rw [q2]; exact h.inj r0 r b' b q1 k1 (Ne.symm hr)
    · have := (h.blk r b k1).loc_lt; omega
  refine ⟨⟨len, Nat.le_trans h.base size, fresh, ?_, ?_, ?_⟩, ⟨size, os, tape, output, ?_⟩⟩
  · intro r b hb
    by_cases hr : r = r0
    · subst hr
      rw [h0] at hb; simp at hb; subst hb
      rcases loc0 with ⟨b', q1, q2⟩ | q
      · rw [q2]; exact h.foot r b' q1
      · exact .inr (Nat.le_trans h.base q)
    · obtain ⟨k1, k2, k3⟩ := lk hr hb
      rw [k3]; exact h.foot r b k1
  · intro r r' b b' hb hb' hne
    by_cases hr : r = r0
    · subst hr
      rw [h0] at hb; simp at hb; subst hb
      exact apart (Ne.symm hne) hb'
    · by_cases hr' : r' = r0
      · subst hr'
        rw [h0] at hb'; simp at hb'; subst hb'
        exact Ne.symm (apart hr hb)
      · obtain ⟨k1, k2, k3⟩ := lk hr hb
        obtain ⟨k1', k2', k3'⟩ := lk hr' hb'
        rw [k3, k3']; exact h.inj r r' b b' k1 k1' hne
  · intro r b hb
    by_cases hr : r = r0
    · subst hr
      rw [h0] at hb; simp at hb; subst hb; exact blk0
    · obtain ⟨k1, k2, k3⟩ := lk hr hb
      have hbr := h.blk r b k1
      have ho := others (loc G r b) hbr.loc_lt (fun b' hb' => h.inj r r0 b b' k1 hb' hr)
      exact hbr.ext ext (by rw [h.len]; exact nth_lt k1) k2 ho.1 ho.2
  · intro B hB hF
    refine others B (Nat.lt_of_lt_of_le hB h.base) (fun b hb e => ?_)
    rcases h.foot r0 b hb with q | q
    · exact hF (e ▸ q)
    · omega
/-- No block is changed. -/
theorem HRel.zero {G' : Gh} {w' : World} (h : HRel N0 F G w H) (ext : Ext G w G' w') (len : G'.n = G.n) (size : w.heap.size ≤ w'.heap.size) (os : w'.os = w.os) (tape : w'.tape = w.tape) (output : w'.output = w.output)
    (fresh : ∀ B, w'.heap.size ≤ B → G'.m B = 0) (kept : ∀ r, r < G.n → G'.cur r = G.cur r) (others : ∀ B, B < w.heap.size → w'.heap[B]? = w.heap[B]? ∧ G'.m B = G.m B) :
    HRel N0 F G' w' H ∧ Step N0 F G.m w G'.m w' := by
  have lk : ∀ {r b}, nth H r = some b → r < G.n := fun hb => by rw [h.len]; exact nth_lt hb
  refine ⟨⟨len.trans h.len, Nat.le_trans h.base size, fresh, ?_, ?_, ?_⟩, ⟨size, os, tape, output, fun B hB _ => others B (Nat.lt_of_lt_of_le hB h.base)⟩⟩
  · intro r b hb; rw [loc_ext ext (lk hb) (kept r (lk hb))]; exact h.foot r b hb
  · intro r r' b b' hb hb' hne; rw [loc_ext ext (lk hb) (kept r (lk hb)), loc_ext ext (lk hb') (kept r' (lk hb'))]; exact h.inj r r' b b' hb hb' hne
  · intro r b hb
    have hbr := h.blk r b hb
    exact hbr.ext ext (lk hb) (kept r (lk hb)) (others _ hbr.loc_lt).1 (others _ hbr.loc_lt).2
/-- Blocks below stay: so do their cells. -/
theorem ext_of {G' : Gh} {w' : World} (h : HRel N0 F G w H) (n : G.n ≤ G'.n) (β : ∀ r, r < G.n → G'.β r = G.β r) (cur : ∀ r, r < G.n → G'.cur r = G.cur r ∨ vlen (G.cur r) < vlen (G'.cur r)) (m : ∀ B, G.m B ≤ G'.m B)
    (others : ∀ B, B < w.heap.size → 0 < G.m B → w'.heap[B]? = w.heap[B]?) : Ext G w G' w' := by
  refine ⟨n, β, cur, m, fun B j hj => ?_⟩
  have hB : B < w.heap.size := by
    rcases Nat.lt_or_ge B w.heap.size with q | q
    · exact q
    · have := h.fresh B q; omega
  simp only [World.cell?, others B hB (by omega)]

def upd {α : Type} (f : Nat → α) (i : Nat) (x : α) : Nat → α := fun j => if j = i then x else f j
@[simp] theorem upd_same {α : Type} (f : Nat → α) (i : Nat) (x : α) : upd f i x i = x := by simp [upd]
theorem upd_ne {α : Type} (f : Nat → α) {i j : Nat} (x : α) (h : j ≠ i) : upd f i x j = f j := by simp [upd, h]

theorem push_old (w : World) (o : Obj) {B : Nat} (h : B < w.heap.size) : (w.heap.push o)[B]? = w.heap[B]? := by simp [Array.getElem?_push, Nat.ne_of_lt h]
theorem push_new (w : World) (o : Obj) : (w.heap.push o)[w.heap.size]? = some o := by simp

/-- A new variable. -/
theorem HRel.newCells (h : HRel N0 F G w H) {xs : List AV} {c : Array Value} {E : TypeId} {fr : Nat × Nat} (hr : RelP G w xs c) (hf : unfrozen fr 0 xs.length) {w' : World} (hw : w'.heap = w.heap.push (.cells c E fr))
    (os : w'.os = w.os) (tape : w'.tape = w.tape) (output : w'.output = w.output) :
    ∃ G', HRel N0 F G' w' (H ++ [.cells xs]) ∧ Ext G w G' w' ∧ Step N0 F G.m w G'.m w' ∧ Rel G' w' (.ref H.length 0) (.pointer (some ⟨w.heap.size, 0, none⟩)) ∧ G'.β H.length = w.heap.size ∧ G'.n = H.length + 1 := by
  let G' : Gh := ⟨G.n + 1, upd G.β G.n w.heap.size, G.cur, G.m⟩
  have hsz : w'.heap.size = w.heap.size + 1 := by rw [hw]; simp
  have hb : G'.β H.length = w.heap.size := by show upd G.β G.n w.heap.size H.length = _; rw [h.len]; simp
  have ext : Ext G w G' w' := ext_of h (Nat.le_succ _) (fun r hr => upd_ne _ _ (by omega)) (fun _ _ => .inl rfl) (fun _ => Nat.le_refl _) (fun B hB _ => by rw [hw]; exact push_old w _ hB)
  have := h.one (G' := G') (w' := w') (H' := H ++ [.cells xs]) (r0 := H.length) (b0 := .cells xs) ext (by show G.n + 1 = _; rw [h.len]; simp) (by omega) os tape output
    (fun B hB => h.fresh B (by omega)) (by rw [nth_eq]; simp)
    (fun r b hne hb => by
      rcases (nth_append H (.cells xs) r b).1 hb with k | ⟨k, _⟩
      · exact ⟨k, rfl⟩
      · exact absurd k hne)
    ⟨by rw [hb]; exact h.fresh _ (Nat.le_refl _), c, E, fr, by rw [hb, hw]; exact push_new w _, hf, hr.ext ext⟩
    (.inr (by show w.heap.size ≤ G'.β H.length; rw [hb]; exact Nat.le_refl _))
    (fun B hB _ => ⟨by rw [hw]; exact push_old w _ hB, rfl⟩)
  refine ⟨G', this.1, ext, this.2, ⟨by show H.length < G.n + 1; rw [h.len]; omega, by rw [hb]⟩, hb, by show G.n + 1 = _; rw [h.len]⟩
theorem HRel.newMap (h : HRel N0 F G w H) {w' : World} (hw : w'.heap = w.heap.push (.map #[] 0)) (os : w'.os = w.os) (tape : w'.tape = w.tape) (output : w'.output = w.output) :
    ∃ G', HRel N0 F G' w' (H ++ [.map []]) ∧ Ext G w G' w' ∧ Step N0 F G.m w G'.m w' ∧ Rel G' w' (.map H.length) (.map (some w.heap.size)) := by
  let G' : Gh := ⟨G.n + 1, upd G.β G.n w.heap.size, G.cur, G.m⟩
  have hsz : w'.heap.size = w.heap.size + 1 := by rw [hw]; simp
  have hb : G'.β H.length = w.heap.size := by show upd G.β G.n w.heap.size H.length = _; rw [h.len]; simp
  have ext : Ext G w G' w' := ext_of h (Nat.le_succ _) (fun r hr => upd_ne _ _ (by omega)) (fun _ _ => .inl rfl) (fun _ => Nat.le_refl _) (fun B hB _ => by rw [hw]; exact push_old w _ hB)
  have := h.one (G' := G') (w' := w') (H' := H ++ [.map []]) (r0 := H.length) (b0 := .map []) ext (by show G.n + 1 = _; rw [h.len]; simp) (by omega) os tape output
    (fun B hB => h.fresh B (by omega)) (by rw [nth_eq]; simp)
    (fun r b hne hb => by
      rcases (nth_append H (.map []) r b).1 hb with k | ⟨k, _⟩
      · exact ⟨k, rfl⟩
      · exact absurd k hne)
    ⟨by rw [hb]; exact h.fresh _ (Nat.le_refl _), #[], 0, by rw [hb, hw]; exact push_new w _, rfl⟩
    (.inr (by show w.heap.size ≤ G'.β H.length; rw [hb]; exact Nat.le_refl _))
    (fun B hB _ => ⟨by rw [hw]; exact push_old w _ hB, rfl⟩)
  exact ⟨G', this.1, ext, this.2, by show H.length < G.n + 1; rw [h.len]; omega, by rw [hb]⟩

/-! ### stores -/
theorem writeAt_eq : ∀ (ys xs : List AV) (i : Nat), i + ys.length ≤ xs.length → writeAt xs i ys = xs.take i ++ ys ++ xs.drop (i + ys.length)
  | [], xs, i, _ => by simp [writeAt]
  | y :: ys, xs, i, h => by
    simp at h
    have hi : i < xs.length := by omega
    rw [writeAt, writeAt_eq ys _ _ (by rw [setNth_length]; omega), setNth_eq]
    rw [List.take_set, List.drop_set_of_lt (by omega)]
    have e1 : (xs.take (i + 1)).set i y = xs.take i ++ [y] := by
      rw [List.take_succ_eq_append_getElem hi, List.set_append_right _ _ (by simp; omega)]
      simp [Nat.min_eq_left (Nat.le_of_lt hi)]
    rw [e1]
    simp [Nat.add_assoc, Nat.add_comm 1]
theorem heap_setCells : ∀ (vs : List Value) (o : Nat) (w : World) (b : Nat) (c : Array Value) (E : TypeId) (fr : Nat × Nat), w.heap[b]? = some (.cells c E fr) → o + vs.length ≤ c.size →
    ∃ c', (w.setCells b o vs).heap[b]? = some (.cells c' E fr) ∧ c'.toList = c.toList.take o ++ vs ++ c.toList.drop (o + vs.length) ∧ (∀ B, B ≠ b → (w.setCells b o vs).heap[B]? = w.heap[B]?) ∧
      (w.setCells b o vs).heap.size = w.heap.size ∧ (w.setCells b o vs).os = w.os ∧ (w.setCells b o vs).tape = w.tape ∧ (w.setCells b o vs).output = w.output
  | [], o, w, b, c, E, fr, h, _ => ⟨c, h, by simp, fun _ _ => rfl, rfl, rfl, rfl, rfl⟩
  | v :: vs, o, w, b, c, E, fr, h, hl => by
    simp at hl
    have hlt : b < w.heap.size := (Array.getElem?_eq_some_iff.1 h).1
    have h1 : (w.setCell ⟨b, o, none⟩ v).heap[b]? = some (.cells (c.setIfInBounds o v) E fr) := by
      simp [World.setCell, Array.getElem?_modify, h]
    obtain ⟨c', k1, k2, k3, k4, k5, k6, k7⟩ := heap_setCells vs (o + 1) (w.setCell ⟨b, o, none⟩ v) b _ E fr h1 (by simp; omega)
    refine ⟨c', k1, ?_, fun B hB => ?_, ?_, ?_, ?_, ?_⟩
    · rw [k2]
      simp only [Array.toList_setIfInBounds]
      have ho : o < c.toList.length := by simp; omega
      rw [List.take_set, List.drop_set_of_lt (by omega)]
      have e1 : (c.toList.take (o + 1)).set o v = c.toList.take o ++ [v] := by
        rw [List.take_succ_eq_append_getElem ho, List.set_append_right _ _ (by simp; omega)]
        have hom : min o c.size = o := Nat.min_eq_left (by omega)
        simp [hom]
      rw [e1]
      simp [Nat.add_assoc, Nat.add_comm 1]
    · rw [show w.setCells b o (v :: vs) = (w.setCell ⟨b, o, none⟩ v).setCells b (o + 1) vs from rfl, k3 B hB]
      simp [World.setCell, Array.getElem?_modify, Ne.symm hB]
    · rw [show w.setCells b o (v :: vs) = (w.setCell ⟨b, o, none⟩ v).setCells b (o + 1) vs from rfl, k4]
      simp [World.setCell]
    · exact k5.trans rfl
    · exact k6.trans rfl
    · exact k7.trans rfl
theorem RelL.flat_one : ∀ {xs : List AV} {vs : List Value}, RelL G w xs vs → xs.all AV.flat = true → ∀ u ∈ vs, u.oneCell' = true
  | [], _, h, _ => by cases h; simp
  | x :: xs, _, ⟨v, vs, e, k1, k2⟩, h => by
    subst e
    simp only [List.all_cons, Bool.and_eq_true] at h
    intro u hu
    rcases List.mem_cons.1 hu with rfl | hu
    · obtain ⟨q1, q2⟩ := k1.flat h.1
      cases u <;> simp_all [Value.oneCell']
    · exact k2.flat_one h.2 u hu
theorem frozen_of {b i : Nat} {c : Array Value} {E : TypeId} {fr : Nat × Nat} (h : w.heap[b]? = some (.cells c E fr)) (hf : ¬ (fr.1 ≤ i ∧ i < fr.2)) : w.frozen? ⟨b, i, none⟩ = false := by
  simp only [World.frozen?, h]
  simp only [Bool.and_eq_false_iff, decide_eq_false_iff_not]
  rcases Nat.lt_or_ge i fr.1 with q | q
  · exact .inl (by omega)
  · exact .inr fun k => hf ⟨q, k⟩
theorem storeA_sound (hT : TyOk P T) (hH : HRel N0 F G w H) {t : TypeId} {x a : AV} {X A : Value} {H' : List ABlk} (h : storeA T H t x a = some H') (hx : Rel G w x X) (ha : Rel G w a A) :
    ∃ w', (Instr.storeAt t A X).run P w = .ok () w' ∧ HRel N0 F G w' H' ∧ Ext G w G w' ∧ Step N0 F G.m w G.m w' := by
  unfold storeA at h
  split at h
  · rename_i r off
    obtain ⟨hr, rfl⟩ := ha
    split at h
    · rename_i xs sz hb hs
      obtain ⟨hc, h⟩ := bc_some h
      simp at h; subst h
      simp only [Bool.and_eq_true] at hc
      obtain ⟨⟨hc1, hc2⟩, hc3⟩ := hc
      have hc1 : x.cells.length = sz := Nat.eq_of_beq_eq_true hc1
      have hc2 : off + sz ≤ xs.length := Nat.le_of_ble_eq_true hc2
      have kx := hx.cells
      have hlen := kx.length
      obtain ⟨km, c, E, fr, k1, k2, vs, rest, k3, k4⟩ := hH.blk r _ hb
      have hvs := k4.length
      have hcs : c.size = vs.length + rest.length := by rw [← Array.length_toList, k3]; simp
      have hfit : off + X.cells.toList.length ≤ c.size := by omega
      obtain ⟨c', q1, q2, q3, q4, q5, q6, q7⟩ := heap_setCells X.cells.toList off w (G.β r) c E fr k1 hfit
      have hrun := run_storeCells_cells (P := P) (G.β r) off X.cells.toList 0 w
        (fun j hj => by
          rw [cell_of_block k1]
          simp; omega)
        (fun j hj => frozen_of k1 (k2 _ (by omega) (by omega)))
        (kx.flat_one hc3)
      have hsz : X.cells.size = sz := by rw [← Array.length_toList]; omega
      simp only [Nat.add_zero] at hrun
      refine ⟨w.setCells (G.β r) off X.cells.toList, ?_, ?_⟩
      · have e : X.cells.toList = X.cells.toList := rfl
        simp only [Instr.storeAt, Instr.sureAddr, storeVar, Sem.run_bind, Sem.run_pure, Result.andThen_ok, run_size hT hs, hsz, ne_eq, not_true_eq_false, if_false]
        exact hrun
      · have ext : Ext G w G (w.setCells (G.β r) off X.cells.toList) := ext_of hH (Nat.le_refl _) (fun _ _ => rfl) (fun _ _ => .inl rfl) (fun _ => Nat.le_refl _) (fun B hB hm => q3 B (fun e => by subst e; omega))
        have := hH.one (G' := G) (H' := setNth H r (.cells (writeAt xs off x.cells))) (r0 := r) (b0 := .cells (writeAt xs off x.cells)) ext (by rw [setNth_length]; exact hH.len) (by omega) q5 q6 q7
          (fun B hB => hH.fresh B (by omega)) ((nth_setNth H r r _ _ (nth_lt hb)).2 (.inr ⟨rfl, rfl⟩))
          (fun r' b' hne hb' => by
            rcases (nth_setNth H r r' _ _ (nth_lt hb)).1 hb' with ⟨_, k⟩ | ⟨k, _⟩
            · exact ⟨k, rfl⟩
            · exact absurd k hne)
          ⟨km, c', E, fr, q1, ?_, vs.take off ++ X.cells.toList ++ vs.drop (off + X.cells.toList.length), rest, ?_, ?_⟩
          (.inl ⟨_, hb, rfl⟩)
          (fun B hB hne => ⟨q3 B (hne _ hb), rfl⟩)
        · exact ⟨this.1, ext, this.2⟩
        · rw [writeAt_eq _ _ _ (by omega)]
          simp only [List.length_append, List.length_take, List.length_drop]
          have : min off xs.length + x.cells.length + (xs.length - (off + x.cells.length)) = xs.length := by omega
          rw [this]; exact k2
        · rw [q2, k3, List.take_append_of_le_length (by omega), List.drop_append_of_le_length (by omega)]
          simp
        · rw [writeAt_eq _ _ _ (by omega), show x.cells.length = X.cells.toList.length from hlen]
          exact (((k4.take off).append kx).append (k4.drop _)).ext ext
    · simp at h
  · simp at h
end Go.Pm
