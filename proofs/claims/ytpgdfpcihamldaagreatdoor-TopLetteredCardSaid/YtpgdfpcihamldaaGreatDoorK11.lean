/-
The seat's tables say what its program says.
The library's functions that the plain machine does not enter: internal/stringslite.IndexByte.
-/
import Derived.Test.YtpgdfpcihamldaaGreatDoorK10
import Derived.Test.YtpgdfpcihamldaaGreatDoorK02
import Derived.Test.YtpgdfpcihamldaaGreatDoorChecked
import Derived.Lib.Strings
import Derived.Lib.Slices
import Derived.Lib.Walk
import Derived.Lib.Bytealg
namespace Pt
open Go Go.Pm Go.Proofs

noncomputable def said (t : Nat) : Option TypeDesc × Option (Nat × Nat × Option AV) := (Tryz.prog.underlying t, (Tryz.prog.info? t).map fun x => (x.size, x.bytes, x.zero.bind ofVal))
noncomputable def held (i : TI) : Option TypeDesc × Option (Nat × Nat × Option AV) := (some i.desc, some (i.size, i.bytes, i.zero))
set_option maxRecDepth 1000000
theorem types_said : types.mapK (fun t _ => said t) = types.mapK (fun _ i => held i) := by kernel_rfl
theorem funcs_said : funcs.mapK (fun f _ => Tryz.prog.funcs[f]?) = funcs.mapK (fun _ fn => some fn) := by kernel_rfl
theorem funcs_body : funcs.mapK (fun _ fn => fn.body.isSome && !(fn.name == "runtime.NumGoroutine")) = funcs.mapK (fun _ _ => true) := by kernel_rfl
noncomputable def bodyOk (fn : Func) : Bool := match fn.body with | some c => codeOk c | none => true
theorem funcs_draw : funcs.mapK (fun _ fn => bodyOk fn) = funcs.mapK (fun _ _ => true) := by kernel_rfl
noncomputable def fieldsIn (i : TI) : Array Field := match i.desc with | .struct fs => fs | _ => #[]
noncomputable def plainB : Nat → List Field → Bool
  | _, [] => true
  | i, f :: fs => !(f.name == "_") && Nat.beq f.offset i && plainB (i + 1) fs
theorem eq_guards : types.mapK (fun t i => bc i.eqOk (Tryz.prog.stoodInHeld t || Tryz.prog.eqGuardType Tryz.prog.depth t) false) = types.mapK (fun _ _ => false) := by kernel_rfl
theorem eq_fields : types.mapK (fun t i => bc i.eqOk (some (Tryz.prog.fieldsOf t)) none) = types.mapK (fun _ i => bc i.eqOk (some (fieldsIn i)) none) := by kernel_rfl
theorem eq_plain : types.mapK (fun _ i => bc i.eqOk (plainB 0 (fieldsIn i).toList) true) = types.mapK (fun _ _ => true) := by kernel_rfl
theorem mixed : Tryz.prog.follows .mixedOrders = true := by kernel_rfl
theorem kws_pure : kws.all AV.pure = true := by kernel_rfl
theorem pow10_pure : pow10.all AV.pure = true := by kernel_rfl
theorem db64_pure : db64.all AV.pure = true := by kernel_rfl
theorem plainB_sound : ∀ (i : Nat) (l : List Field), plainB i l = true → PlainOff i l
  | _, [], _ => trivial
  | i, f :: fs, h => by
    simp only [plainB, Bool.and_eq_true, Bool.not_eq_true', beq_eq_false_iff_ne] at h
    exact ⟨h.1.1, Nat.eq_of_beq_eq_true h.1.2, plainB_sound (i + 1) fs h.2⟩
theorem tyOk : TyOk Tryz.prog env.ty := by
  have key : ∀ t i, types.find t = some i → said t = held i := fun t i h => Tree.find_same types_said h
  refine ⟨fun t i h => ?_, fun t i h => ?_⟩
  · exact congrArg Prod.fst (key t i h)
  · have h2 : (Tryz.prog.info? t).map (fun x => (x.size, x.bytes, x.zero.bind ofVal)) = some (i.size, i.bytes, i.zero) := congrArg Prod.snd (key t i h)
    cases hi : Tryz.prog.info? t with
    | none => rw [hi] at h2; simp at h2
    | some inf =>
      rw [hi] at h2
      simp at h2
      refine ⟨inf, rfl, h2.1, h2.2.1, fun z hz => ?_⟩
      rw [hz] at h2
      cases hv : inf.zero with
      | none => rw [hv] at h2; simp at h2
      | some v => rw [hv] at h2; exact ⟨v, rfl, h2.2.2⟩
theorem eqOk : EqOk Tryz.prog env.ty := by
  refine ⟨fun t i fs h he hd => ?_⟩
  have h1 := Tree.find_same eq_guards h
  have h2 := Tree.find_same eq_fields h
  have h3 := Tree.find_same eq_plain h
  simp only [he, bc_true, Bool.or_eq_false_iff, Option.some.injEq] at h1 h2 h3
  have hf : fieldsIn i = fs := by simp only [fieldsIn, hd]
  rw [hf] at h2 h3
  exact ⟨h1.1, h1.2, h2.symm, plainB_sound _ _ h3⟩
theorem funcOk : ∀ f fn, env.func f = some fn → env.P.funcs[f]? = some fn ∧ fn.body.isSome = true ∧ (fn.name == "runtime.NumGoroutine") = false := by
  intro f fn h
  have h1 := Tree.find_same funcs_said h
  have h2 := Tree.find_same funcs_body h
  simp only [Bool.and_eq_true, Bool.not_eq_true'] at h2
  exact ⟨h1, h2.1, h2.2⟩
theorem globOk : ∀ g cs, env.glob g = some cs → cs.all AV.pure = true := by
  intro g cs h
  have h : bc (Nat.beq g 1) (some kws) (bc (Nat.beq g 2) (some pow10) (bc (Nat.beq g 6) (some db64) none)) = some cs := h
  rw [bc_eq, bc_eq, bc_eq] at h
  split at h
  · simp at h; subst h; exact kws_pure
  split at h
  · simp at h; subst h; exact pow10_pure
  split at h
  · simp at h; subst h; exact db64_pure
  · simp at h
theorem envOk : EnvOk env := ⟨tyOk, eqOk, funcOk, mixed, globOk⟩
theorem drawsOk : DrawsOk env := by
  intro f fn c hf hc
  have h := Tree.find_same funcs_draw hf
  simpa only [bodyOk, hc] using h
end Pt
namespace Go.Proofs
open Go Go.Pm

set_option maxHeartbeats 1000000 in
set_option maxRecDepth 100000 in
theorem Tryz.indexByte_calls (s : ByteArray) (c : Int) (w : World) :
    Calls Tryz.prog 168 #[.string s, .int .u8 c] w fun e w' => e = .returned (.int .i64 (Lib.indexByte s.data.toList c.toNat.toUInt8)) ∧ w' = w := by
  go_enter Tryz.func168, Tryz.ntmps168
  go_wp2
  rw [run_callFunc_extern Tryz.func202 (by kernel_rfl) (by kernel_rfl) (by kernel_rfl) (e := Extern.BytealgIndexByte.indexByte) (by kernel_rfl), Lib.run_indexByteString]
  simp only [Result.andThen]
  rw [Oper.upon_value]
  go_wp2
  go_ret
  exact ⟨rfl, rfl⟩
theorem indexByteA_eq (c : UInt8) : ∀ (s : List UInt8) (i : Nat), indexByteA s c i = if Lib.indexByte s c = -1 then -1 else Lib.indexByte s c + i
  | [], i => by simp [indexByteA, Lib.indexByte]
  | b :: l, i => by
    have ge := Lib.indexByte_ge l c
    simp only [indexByteA, Lib.indexByte, bc_eq]
    rw [indexByteA_eq c l (i + 1)]
    by_cases hb : (b == c) = true
    · simp only [hb, if_true]; simp
    · simp only [hb, if_false, Bool.false_eq_true]
      by_cases h : Lib.indexByte l c = -1
      · simp [h]
      · have hb' : (Lib.indexByte l c == -1) = false := by simpa using h
        have : Lib.indexByte l c + 1 ≠ -1 := by omega
        simp only [h, hb', if_false, this, Bool.false_eq_true]
        push_cast
        omega
theorem enters168 : Enters Tryz.prog 168 := ⟨Tryz.f168, Tryz.func168, by kernel_rfl, by kernel_rfl⟩
theorem good168 : GoodAt Pt.env 168 iIndexByte := by
  intro args H e H1 hr
  refine ⟨enters168, fun G w vs h hgl ha => ?_⟩
  unfold iIndexByte at hr
  split at hr
  · rename_i s c
    simp [rET] at hr
    obtain ⟨rfl, rfl⟩ := hr
    obtain ⟨V, Vs, rfl, k1, V2, Vs2, rfl, k2, rfl⟩ := ha
    obtain rfl := k1
    obtain rfl := k2
    refine (Tryz.indexByte_calls _ _ w).mono ?_
    rintro en w' ⟨rfl, rfl⟩
    refine ⟨G, h, Ext.refl _ _, Step.refl _ _, ?_⟩
    show Value.int .i64 _ = Value.int .i64 _
    have := indexByteA_eq (UInt8.ofNat c.toNat) s 0
    simp only [Int.natCast_zero, Int.add_zero] at this
    rw [this]
    by_cases hn : Lib.indexByte s (UInt8.ofNat c.toNat) = -1
    · simp [hn]
    · simp [hn]
  · simp at hr
end Go.Proofs
