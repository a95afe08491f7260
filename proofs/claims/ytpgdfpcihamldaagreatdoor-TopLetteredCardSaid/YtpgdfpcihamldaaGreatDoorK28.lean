/-
For every input, redresstop.TopLettered returns true, and its arguments read behind the call as they read before.
Conditions: the package-level variables that the row lists read, when the call begins, as the program's text lays them (the card ties them to that text; the tie was given).
-/
import Derived.Test.YtpgdfpcihamldaaGreatDoorK27
import Derived.Test.YtpgdfpcihamldaaGreatDoorCards
import Derived.Test.YtpgdfpcihamldaaGreatDoorTie
import Derived.SevenTiedAt
namespace Go.Proofs.YtpgdfpcihamldaaGreatDoor
open Go Go.Proofs Go.ChangeShapes Go.WideShapes Go.RowKit
set_option maxRecDepth 100000
theorem door_met (os : Os) (args : Array Value) : laidMetH Tryz.prog laid4 ((World.doorLaid Tryz.prog 400 os).forCall (fun _ _ => 0) ⟨#[], args, []⟩).memory :=
  laidMetH_of_parts3 (fuel := 8) (laidMet_of_run' 8 (by kernel_rfl) (by kernel_rfl)) (by kernel_rfl) (by kernel_rfl)
theorem params4 : Tryz.f4.params.toList = [5, 5, 5, 25, 9, 25, 26, 9, 26, 5] := rfl
theorem func4 : Tryz.prog.funcs[4]? = some Tryz.f4 := by kernel_rfl
theorem topLettered_lifted (os : Os) (started : os.Started) (H : Type) (enc : TypeId × Value → H) :
    ReturnsInHanded {} Tryz.checked os 4 .any (fun w args => (Rows.topLetteredSpec.pre enc Tryz.prog Tryz.f4 [] false w args ∧ laidMetH Tryz.prog laid4 w) ∧ sizedMet enc Tryz.prog Tryz.f4 (OpenSpec.ofChange Rows.topLetteredSpec) false w args)
      (Rows.topLetteredSpec.post enc Tryz.prog Tryz.f4 false true false false) := by
  refine returnsInHanded_of_change_and (C := Tryz.checked) (X := fun w _ => laidMetH Tryz.prog laid4 w) (fun _ _ _ hh h => h.of_heap hh) own started (by kernel_rfl) func4
    (ChangeSpec.witness_shaped (enc := enc) (C := Tryz.checked) (os := os) (X := fun w _ => laidMetH Tryz.prog laid4 w) false (World.doorLaid Tryz.prog 400 os) #[.int .u8 0, .int .u8 0, .int .u8 0, .int .u64 0, .string ⟨#[]⟩, .int .u64 0, .int .u16 0, .string ⟨#[]⟩, .int .u16 0, .int .u8 0] 8 rfl (World.shaped_of_RefB (by kernel_rfl) (by kernel_rfl)) (by kernel_rfl) (by kernel_rfl) (by kernel_rfl) (door_met os _)) ?_
  intro W base args ds gs before hval0 hW _ _ hL _
  have hval : ∀ (j : Nat) t v, Tryz.f4.params[j]? = some t → args[j]? = some v → Value.okWide Tryz.prog W .any base t v := hval0
  have hW' := hW
  obtain ⟨p, q, hA0, hV, rfl, hfz, hnd⟩ := hW
  have hA : DataW.TrodAll enc Tryz.prog W 0 (fun _ => true) true Tryz.f4.params.toList args.toList ds p := hA0
  rw [params4] at hA
  obtain ⟨rfl, rfl⟩ := trodVars_none hV
  obtain ⟨v0, r0, d0, e0, p0, q0, av0, ad0, ap0, t0, hA1⟩ := trodAll_cons hA
  obtain ⟨v1, r1, d1, e1, p1, q1, av1, ad1, ap1, t1, hA2⟩ := trodAll_cons hA1
  obtain ⟨v2, r2, d2, e2, p2, q2, av2, ad2, ap2, t2, hA3⟩ := trodAll_cons hA2
  obtain ⟨v3, r3, d3, e3, p3, q3, av3, ad3, ap3, t3, hA4⟩ := trodAll_cons hA3
  obtain ⟨v4, r4, d4, e4, p4, q4, av4, ad4, ap4, t4, hA5⟩ := trodAll_cons hA4
  obtain ⟨v5, r5, d5, e5, p5, q5, av5, ad5, ap5, t5, hA6⟩ := trodAll_cons hA5
  obtain ⟨v6, r6, d6, e6, p6, q6, av6, ad6, ap6, t6, hA7⟩ := trodAll_cons hA6
  obtain ⟨v7, r7, d7, e7, p7, q7, av7, ad7, ap7, t7, hA8⟩ := trodAll_cons hA7
  obtain ⟨v8, r8, d8, e8, p8, q8, av8, ad8, ap8, t8, hA9⟩ := trodAll_cons hA8
  obtain ⟨v9, r9, d9, e9, p9, q9, av9, ad9, ap9, t9, hA10⟩ := trodAll_cons hA9
  obtain ⟨rfl, rfl, rfl⟩ := trodAll_nil hA10
  subst av9 ad9 ap9
  subst av8 ad8 ap8
  subst av7 ad7 ap7
  subst av6 ad6 ap6
  subst av5 ad5 ap5
  subst av4 ad4 ap4
  subst av3 ad3 ap3
  subst av2 ad2 ap2
  subst av1 ad1 ap1
  subst ad0 ap0
  have hargs : args = #[v0, v1, v2, v3, v4, v5, v6, v7, v8, v9] := Array.toList_inj.1 av0
  subst hargs
  obtain ⟨n0, rfl, rfl, rfl, w0⟩ := open_int u5 (hval 0 5 v0 rfl rfl) t0
  obtain ⟨n1, rfl, rfl, rfl, w1⟩ := open_int u5 (hval 1 5 v1 rfl rfl) t1
  obtain ⟨n2, rfl, rfl, rfl, w2⟩ := open_int u5 (hval 2 5 v2 rfl rfl) t2
  obtain ⟨n3, rfl, rfl, rfl, w3⟩ := open_int u25 (hval 3 25 v3 rfl rfl) t3
  obtain ⟨s4, rfl, rfl, rfl, w4⟩ := Go.ChangeMaps.open_string u9 (hval 4 9 v4 rfl rfl) t4
  obtain ⟨n5, rfl, rfl, rfl, w5⟩ := open_int u25 (hval 5 25 v5 rfl rfl) t5
  obtain ⟨n6, rfl, rfl, rfl, w6⟩ := open_int u26 (hval 6 26 v6 rfl rfl) t6
  obtain ⟨s7, rfl, rfl, rfl, w7⟩ := Go.ChangeMaps.open_string u9 (hval 7 9 v7 rfl rfl) t7
  obtain ⟨n8, rfl, rfl, rfl, w8⟩ := open_int u26 (hval 8 26 v8 rfl rfl) t8
  obtain ⟨n9, rfl, rfl, rfl, w9⟩ := open_int u5 (hval 9 5 v9 rfl rfl) t9
  obtain ⟨b0, rfl⟩ := u8_of n0 w0
  obtain ⟨b1, rfl⟩ := u8_of n1 w1
  obtain ⟨b2, rfl⟩ := u8_of n2 w2
  obtain ⟨b3, rfl, l3⟩ := u64_of n3 w3
  obtain ⟨b5, rfl, l5⟩ := u64_of n5 w5
  obtain ⟨b6, rfl, l6⟩ := u16_of n6 w6
  obtain ⟨b8, rfl, l8⟩ := u16_of n8 w8
  obtain ⟨b9, rfl⟩ := u8_of n9 w9
  simp only [List.append_nil] at hW'
  obtain ⟨H1, hrun⟩ := f4_ok 1000 (by omega) wakes_at b0 b1 b2 b9 b3 b5 b6 b8 l3 l5 l8 s4.data.toList s7.data.toList
  refine (law_run hrun hL (vs := [.int .u8 b0.toNat, .int .u8 b1.toNat, .int .u8 b2.toNat, .int .u64 b3, .string s4, .int .u64 b5, .int .u16 b6, .string s7, .int .u16 b8, .int .u8 b9.toNat]) ?_).mono fun e W' ⟨he, hk⟩ => ?_
  · simp only [Go.Pm.RelL, Go.Pm.Rel]
    exact ⟨_, _, rfl, rfl, _, _, rfl, rfl, _, _, rfl, rfl, _, _, rfl, rfl, _, _, rfl, rfl, _, _, rfl, rfl, _, _, rfl, rfl, _, _, rfl, rfl, _, _, rfl, rfl, _, _, rfl, rfl, rfl⟩
  · subst he
    have e1 : Rows.topLetteredSpec.fn H ([.lit (.int .u8 b0.toNat), .lit (.int .u8 b1.toNat), .lit (.int .u8 b2.toNat), .lit (.int .u64 b3), .lit (.string s4.data.toList), .lit (.int .u64 b5), .lit (.int .u16 b6), .lit (.string s7.data.toList), .lit (.int .u16 b8), .lit (.int .u8 b9.toNat)] ++ []) = { results := [.lit (.bool true)], args := [.lit (.int .u8 b0.toNat), .lit (.int .u8 b1.toNat), .lit (.int .u8 b2.toNat), .lit (.int .u64 b3), .lit (.string s4.data.toList), .lit (.int .u64 b5), .lit (.int .u16 b6), .lit (.string s7.data.toList), .lit (.int .u16 b8), .lit (.int .u8 b9.toNat)] } := by simp [Rows.topLetteredSpec]
    refine ⟨_, rfl, _, _, _, [], [], [], hW', ?_, ?_, ?_, hk _, fun h => by cases h⟩
    · rw [e1]; exact trodAll_mk1 (shut_bool u4 true)
    · rw [e1]; exact ⟨[], [], shut_int u5 w0, ⟨[], [], shut_int u5 w1, ⟨[], [], shut_int u5 w2, ⟨[], [], shut_int u25 w3, ⟨[], [], Go.ChangeMaps.shut_string u9 w4, ⟨[], [], shut_int u25 w5, ⟨[], [], shut_int u26 w6, ⟨[], [], Go.ChangeMaps.shut_string u9 w7, ⟨[], [], shut_int u26 w8, ⟨[], [], shut_int u5 w9, rfl, rfl⟩, rfl⟩, rfl⟩, rfl⟩, rfl⟩, rfl⟩, rfl⟩, rfl⟩, rfl⟩, rfl⟩
    · rw [e1]; rfl
theorem topLettered_row : Rows.TopLetteredSaid :=
  OpenClaim.holds_of_wide 4 Tryz.f4 rfl rfl rfl rfl rfl rfl rfl ⟨rfl, rfl, rfl, rfl, rfl⟩ rfl rfl rfl rfl rfl (by kernel_rfl) func4 (by kernel_rfl)
    (of_decide_eq_true (by kernel_rfl)) (by unfold Func.isWrapper; first | (rw [if_pos (by decide +kernel)]; kernel_rfl) | (rw [if_neg (by decide +kernel)]; exact ⟨rfl, rfl⟩))
    (fun os started H enc _ => topLettered_lifted os started H enc)
theorem topLettered_holds : Rows.TopLetteredCardSaid :=
  Claim7.holds_tied_plain_at .later [] [.data, .data, .data, .widerDeep] true (true, "9734f520c2c134906b4831ce8c05a8f4677f1b3811c71c076739d94783dc6ebd") true
    topLettered_row (fun _ h => by cases h) (by kernel_rfl) (fun _ h => by cases h) topLettered_row_tie rfl ⟨rfl, rfl⟩ (by kernel_rfl) rfl
    (fun f fn hf hfn => by
      obtain rfl : f = 4 := Option.some.inj ((show Tryz.prog.funcNamed "redress/redresstop.TopLettered" = some 4 by kernel_rfl).symm.trans hf) |>.symm
      obtain rfl : fn = Tryz.f4 := (Option.some.inj (func4.symm.trans hfn)).symm
      exact ⟨by kernel_rfl, fun j t ht => by
        have hm : t ∈ [5, 25, 9, 26] := by
          have := Array.mem_of_getElem? ht
          rw [← Array.mem_toList_iff, params4] at this
          simp only [List.mem_cons, List.not_mem_nil, or_false] at this ⊢
          rcases this with h | h | h | h | h | h | h | h | h | h <;> simp [h]
        have hall : ([5, 25, 9, 26].all fun u => !Tryz.prog.wantsStandIn u) = true := by kernel_rfl
        exact (show Tryz.prog.wantsStandIn t = false by simpa using List.all_eq_true.1 hall t hm)⟩)
    (by kernel_rfl)
#print axioms topLettered_holds
end Go.Proofs.YtpgdfpcihamldaaGreatDoor
