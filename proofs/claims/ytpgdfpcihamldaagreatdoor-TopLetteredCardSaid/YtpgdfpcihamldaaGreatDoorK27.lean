/-
What the row's condition gives: the listed tables' cells, as the plain machine wants them.
redresstop.TopLettered: what the plain machine says of a law, the model's call does; the row.
-/
import Derived.Test.YtpgdfpcihamldaaGreatDoorK26
import Derived.Test.YtpgdfpcihamldaaGreatDoorK13
import Derived.Test.YtpgdfpcihamldaaGreatDoorK14
import Derived.Test.YtpgdfpcihamldaaGreatDoorRows
import Derived.Lib.LaidTab
import Derived.Stop.LaidErr
import Derived.MakeChecks
import Derived.ChangeSame
import Derived.ChangeVars
import Derived.JoinedOf
import Derived.RowKit
import Derived.RowKitTokens
import Derived.LaidLaws
import Derived.LaidMore
import Derived.LaidHandle
import Derived.OpenShut
import Derived.Stop.Joined
namespace Go.Proofs
open Go Go.Pm
set_option maxRecDepth 100000
section
variable {W : World}
/-- An array of texts that reads as listed holds them, cell for cell. -/
theorem cells_of_texts {H : Type} {enc : TypeId × Value → H} {P : Program} {w : World} {base : Nat} {sp : Nat → Bool} {held : Bool} {fuel : Nat} {t e : TypeId} {n : Nat} {cs : List Value} {zs : List (List UInt8)} {p : List MemPlace}
    (ht : P.underlying t = some (.array n e)) (he : P.underlying e = some .string) (hce : P.cellsOf e = 1) (hct : P.cellsOf t = n)
    (h : DataW.trod enc P w base sp held fuel t cs = some (.agg (zs.map fun z => .lit (.string z)), p)) : cs = zs.map fun z => Value.string ⟨⟨z⟩⟩ := by
  cases fuel with
  | zero => simp [DataW.trod] at h
  | succ fuel =>
    simp only [DataW.trod, ht, hce, hct, Nat.mul_one] at h
    split at h
    · rename_i hl
      obtain ⟨xs, hm, hx⟩ := Option.map_eq_some_iff.1 h
      have hxs : xs.map (·.1) = zs.map fun z => (DataW.lit (.string z) : DataW H) := by
        have := congrArg Prod.fst hx
        simpa using this
      have hxl : xs.length = n := by simpa using Lib.mapM_length hm
      have hzl : zs.length = n := by
        have := congrArg List.length hxs
        simp at this
        omega
      apply List.ext_getElem?
      intro i
      by_cases hi : i < n
      · obtain ⟨b, hb, hf⟩ := Lib.mapM_at hm i i (by simp [hi])
        obtain ⟨s, hc, rfl, _⟩ := DataW.trod_string he hf
        have h1 : cs[i]? = some (.string s) := by
          have := congrArg (·[0]?) hc
          simpa [List.getElem?_take, List.getElem?_drop] using this
        have h2 : (xs.map (·.1))[i]? = some (DataW.lit (.string s.data.toList) : DataW H) := by simp [hb]
        rw [hxs] at h2
        simp only [List.getElem?_map, Option.map_eq_some_iff, DataW.lit.injEq, Lit.string.injEq] at h2
        obtain ⟨z', hz', rfl⟩ := h2
        simp [h1, hz']
      · rw [List.getElem?_eq_none (by omega), List.getElem?_eq_none (by simp; omega)]
    · cases h
def kwB : List (List UInt8) := [[109, 111, 100, 117, 108, 101], [114, 101, 99, 111, 114, 100], [99, 104, 111, 105, 99, 101], [115, 101, 114, 118, 105, 99, 101], [115, 97, 103, 97], [100, 111], [97, 116], [117, 110, 100, 111], [103, 105, 118, 101], [116, 97, 107, 101], [110, 111, 116, 101], [110, 111, 110, 101], [98, 111, 111, 108], [105, 110, 116], [116, 101, 120, 116], [108, 105, 115, 116], [111, 112, 116]]
def p10 : List Int := (List.range 20).map fun i => ((10 ^ i : Nat) : Int)
def dB : List Int := [0, 1, 56, 2, 57, 49, 28, 3, 61, 58, 42, 50, 38, 29, 17, 4, 62, 47, 59, 36, 45, 43, 51, 22, 53, 39, 33, 30, 24, 18, 12, 5, 63, 55, 48, 27, 60, 41, 37, 16, 46, 35, 44, 21, 52, 32, 23, 11, 54, 26, 40, 15, 34, 20, 31, 10, 25, 14, 19, 9, 13, 8, 7, 6]
theorem kws_eq : Pt.kws = kwB.map fun z => AV.str z := by kernel_rfl
theorem pow_eq : Pt.pow10 = p10.map fun z => AV.int .u64 z := by kernel_rfl
theorem db_eq : Pt.db64 = dB.map fun z => AV.int .u8 z := by kernel_rfl
theorem g_kw : Tryz.prog.globalNamed "redress/token.keywords" = some 1 := by kernel_rfl
theorem g_pow : Tryz.prog.globalNamed "internal/strconv.uint64pow10" = some 2 := by kernel_rfl
theorem g_db : Tryz.prog.globalNamed "math/bits.deBruijn64tab" = some 6 := by kernel_rfl
theorem t_kw : (Tryz.prog.globals[1]?).map (·.type) = some 287 := by kernel_rfl
theorem t_pow : (Tryz.prog.globals[2]?).map (·.type) = some 302 := by kernel_rfl
theorem t_db : (Tryz.prog.globals[6]?).map (·.type) = some 316 := by kernel_rfl
theorem u287 : Tryz.prog.underlying 287 = some (.array 17 9) := by kernel_rfl
theorem u302 : Tryz.prog.underlying 302 = some (.array 20 25) := by kernel_rfl
theorem u316 : Tryz.prog.underlying 316 = some (.array 64 5) := by kernel_rfl
theorem u4 : Tryz.prog.underlying 4 = some .bool := by kernel_rfl
theorem u5 : Tryz.prog.underlying 5 = some (.int .u8) := by kernel_rfl
theorem u9 : Tryz.prog.underlying 9 = some .string := by kernel_rfl
theorem u25 : Tryz.prog.underlying 25 = some (.int .u64) := by kernel_rfl
theorem u26 : Tryz.prog.underlying 26 = some (.int .u16) := by kernel_rfl
theorem c5 : Tryz.prog.cellsOf 5 = 1 := by kernel_rfl
theorem c9 : Tryz.prog.cellsOf 9 = 1 := by kernel_rfl
theorem c25 : Tryz.prog.cellsOf 25 = 1 := by kernel_rfl
theorem c287 : Tryz.prog.cellsOf 287 = 17 := by kernel_rfl
theorem c302 : Tryz.prog.cellsOf 302 = 20 := by kernel_rfl
theorem c316 : Tryz.prog.cellsOf 316 = 64 := by kernel_rfl
/-- The four that the first three rows list. -/
noncomputable abbrev laid4 : List (String × DataW Unit) := [("math/bits.deBruijn32tab", YtpgdfpcihamldaaGreatDoor.Rows.laid_math_bits_deBruijn32tab), ("math/bits.deBruijn64tab", YtpgdfpcihamldaaGreatDoor.Rows.laid_math_bits_deBruijn64tab), ("internal/strconv.uint64pow10", YtpgdfpcihamldaaGreatDoor.Rows.laid_internal_strconv_uint64pow10), ("redress/token.keywords", YtpgdfpcihamldaaGreatDoor.Rows.laid_redress_token_keywords)]
theorem db_data : (YtpgdfpcihamldaaGreatDoor.Rows.laid_math_bits_deBruijn64tab : DataW Unit) = Lib.tabData .u8 dB := by kernel_rfl
theorem pow_data : (YtpgdfpcihamldaaGreatDoor.Rows.laid_internal_strconv_uint64pow10 : DataW Unit) = Lib.tabData .u64 p10 := by kernel_rfl
theorem kw_data : (YtpgdfpcihamldaaGreatDoor.Rows.laid_redress_token_keywords : DataW Unit) = .agg (kwB.map fun z => .lit (.string z)) := by kernel_rfl
/-- Cells of a block, one by one. -/
theorem pub_of (G : Gh) (w : World) (b : Nat) : ∀ (cs : List AV) (vs : List Value) (o : Nat), cs.length = vs.length → (∀ i : Nat, i < vs.length → o + i < G.m b ∧ w.cell? ⟨b, o + i, none⟩ = vs[i]?) → (∀ (i : Nat) (c : AV) (v : Value), cs[i]? = some c → vs[i]? = some v → Rel G w c v) → PubAt G w b o cs
  | [], _, _, _, _, _ => by rw [PubAt]; trivial
  | c :: cs, [], _, hl, _, _ => by simp at hl
  | c :: cs, v :: vs, o, hl, h, hr => by
    rw [PubAt]
    have h0 := h 0 (by simp)
    refine ⟨h0.1, ⟨v, by have := h0.2; simpa using this, hr 0 c v rfl rfl⟩, ?_⟩
    refine pub_of G w b cs vs (o + 1) (by simpa using hl) (fun i hi => ?_) (fun i c' v' hc hv => hr (i + 1) c' v' (by simpa using hc) (by simpa using hv))
    have := h (i + 1) (by simp; omega)
    rw [show o + 1 + i = o + (i + 1) from by omega]
    simpa using this
noncomputable def gm (b : Nat) : Nat := if b = 1 then 17 else if b = 2 then 20 else if b = 6 then 64 else 0
noncomputable def g0 : Gh := ⟨0, fun _ => 0, fun _ => .nilFunc, gm⟩
theorem var_lt {P : Program} {w : World} {name : String} {g : Nat} {cs : Array Value} (hg : P.globalNamed name = some g) (h : w.var? P name = some cs) : g < w.heap.size := by
  unfold World.var? at h
  rw [hg] at h
  simp only [Option.bind_some] at h
  split at h
  · rename_i e
    exact (Array.getElem?_eq_some_iff.1 e).1
  · cases h
/-- What the condition gives. -/
theorem of_laid (h : laidMetH Tryz.prog laid4 W) : GlobOk Pt.env g0 W ∧ (∀ B, W.heap.size ≤ B → gm B = 0) := by
  rw [MakeChecks.laidMetH_plain _ _ _ (by kernel_rfl)] at h
  have h1 := laidMet.tail h
  rw [db_data] at h1
  have hdb := Lib.tabIs_of_head g_db t_db u316 u5 c5 c316 h1
  have h2 := laidMet.tail h1
  rw [pow_data] at h2
  have hpow := Lib.tabIs_of_head g_pow t_pow u302 u25 c25 c302 h2
  have h3 := laidMet.tail h2
  rw [kw_data] at h3
  have hkw : W.var? Tryz.prog "redress/token.keywords" = some (kwB.map fun z => Value.string ⟨⟨z⟩⟩).toArray := by
    obtain ⟨ps, ⟨g', t', cs, fuel, p, q, hg', ht', hvar, hd, _, _⟩, _⟩ := h3
    obtain rfl := Option.some.inj (g_kw.symm.trans hg')
    obtain rfl := Option.some.inj (t_kw.symm.trans ht')
    rw [hvar, ← cells_of_texts u287 u9 c9 c287 hd]
  have l1 := var_lt g_kw hkw
  have l2 := var_lt g_pow hpow
  have l6 := var_lt g_db hdb
  refine ⟨?_, fun B hB => ?_⟩
  · intro g cs hg
    have hg : bc (Nat.beq g 1) (some Pt.kws) (bc (Nat.beq g 2) (some Pt.pow10) (bc (Nat.beq g 6) (some Pt.db64) none)) = some cs := hg
    rw [bc_eq, bc_eq, bc_eq] at hg
    split at hg
    · rename_i e
      obtain rfl := Nat.eq_of_beq_eq_true e
      obtain rfl := Option.some.inj hg
      rw [kws_eq]
      refine pub_of g0 W 1 _ (kwB.map fun z => Value.string ⟨⟨z⟩⟩) 0 (by simp) (fun i hi => ⟨?_, ?_⟩) (fun i c v hc hv => ?_)
      · rw [List.length_map] at hi
        show 0 + i < 17
        have : kwB.length = 17 := rfl
        omega
      · have := World.var?_cell g_kw hkw i
        rw [Nat.zero_add, this]
        simp
      · rw [List.getElem?_map] at hc hv
        cases hz : kwB[i]? with
        | none => rw [hz] at hc; cases hc
        | some z =>
          rw [hz] at hc hv
          obtain rfl := Option.some.inj hc
          obtain rfl := Option.some.inj hv
          rw [Rel]
    split at hg
    · rename_i e
      obtain rfl := Nat.eq_of_beq_eq_true e
      obtain rfl := Option.some.inj hg
      rw [pow_eq]
      refine pub_of g0 W 2 _ (p10.map fun z => Value.int .u64 z) 0 (by simp) (fun i hi => ⟨?_, ?_⟩) (fun i c v hc hv => ?_)
      · rw [List.length_map] at hi
        show 0 + i < 20
        have : p10.length = 20 := rfl
        omega
      · have := World.var?_cell g_pow hpow i
        rw [Nat.zero_add, this]
        simp
      · rw [List.getElem?_map] at hc hv
        cases hz : p10[i]? with
        | none => rw [hz] at hc; cases hc
        | some z =>
          rw [hz] at hc hv
          obtain rfl := Option.some.inj hc
          obtain rfl := Option.some.inj hv
          rw [Rel]
    split at hg
    · rename_i e
      obtain rfl := Nat.eq_of_beq_eq_true e
      obtain rfl := Option.some.inj hg
      rw [db_eq]
      refine pub_of g0 W 6 _ (dB.map fun z => Value.int .u8 z) 0 (by simp) (fun i hi => ⟨?_, ?_⟩) (fun i c v hc hv => ?_)
      · rw [List.length_map] at hi
        show 0 + i < 64
        have : dB.length = 64 := rfl
        omega
      · have := World.var?_cell g_db hdb i
        rw [Nat.zero_add, this]
        simp
      · rw [List.getElem?_map] at hc hv
        cases hz : dB[i]? with
        | none => rw [hz] at hc; cases hc
        | some z =>
          rw [hz] at hc hv
          obtain rfl := Option.some.inj hc
          obtain rfl := Option.some.inj hv
          rw [Rel]
    · cases hg
  · unfold gm
    split
    · omega
    split
    · omega
    split
    · omega
    · rfl
end
end Go.Proofs
namespace Go.Proofs
open Go Go.Pm Go.ChangeShapes Go.WideShapes Go.RowKit
set_option maxRecDepth 100000
theorem own : ownKnob Tryz.prog.godebug = none := by kernel_rfl
/-- A law that the plain machine calls true. -/
theorem law_run {k : Nat} {f : FuncId} {avs : List AV} {H1 : List ABlk} {vs : List Value} {W : World} (h : callN Pt.env k f avs [] = some (.ret (.bool true), H1)) (hl : laidMetH Tryz.prog laid4 W) (hr : RelL g0 W avs vs) :
    Calls Tryz.prog f vs.toArray W fun e W' => e = .returned (.bool true) ∧ ∀ may : MemPlace → Prop, W.keptBut W' may := by
  obtain ⟨hg, hm⟩ := of_laid hl
  have hh : HRel W.heap.size (foot g0 []) g0 W [] := ⟨rfl, Nat.le_refl _, hm, fun r b e => (by cases e), fun r r' b b' e => (by cases e), fun r b e => (by cases e)⟩
  refine ((allGood k f avs [] _ _ h).2 g0 W vs hh hg hr).mono fun e W' ⟨G', _, _, hs, he⟩ => ⟨?_, fun may => ⟨hs.os, hs.output, fun i hi => ?_⟩⟩
  · cases e with
    | returned V =>
      have : Rel G' W' (.bool true) V := he
      rw [Rel] at this
      rw [this]
    | _ => exact absurd he (by simp [EndRel])
  · have hsame := (hs.same i hi (by rintro ⟨r, b, e, _⟩; cases e)).1
    rw [hsame]
    cases he : W.heap[i]? with
    | none => trivial
    | some o => cases o <;> simp
theorem str_rel (G : Gh) (W : World) (s : ByteArray) : Rel G W (.str s.data.toList) (.string s) := by rw [Rel]
theorem u8_of (n : Int) (h : (Lit.int .u8 n).wf = true) : ∃ b : UInt8, n = (b.toNat : Nat) := by
  simp only [Lit.wf, IntKind.min, IntKind.max, IntKind.signed, IntKind.bits, Bool.and_eq_true] at h
  refine ⟨UInt8.ofNat n.toNat, ?_⟩
  rw [UInt8.toNat_ofNat']
  simp at h
  omega
theorem u64_of (n : Int) (h : (Lit.int .u64 n).wf = true) : ∃ b : Nat, n = (b : Nat) ∧ b < 18446744073709551616 := by
  simp only [Lit.wf, IntKind.min, IntKind.max, IntKind.signed, IntKind.bits, Bool.and_eq_true] at h
  refine ⟨n.toNat, ?_, ?_⟩
  · simp at h; omega
  · simp at h; omega
theorem u16_of (n : Int) (h : (Lit.int .u16 n).wf = true) : ∃ b : Nat, n = (b : Nat) ∧ b < 65536 := by
  simp only [Lit.wf, IntKind.min, IntKind.max, IntKind.signed, IntKind.bits, Bool.and_eq_true] at h
  refine ⟨n.toNat, ?_, ?_⟩
  · simp at h; omega
  · simp at h; omega
theorem wakes_at (H : List ABlk) : callAt (callN Pt.env 1000) 8 [] H = some (.ret (.bool true), H) := by
  obtain ⟨H1, h⟩ := saysTrue_some wakes_true
  exact callAt_bare _ 8 [] H H1 _ rfl h rfl
end Go.Proofs
