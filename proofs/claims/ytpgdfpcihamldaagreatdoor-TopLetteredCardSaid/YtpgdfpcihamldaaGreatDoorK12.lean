/-
The shelf's contracts of strings.Join and strings.Repeat at the seat's program: written by the kit's own tools (lay-shelf.mjs, lay-plain.mjs), the rows that are not wanted left out.
The library's functions that the plain machine does not enter: strings.Join, strings.Repeat.
-/
import Derived.Shelf.Strings.Builder1
import Derived.Shelf.Strings.Builder2
import Derived.Shelf.Strings.OnBuilder
import Derived.Shelf.Strings.Repeat
import Derived.Test.YtpgdfpcihamldaaGreatDoorProg
import Derived.Test.YtpgdfpcihamldaaGreatDoorK11
namespace Go.Proofs
open Go.Shelf
def Tryz.lays156_ren : Go.Shelf.Ren := ⟨fun | 156 => 14 | 165 => 49 | 166 => 50 | 169 => 51 | 240 => 112 | 241 => 113 | 276 => 166 | 277 => 167 | n => n, fun | 31 => 33 | 9 => 9 | 3 => 3 | 4 => 4 | 0 => 0 | 20 => 20 | 72 => 124 | 76 => 128 | 70 => 122 | 37 => 22 | 75 => 127 | 127 => 197 | 164 => 253 | 5 => 5 | 80 => 130 | n => n, fun | n => n⟩
theorem Tryz.lays156 : Go.Proofs.Lays.n156 Tryz.prog Tryz.lays156_ren := {
  mixed := by kernel_rfl
  f156 := Tryz.func14.trans (congrArg some (by kernel_rfl))
  f165 := Tryz.func49.trans (congrArg some (by kernel_rfl))
  f166 := Tryz.func50.trans (congrArg some (by kernel_rfl))
  f169 := Tryz.func51.trans (congrArg some (by kernel_rfl))
  f240 := Tryz.func112.trans (congrArg some (by kernel_rfl))
  f241 := Tryz.func113.trans (congrArg some (by kernel_rfl))
  f276 := Tryz.func166.trans (congrArg some (by kernel_rfl))
  f277 := Tryz.func167.trans (congrArg some (by kernel_rfl))
  t0 := Tryz.underlying0
  a0 := Tryz.isAgg0
  z0 := Tryz.sizeOf0
  v0 := Tryz.zeroValue0
  t3 := Tryz.underlying3
  a3 := Tryz.isAgg3
  z3 := Tryz.sizeOf3
  v3 := Tryz.zeroValue3
  t4 := Tryz.underlying4
  a4 := Tryz.isAgg4
  z4 := Tryz.sizeOf4
  v4 := Tryz.zeroValue4
  t9 := Tryz.underlying9
  a9 := Tryz.isAgg9
  z9 := Tryz.sizeOf9
  v9 := Tryz.zeroValue9
  t20 := Tryz.underlying20
  a20 := Tryz.isAgg20
  z20 := Tryz.sizeOf20
  v20 := Tryz.zeroValue20
  t31 := Tryz.underlying33
  a31 := Tryz.isAgg33
  z31 := Tryz.sizeOf33
  v31 := Tryz.zeroValue33
  t37 := Tryz.underlying22
  a37 := Tryz.isAgg22
  z37 := Tryz.sizeOf22
  v37 := Tryz.zeroValue22
  t70 := Tryz.underlying122
  a70 := Tryz.isAgg122
  z70 := Tryz.sizeOf122
  v70 := Tryz.zeroValue122
  t72 := Tryz.underlying124
  a72 := Tryz.isAgg124
  z72 := Tryz.sizeOf124
  v72 := Tryz.zeroValue124
  t75 := Tryz.underlying127
  a75 := Tryz.isAgg127
  z75 := Tryz.sizeOf127
  v75 := Tryz.zeroValue127
  t76 := Tryz.underlying128
  a76 := Tryz.isAgg128
  z76 := Tryz.sizeOf128
  v76 := Tryz.zeroValue128
  t127 := Tryz.underlying197
  a127 := Tryz.isAgg197
  z127 := Tryz.sizeOf197
  v127 := Tryz.zeroValue197
  t164 := Tryz.underlying253
  a164 := Tryz.isAgg253
  z164 := Tryz.sizeOf253
  v164 := Tryz.zeroValue253 }
theorem Tryz.Builder_Extra_156 : Builder.Extra Tryz.prog Tryz.lays156_ren := {
  sizeBuilder := by kernel_rfl
  liesBuilder := by kernel_rfl
  t5 := Tryz.underlying5
  a5 := Tryz.isAgg5
  z5 := Tryz.sizeOf5
  v5 := Tryz.zeroValue5
  infoByte := by kernel_rfl
  cellsByte := by kernel_rfl
  sizeByte := by kernel_rfl
  neB5 := by decide }
open Go.RowKit in
/-- No element: the empty string; the world is as it was. (Whatever the slice's address and capacity: a nil slice too.) (LAID: no walk: one application.) -/
theorem Tryz.strings_Join_none (a : Option Addr) (c : Nat) (sep : ByteArray) (w : World) :
    Calls Tryz.prog 14 #[.slice a 0 c, .string sep] w fun e w' => e = .returned (.string ⟨#[]⟩) ∧ w' = w := Any.strings_Join_none Tryz.lays156 Tryz.Builder_Extra_156 a c sep w
open Go.RowKit in
/-- strings.Join: "Join concatenates the elements of its first argument to create a single string. The separator string sep is placed between elements in the resulting string.": HOWEVER MANY ELEMENTS. Below the heap's end the world is as it was. (LAID: no walk: one application.) -/
theorem Tryz.strings_Join (bk o c : Nat) (xs : List ByteArray) (sep : ByteArray) (w : World) (hcells : ∀ (j : Nat) x, xs[j]? = some x → w.cell? ⟨bk, o + j, none⟩ = some (.string x)) (hbk : bk < w.heap.size) (hN : xs.length ≤ 140737488355328) (hcap : xs.length ≤ c) (hlen : (Lib.join (xs.map (·.data.toList)) sep.data.toList).length ≤ 140737488355328) :
    Calls Tryz.prog 14 #[.slice (some ⟨bk, o, none⟩) xs.length c, .string sep] w fun e w' => e = .returned (.string ⟨(Lib.join (xs.map (·.data.toList)) sep.data.toList).toArray⟩) ∧ Below w.heap.size w w' := Any.strings_Join Tryz.lays156 Tryz.Builder_Extra_156 bk o c xs sep w hcells hbk hN hcap hlen
def Tryz.lays105_ren : Go.Shelf.Ren := ⟨fun | 105 => 41 | 212 => 95 | 99 => 96 | 165 => 49 | 166 => 50 | 170 => 97 | 169 => 51 | 263 => 154 | 264 => 155 | 206 => 156 | 240 => 112 | 241 => 113 | 276 => 166 | 277 => 167 | n => n, fun | 9 => 9 | 3 => 3 | 4 => 4 | 20 => 20 | 0 => 0 | 46 => 149 | 109 => 179 | 5 => 5 | 72 => 124 | 76 => 128 | 51 => 150 | 146 => 241 | 53 => 25 | 148 => 243 | 70 => 122 | 37 => 22 | 75 => 127 | 127 => 197 | 164 => 253 | 80 => 130 | n => n, fun | n => n⟩
theorem Tryz.lays105 : Go.Proofs.Lays.n105 Tryz.prog Tryz.lays105_ren := {
  mixed := by kernel_rfl
  f99 := Tryz.func96.trans (congrArg some (by kernel_rfl))
  f105 := Tryz.func41.trans (congrArg some (by kernel_rfl))
  f165 := Tryz.func49.trans (congrArg some (by kernel_rfl))
  f166 := Tryz.func50.trans (congrArg some (by kernel_rfl))
  f169 := Tryz.func51.trans (congrArg some (by kernel_rfl))
  f170 := Tryz.func97.trans (congrArg some (by kernel_rfl))
  f206 := Tryz.func156.trans (congrArg some (by kernel_rfl))
  f212 := Tryz.func95.trans (congrArg some (by kernel_rfl))
  f240 := Tryz.func112.trans (congrArg some (by kernel_rfl))
  f241 := Tryz.func113.trans (congrArg some (by kernel_rfl))
  f263 := Tryz.func154.trans (congrArg some (by kernel_rfl))
  f264 := Tryz.func155.trans (congrArg some (by kernel_rfl))
  f276 := Tryz.func166.trans (congrArg some (by kernel_rfl))
  f277 := Tryz.func167.trans (congrArg some (by kernel_rfl))
  t0 := Tryz.underlying0
  a0 := Tryz.isAgg0
  z0 := Tryz.sizeOf0
  v0 := Tryz.zeroValue0
  t3 := Tryz.underlying3
  a3 := Tryz.isAgg3
  z3 := Tryz.sizeOf3
  v3 := Tryz.zeroValue3
  t4 := Tryz.underlying4
  a4 := Tryz.isAgg4
  z4 := Tryz.sizeOf4
  v4 := Tryz.zeroValue4
  t5 := Tryz.underlying5
  a5 := Tryz.isAgg5
  z5 := Tryz.sizeOf5
  v5 := Tryz.zeroValue5
  t9 := Tryz.underlying9
  a9 := Tryz.isAgg9
  z9 := Tryz.sizeOf9
  v9 := Tryz.zeroValue9
  t20 := Tryz.underlying20
  a20 := Tryz.isAgg20
  z20 := Tryz.sizeOf20
  v20 := Tryz.zeroValue20
  t37 := Tryz.underlying22
  a37 := Tryz.isAgg22
  z37 := Tryz.sizeOf22
  v37 := Tryz.zeroValue22
  t46 := Tryz.underlying149
  a46 := Tryz.isAgg149
  z46 := Tryz.sizeOf149
  v46 := Tryz.zeroValue149
  t51 := Tryz.underlying150
  a51 := Tryz.isAgg150
  z51 := Tryz.sizeOf150
  v51 := Tryz.zeroValue150
  t53 := Tryz.underlying25
  a53 := Tryz.isAgg25
  z53 := Tryz.sizeOf25
  v53 := Tryz.zeroValue25
  t70 := Tryz.underlying122
  a70 := Tryz.isAgg122
  z70 := Tryz.sizeOf122
  v70 := Tryz.zeroValue122
  t72 := Tryz.underlying124
  a72 := Tryz.isAgg124
  z72 := Tryz.sizeOf124
  v72 := Tryz.zeroValue124
  t75 := Tryz.underlying127
  a75 := Tryz.isAgg127
  z75 := Tryz.sizeOf127
  v75 := Tryz.zeroValue127
  t76 := Tryz.underlying128
  a76 := Tryz.isAgg128
  z76 := Tryz.sizeOf128
  v76 := Tryz.zeroValue128
  t109 := Tryz.underlying179
  a109 := Tryz.isAgg179
  z109 := Tryz.sizeOf179
  v109 := Tryz.zeroValue179
  t127 := Tryz.underlying197
  a127 := Tryz.isAgg197
  z127 := Tryz.sizeOf197
  v127 := Tryz.zeroValue197
  t146 := Tryz.underlying241
  a146 := Tryz.isAgg241
  z146 := Tryz.sizeOf241
  v146 := Tryz.zeroValue241
  t148 := Tryz.underlying243
  a148 := Tryz.isAgg243
  z148 := Tryz.sizeOf243
  v148 := Tryz.zeroValue243
  t164 := Tryz.underlying253
  a164 := Tryz.isAgg253
  z164 := Tryz.sizeOf253
  v164 := Tryz.zeroValue253 }
theorem Tryz.Builder_Extra_105 : Builder.Extra Tryz.prog Tryz.lays105_ren := {
  sizeBuilder := by kernel_rfl
  liesBuilder := by kernel_rfl
  t5 := Tryz.underlying5
  a5 := Tryz.isAgg5
  z5 := Tryz.sizeOf5
  v5 := Tryz.zeroValue5
  infoByte := by kernel_rfl
  cellsByte := by kernel_rfl
  sizeByte := by kernel_rfl
  neB5 := by decide }
open Go.RowKit Go.Lib in
/-- THE MAIN CASE: at least two copies of a string that is not empty. (LAID: no walk: one application.) -/
theorem Tryz.strings_Repeat_main (s : ByteArray) (c : Nat) (w : World) (hc2 : 2 ≤ c) (hc : c ≤ 9223372036854775807) (hlen : s.size * c ≤ 140737488355328) (h0 : 0 < s.size) :
    Calls Tryz.prog 41 #[.string s, .int .i64 c] w fun e w' => e = .returned (.string ⟨(Lib.repeatL s.data.toList c).toArray⟩) ∧ Below w.heap.size w w' := Any.strings_Repeat_main Tryz.lays105 Tryz.Builder_Extra_105 s c w hc2 hc hlen h0
open Go.RowKit Go.Lib in
theorem Tryz.strings_Repeat_zero (s : ByteArray) (w : World) :
    Calls Tryz.prog 41 #[.string s, .int .i64 0] w fun e w' => e = .returned (.string ⟨#[]⟩) ∧ w' = w := Any.strings_Repeat_zero Tryz.lays105 s w
open Go.RowKit Go.Lib in
theorem Tryz.strings_Repeat_one (s : ByteArray) (w : World) :
    Calls Tryz.prog 41 #[.string s, .int .i64 1] w fun e w' => e = .returned (.string s) ∧ w' = w := Any.strings_Repeat_one Tryz.lays105 s w
open Go.RowKit Go.Lib in
/-- Copies of the empty string. (LAID: no walk: one application.) -/
theorem Tryz.strings_Repeat_empty (s : ByteArray) (c : Nat) (w : World) (hc2 : 2 ≤ c) (hc : c ≤ 9223372036854775807) (h0 : s.size = 0) :
    Calls Tryz.prog 41 #[.string s, .int .i64 c] w fun e w' => e = .returned (.string ⟨#[]⟩) ∧ w' = w := Any.strings_Repeat_empty Tryz.lays105 s c w hc2 hc h0
open Go.RowKit Go.Lib in
/-- count < 0: "It panics if count is negative". (LAID: no walk: one application.) -/
theorem Tryz.strings_Repeat_negative (s : ByteArray) (c : Int) (w : World) (hc : c < 0) :
    Calls Tryz.prog 41 #[.string s, .int .i64 c] w fun e w' => e = .panicked [{ v := repeatPanic Tryz.lays105_ren "strings: negative Repeat count", recovered := false }] ∧ w' = w := Any.strings_Repeat_negative Tryz.lays105 s c w hc
open Go.RowKit Go.Lib in
/-- len(s) * count is no int: ".. or if the result of (len(s) * count) overflows". (LAID: no walk: one application.) -/
theorem Tryz.strings_Repeat_overflow (s : ByteArray) (c : Nat) (w : World) (hc : c ≤ 9223372036854775807) (hs : s.size ≤ 9223372036854775807) (hbig : 9223372036854775807 < s.size * c) :
    Calls Tryz.prog 41 #[.string s, .int .i64 c] w fun e w' => e = .panicked [{ v := repeatPanic Tryz.lays105_ren "strings: Repeat output length overflow", recovered := false }] ∧ w' = w := Any.strings_Repeat_overflow Tryz.lays105 s c w hc hs hbig
open Go.RowKit Go.Lib in
/-- **strings.Repeat: count ≥ 0, the result within one allocation: count copies of s.** (LAID: no walk: one application.) -/
theorem Tryz.strings_Repeat (s : ByteArray) (c : Nat) (w : World) (hc : c ≤ 9223372036854775807) (hlen : s.size * c ≤ 140737488355328) :
    Calls Tryz.prog 41 #[.string s, .int .i64 c] w fun e w' => e = .returned (.string ⟨(Lib.repeatL s.data.toList c).toArray⟩) ∧ Below w.heap.size w w' := Any.strings_Repeat Tryz.lays105 Tryz.Builder_Extra_105 s c w hc hlen
end Go.Proofs
namespace Go.Proofs
open Go Go.Pm Go.RowKit

/-- Where nothing old is changed, everything stays. -/
theorem below_rel {N0 : Nat} {F : Nat → Prop} {G : Gh} {w w' : World} {H : List ABlk} (h : HRel N0 F G w H) (hb : Below w.heap.size w w') : HRel N0 F G w' H ∧ Ext G w G w' ∧ Step N0 F G.m w G.m w' := by
  have x : Ext G w G w' := ext_of h (Nat.le_refl _) (fun _ _ => rfl) (fun _ _ => .inl rfl) (fun _ => Nat.le_refl _) (fun B hB _ => hb.block B hB)
  obtain ⟨h1, h2⟩ := h.zero x rfl hb.size hb.os hb.tape hb.output (fun B hB => h.fresh B (Nat.le_trans hb.size hB)) (fun _ _ => rfl) (fun B hB => ⟨hb.block B hB, rfl⟩)
  exact ⟨h1, x, h2⟩
theorem strsA_rel {G : Gh} {w : World} : ∀ {cs : List AV} {xs : List (List UInt8)} {vs : List Value}, strsA cs = some xs → RelL G w cs vs → vs = xs.map (fun s => .string ⟨⟨s⟩⟩) ∧ cs.length = xs.length
  | [], xs, vs, h, k => by
    simp [strsA] at h; subst h
    obtain rfl := k
    exact ⟨rfl, rfl⟩
  | c :: cs, xs, vs, h, k => by
    unfold strsA at h
    split at h
    · rename_i heq; simp at heq
    · rename_i s l heq
      simp at heq
      obtain ⟨rfl, rfl⟩ := heq
      obtain ⟨r, h1, h2⟩ := ob_some_iff h
      simp at h2; subst h2
      obtain ⟨V, Vs, rfl, k1, k2⟩ := k
      obtain rfl := k1
      obtain ⟨e1, e2⟩ := strsA_rel h1 k2
      exact ⟨by simp [e1], by simp [e2]⟩
    · simp at h
theorem joinT_eq (sep : List UInt8) : ∀ r, joinT sep r = Lib.joinTail sep r
  | [] => by simp [joinT, Lib.joinTail]
  | y :: r => by
    have := joinT_eq sep r
    simp only [joinT, this]
    simp [Lib.joinTail]
theorem joinA_eq (sep : List UInt8) (xs : List (List UInt8)) : joinA sep xs = Lib.join xs sep := by
  cases xs with
  | nil => simp [joinA, Lib.join_nil]
  | cons x r => rw [Lib.join_cons]; simp only [joinA, joinT_eq]
theorem enters14 : Pm.Enters Tryz.prog 14 := ⟨Tryz.f14, Tryz.func14, by kernel_rfl, by kernel_rfl⟩
theorem enters41 : Pm.Enters Tryz.prog 41 := ⟨Tryz.f41, Tryz.func41, by kernel_rfl, by kernel_rfl⟩
theorem good14 : GoodAt Pt.env 14 iJoin := by
  intro args H e H1 hr
  refine ⟨enters14, fun G w vs h hgl ha => ?_⟩
  unfold iJoin at hr
  split at hr
  · rename_i t n cs sep
    obtain ⟨xs, hxs, hr⟩ := ob_some_iff hr
    obtain ⟨hb, hr⟩ := bc_some hr
    simp [rET] at hr
    obtain ⟨rfl, rfl⟩ := hr
    simp only [Bool.and_eq_true] at hb
    have hn : xs.length = n := Nat.eq_of_beq_eq_true hb.1.1
    have hn2 : n ≤ 140737488355328 := Nat.le_of_ble_eq_true hb.1.2
    have hlen : (joinA sep xs).length ≤ 140737488355328 := Nat.le_of_ble_eq_true hb.2
    obtain ⟨V, Vs, rfl, k1, V2, Vs2, rfl, k2, rfl⟩ := ha
    obtain rfl := k2
    obtain ⟨a, cap, rfl, hcap, hpure, hpub, _⟩ := k1
    have key : ∀ w', Below w.heap.size w w' → ∃ G', HRel w.heap.size (foot G H) G' w' H ∧ Ext G w G' w' ∧ Step w.heap.size (foot G H) G.m w G'.m w' ∧ EndRel G' w' (.ret (.str (joinA sep xs))) (.returned (.string ⟨⟨joinA sep xs⟩⟩)) := by
      intro w' hbw
      obtain ⟨q1, q2, q3⟩ := below_rel h hbw
      exact ⟨G, q1, q2, q3, rfl⟩
    rcases hpub with rfl | ⟨b, o, rfl, hpub⟩
    · simp [strsA] at hxs; subst hxs
      simp at hn; subst hn
      refine (Tryz.strings_Join_none a cap _ w).mono ?_
      rintro en w' ⟨rfl, rfl⟩
      exact key _ (Below.refl _ _)
    · obtain ⟨vs, r1, r2⟩ := hpub.list
      obtain ⟨e1, e2⟩ := strsA_rel hxs r1
      cases hcs : cs with
      | nil =>
        subst hcs
        simp [strsA] at hxs; subst hxs
        simp at hn; subst hn
        refine (Tryz.strings_Join_none _ cap _ w).mono ?_
        rintro en w' ⟨rfl, rfl⟩
        exact key _ (Below.refl _ _)
      | cons c0 cs0 =>
        have hbk : b < w.heap.size := by
          rw [hcs] at hpub
          have hm : o < G.m b := hpub.1
          rcases Nat.lt_or_ge b w.heap.size with q | q
          · exact q
          · have := h.fresh b q; omega
        have hl : (xs.map fun s => (⟨⟨s⟩⟩ : ByteArray)).length = n := by simpa using hn
        have hj : Lib.join ((xs.map fun s => (⟨⟨s⟩⟩ : ByteArray)).map (·.data.toList)) sep = joinA sep xs := by
          rw [joinA_eq, List.map_map]
          congr 1
          exact List.map_id' xs
        have := Tryz.strings_Join b o cap (xs.map fun s => (⟨⟨s⟩⟩ : ByteArray)) ⟨⟨sep⟩⟩ w (fun j x hx => r2 j _ (by rw [e1]; simp at hx ⊢; obtain ⟨a, ha, rfl⟩ := hx; exact ⟨a, ha, rfl⟩)) hbk (by rw [hl]; exact hn2) (by rw [hl]; exact hcap) (by rw [hj]; exact hlen)
        rw [hl, hj] at this
        refine this.mono ?_
        rintro en w' ⟨rfl, hbw⟩
        exact key _ hbw
  · simp at hr
theorem repeatA_eq (s : List UInt8) : ∀ n, repeatA s n = Lib.repeatL s n
  | 0 => rfl
  | n + 1 => by
    show s ++ repeatA s n = _
    rw [repeatA_eq s n]; rfl
theorem good41 : GoodAt Pt.env 41 iRepeat := by
  intro args H e H1 hr
  refine ⟨enters41, fun G w vs h hgl ha => ?_⟩
  unfold iRepeat at hr
  split at hr
  · rename_i s c
    obtain ⟨hb, hr⟩ := bc_some hr
    simp [rET] at hr
    obtain ⟨rfl, rfl⟩ := hr
    simp only [Bool.and_eq_true, decide_eq_true_eq] at hb
    have hlen : s.length * c.toNat ≤ 140737488355328 := Nat.le_of_ble_eq_true hb.2
    obtain ⟨V, Vs, rfl, k1, V2, Vs2, rfl, k2, rfl⟩ := ha
    obtain rfl := k1
    obtain rfl := k2
    have := Tryz.strings_Repeat ⟨⟨s⟩⟩ c.toNat w (by omega) hlen
    rw [show ((c.toNat : Nat) : Int) = c by omega] at this
    refine this.mono ?_
    rintro en w' ⟨rfl, hbw⟩
    obtain ⟨q1, q2, q3⟩ := below_rel h hbw
    refine ⟨G, q1, q2, q3, ?_⟩
    show Value.string _ = Value.string _
    rw [repeatA_eq]
  · simp at hr
end Go.Proofs
