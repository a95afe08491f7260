/-
Plain law of the sum: by bits, by a table, and that it sees each changed byte.
Plain law of numbers' bytes: words as naturals; a number's bytes of seven bits.
-/
import Derived.Orders
namespace Go.Proofs.Sum
/-- One bit of the sum. -/
def poly : BitVec 32 := 0x82f63b78#32
def stp (c : BitVec 32) : BitVec 32 := if c.getLsbD 0 = true then (c >>> 1) ^^^ poly else c >>> 1
def s8 (c : BitVec 32) : BitVec 32 := stp (stp (stp (stp (stp (stp (stp (stp c)))))))
theorem stp_xor (a b : BitVec 32) : stp (a ^^^ b) = stp a ^^^ stp b := by
  unfold stp
  rw [BitVec.getLsbD_xor]
  cases ha : a.getLsbD 0 <;> cases hb : b.getLsbD 0 <;>
    simp only [Bool.xor_self, Bool.false_xor, Bool.true_xor, Bool.not_false, Bool.false_eq_true, if_true, if_false, BitVec.ushiftRight_xor_distrib] <;>
    apply BitVec.eq_of_getLsbD_eq <;> intro i _ <;> simp only [BitVec.getLsbD_xor] <;>
    cases (a >>> 1).getLsbD i <;> cases (b >>> 1).getLsbD i <;> cases poly.getLsbD i <;> rfl
theorem stp_zero (c : BitVec 32) (h : stp c = 0#32) : c = 0#32 := by
  unfold stp at h
  by_cases h0 : c.getLsbD 0 = true
  · rw [if_pos h0] at h
    have h31 : ((c >>> 1) ^^^ poly).getLsbD 31 = (0#32).getLsbD 31 := by rw [h]
    rw [BitVec.getLsbD_xor, BitVec.getLsbD_ushiftRight, BitVec.getLsbD_of_ge c (1 + 31) (by omega)] at h31
    exact absurd h31 (by decide)
  · rw [if_neg h0] at h
    apply BitVec.eq_of_getLsbD_eq
    intro i hi
    cases i with
    | zero => simpa using h0
    | succ i =>
      have hh : (c >>> 1).getLsbD i = (0#32).getLsbD i := by rw [h]
      rw [BitVec.getLsbD_ushiftRight, Nat.add_comm] at hh
      rw [hh]; simp
theorem xor_zero_eq {w : Nat} (a b : BitVec w) (h : a ^^^ b = 0#w) : a = b := by
  apply BitVec.eq_of_getLsbD_eq
  intro i hi
  have hh : (a ^^^ b).getLsbD i = (0#w).getLsbD i := by rw [h]
  rw [BitVec.getLsbD_xor, BitVec.getLsbD_zero] at hh
  cases ha : a.getLsbD i <;> cases hb : b.getLsbD i <;> simp_all
theorem stp_inj (a b : BitVec 32) (h : stp a = stp b) : a = b := by
  apply xor_zero_eq
  apply stp_zero
  rw [stp_xor, h, BitVec.xor_self]
theorem s8_xor (a b : BitVec 32) : s8 (a ^^^ b) = s8 a ^^^ s8 b := by simp only [s8, stp_xor]
theorem s8_inj (a b : BitVec 32) (h : s8 a = s8 b) : a = b := by
  unfold s8 at h
  exact stp_inj _ _ (stp_inj _ _ (stp_inj _ _ (stp_inj _ _ (stp_inj _ _ (stp_inj _ _ (stp_inj _ _ (stp_inj _ _ h)))))))
theorem stp_even (c : BitVec 32) (h : c.getLsbD 0 = false) : stp c = c >>> 1 := by unfold stp; rw [h]; rfl
theorem s8_high (c : BitVec 32) (h : ∀ i, i < 8 → c.getLsbD i = false) : s8 c = c >>> 8 := by
  have k (n : Nat) (hn : n < 8) : stp (c >>> n) = c >>> (n + 1) := by
    rw [stp_even _ (by rw [BitVec.getLsbD_ushiftRight]; exact h _ (by omega)), BitVec.shiftRight_add c n 1]
  have e0 : stp c = c >>> 1 := by have := k 0 (by omega); simpa using this
  unfold s8
  rw [e0, k 1 (by omega), k 2 (by omega), k 3 (by omega), k 4 (by omega), k 5 (by omega), k 6 (by omega), k 7 (by omega)]
theorem low_bit (i : Nat) : (255#32).getLsbD i = decide (i < 8) := by
  by_cases h : i < 32
  · have : ∀ i : Fin 32, (255#32).getLsbD i.1 = decide (i.1 < 8) := by decide
    exact this ⟨i, h⟩
  · rw [BitVec.getLsbD_of_ge _ _ (by omega)]; exact (decide_eq_false (by omega)).symm
/-- By a table of the 256 low bytes. -/
theorem s8_table (c : BitVec 32) : s8 c = (c >>> 8) ^^^ s8 (c &&& 255#32) := by
  have e : c = (c ^^^ (c &&& 255#32)) ^^^ (c &&& 255#32) := by rw [BitVec.xor_assoc, BitVec.xor_self, BitVec.xor_zero]
  have hi : ∀ i, i < 8 → (c ^^^ (c &&& 255#32)).getLsbD i = false := by
    intro i hi
    rw [BitVec.getLsbD_xor, BitVec.getLsbD_and, low_bit]
    simp [hi]
  have hs : (c ^^^ (c &&& 255#32)) >>> 8 = c >>> 8 := by
    apply BitVec.eq_of_getLsbD_eq
    intro i _
    rw [BitVec.getLsbD_ushiftRight, BitVec.getLsbD_ushiftRight, BitVec.getLsbD_xor, BitVec.getLsbD_and, low_bit, decide_eq_false (by omega), Bool.and_false, Bool.xor_false]
  conv => lhs; rw [e]
  rw [s8_xor, s8_high _ hi, hs]
/-- A byte, as a word. -/
def wide (b : UInt8) : BitVec 32 := BitVec.setWidth 32 b.toBitVec
theorem wide_bit (b : UInt8) (i : Nat) : (wide b).getLsbD i = (decide (i < 32) && b.toBitVec.getLsbD i) := by
  unfold wide; rw [BitVec.getLsbD_setWidth]
theorem wide_shift (b : UInt8) : wide b >>> 8 = 0#32 := by
  apply BitVec.eq_of_getLsbD_eq
  intro i _
  rw [BitVec.getLsbD_ushiftRight, wide_bit, BitVec.getLsbD_of_ge b.toBitVec (8 + i) (by omega)]
  simp
theorem wide_inj (a b : UInt8) (h : wide a = wide b) : a = b := by
  apply UInt8.toBitVec_inj.1
  apply BitVec.eq_of_getLsbD_eq
  intro i hi
  have hh : (wide a).getLsbD i = (wide b).getLsbD i := by rw [h]
  rw [wide_bit, wide_bit] at hh
  have h32 : i < 32 := by omega
  simpa [h32] using hh
/-- The sum's register behind a byte, and behind bytes. -/
def nx (c : BitVec 32) (b : UInt8) : BitVec 32 := s8 (c ^^^ wide b)
def reg (c : BitVec 32) (l : List UInt8) : BitVec 32 := l.foldl nx c
theorem nx_table (c : BitVec 32) (b : UInt8) : nx c b = (c >>> 8) ^^^ s8 ((c ^^^ wide b) &&& 255#32) := by
  unfold nx
  rw [s8_table, BitVec.ushiftRight_xor_distrib, wide_shift, BitVec.xor_zero]
theorem nx_inj (c d : BitVec 32) (b : UInt8) (h : nx c b = nx d b) : c = d := by
  have := s8_inj _ _ h
  have e : (c ^^^ wide b) ^^^ wide b = (d ^^^ wide b) ^^^ wide b := by rw [this]
  simpa only [BitVec.xor_assoc, BitVec.xor_self, BitVec.xor_zero] using e
theorem reg_inj (l : List UInt8) : ∀ c d : BitVec 32, reg c l = reg d l → c = d := by
  induction l with
  | nil => intro c d h; exact h
  | cons b l ih => intro c d h; exact nx_inj c d b (ih _ _ h)
theorem nx_byte (c : BitVec 32) (a b : UInt8) (h : nx c a = nx c b) : a = b := by
  have := s8_inj _ _ h
  have e : c ^^^ (c ^^^ wide a) = c ^^^ (c ^^^ wide b) := by rw [this]
  simp only [← BitVec.xor_assoc, BitVec.xor_self, BitVec.zero_xor] at e
  exact wide_inj a b e
theorem reg_append (c : BitVec 32) (l m : List UInt8) : reg c (l ++ m) = reg (reg c l) m := by simp [reg]
/-- A byte that is another one gives another register. -/
theorem reg_changed (c : BitVec 32) (l m : List UInt8) (a b : UInt8) (h : a ≠ b) : reg c (l ++ a :: m) ≠ reg c (l ++ b :: m) := by
  intro e
  rw [reg_append, reg_append] at e
  exact h (nx_byte (reg c l) a b (reg_inj m _ _ e))
/-- The sum. -/
def sum (l : List UInt8) : BitVec 32 := ~~~ (reg (~~~ 0#32) l)
theorem sum_changed (l m : List UInt8) (a b : UInt8) (h : a ≠ b) : sum (l ++ a :: m) ≠ sum (l ++ b :: m) := by
  intro e
  unfold sum at e
  have e2 : ~~~ (~~~ (reg (~~~ 0#32) (l ++ a :: m))) = ~~~ (~~~ (reg (~~~ 0#32) (l ++ b :: m))) := by rw [e]
  rw [BitVec.not_not, BitVec.not_not] at e2
  exact reg_changed _ l m a b h e2
/-- Its four bytes, the lowest one first. -/
def byteAt (c : BitVec 32) (i : Nat) : UInt8 := UInt8.ofNat (c.toNat / 256 ^ i)
def four (c : BitVec 32) : List UInt8 := [byteAt c 0, byteAt c 1, byteAt c 2, byteAt c 3]
/-- The number of bytes, the lowest one first. -/
def little : List UInt8 → Nat
  | [] => 0
  | b :: l => b.toNat + 256 * little l
theorem little_four (c : BitVec 32) : little (four c) = c.toNat := by
  have h := c.isLt
  simp only [four, little, byteAt, UInt8.toNat_ofNat']
  omega
theorem little_inj : ∀ l m : List UInt8, l.length = m.length → little l = little m → l = m := by
  intro l
  induction l with
  | nil => intro m h _; cases m with | nil => rfl | cons => simp at h
  | cons a l ih =>
    intro m h e
    cases m with
    | nil => simp at h
    | cons b m =>
      simp only [little] at e
      have ha := a.toNat_lt
      have hb := b.toNat_lt
      have e1 : a.toNat = b.toNat := by omega
      have e2 : little l = little m := by omega
      rw [UInt8.toNat_inj.1 e1, ih m (by simpa using h) e2]
theorem four_length (c : BitVec 32) : (four c).length = 4 := rfl
/-- A text with its sum behind it, of which a byte is another one, is not one. -/
theorem changed_seen (h : List UInt8) (p : Nat) (v : UInt8) (hp : p < h.length + 4) (hv : (h ++ four (sum h))[p]? ≠ some v) :
    (sum (((h ++ four (sum h)).set p v).take h.length)).toNat ≠ little (((h ++ four (sum h)).set p v).drop h.length) := by
  by_cases hlt : p < h.length
  · rw [List.set_append_left _ _ hlt]
    have e1 : (h.set p v ++ four (sum h)).take h.length = h.set p v := List.take_left' (by simp)
    have e2 : (h.set p v ++ four (sum h)).drop h.length = four (sum h) := List.drop_left' (by simp)
    rw [e1, e2, little_four]
    intro e
    have e3 := BitVec.eq_of_toNat_eq e
    have d : h = h.take p ++ h[p] :: h.drop (p + 1) := by simp
    have ds : h.set p v = h.take p ++ v :: h.drop (p + 1) := List.set_eq_take_append_cons_drop.trans (if_pos hlt)
    rw [ds] at e3
    conv at e3 => rhs; rw [d]
    refine sum_changed (h.take p) (h.drop (p + 1)) v h[p] ?_ e3
    intro e4
    apply hv
    rw [List.getElem?_append_left hlt, List.getElem?_eq_getElem hlt, e4]
  · have hge : h.length ≤ p := by omega
    rw [List.set_append_right _ _ hge]
    have e1 : (h ++ (four (sum h)).set (p - h.length) v).take h.length = h := List.take_left' rfl
    have e2 : (h ++ (four (sum h)).set (p - h.length) v).drop h.length = (four (sum h)).set (p - h.length) v := List.drop_left' rfl
    rw [e1, e2, ← little_four]
    intro e
    have e3 := little_inj _ _ (by simp) e
    apply hv
    rw [List.getElem?_append_right hge, e3, List.getElem?_set_self (by simp [four_length]; omega)]
end Go.Proofs.Sum
namespace Go.Proofs.Sum
open Go
/-- A number's bytes of seven bits, the lowest ones first. -/
def vb : Nat → Nat → List UInt8
  | 0, x => [UInt8.ofNat x]
  | f + 1, x => if x > 127 then UInt8.ofNat (x % 128 + 128) :: vb f (x / 128) else [UInt8.ofNat x]
theorem vb_length (f : Nat) : ∀ x, (vb f x).length ≤ f + 1 := by
  induction f with
  | zero => intro x; simp [vb]
  | succ f ih =>
    intro x
    unfold vb
    split
    · have := ih (x / 128); simp; omega
    · simp
theorem vb_pos (f : Nat) (x : Nat) : 0 < (vb f x).length := by
  cases f with
  | zero => simp [vb]
  | succ f => unfold vb; split <;> simp
theorem or_add (a b i : Nat) (h : a < 2 ^ i) : a ||| (b * 2 ^ i) = a + b * 2 ^ i := by
  rw [Nat.or_comm, ← Nat.shiftLeft_eq, ← Nat.shiftLeft_add_eq_or_of_lt h, Nat.add_comm]
theorem ofInt_nat (w n : Nat) : (BitVec.ofInt w (n : Int)).toNat = n % 2 ^ w := by
  rw [BitVec.ofInt_natCast, BitVec.toNat_ofNat]
theorem wrap_u8 (n : Nat) : IntKind.wrap .u8 (n : Int) = ((n % 256 : Nat) : Int) := by
  simp [IntKind.wrap, IntKind.signed, IntKind.bits]
theorem wrap_u32 (n : Nat) : IntKind.wrap .u32 (n : Int) = ((n % 4294967296 : Nat) : Int) := by
  simp [IntKind.wrap, IntKind.signed, IntKind.bits]
theorem wrap_u64 (n : Nat) : IntKind.wrap .u64 (n : Int) = ((n % 18446744073709551616 : Nat) : Int) := by
  simp [IntKind.wrap, IntKind.signed, IntKind.bits]
theorem or_u8 (a b : Nat) (ha : a < 256) (hb : b < 256) : IntKind.wrap .u8 ((BitVec.ofInt IntKind.u8.bits (a : Int) ||| BitVec.ofInt IntKind.u8.bits (b : Int)).toNat : Int) = ((a ||| b : Nat) : Int) := by
  have h : (a ||| b) < 2 ^ 8 := Nat.or_lt_two_pow ha hb
  have e : (BitVec.ofInt IntKind.u8.bits (a : Int) ||| BitVec.ofInt IntKind.u8.bits (b : Int)).toNat = a ||| b := by
    rw [BitVec.toNat_or, ofInt_nat, ofInt_nat]
    show a % 256 ||| b % 256 = _
    rw [Nat.mod_eq_of_lt ha, Nat.mod_eq_of_lt hb]
  rw [e, wrap_u8, Nat.mod_eq_of_lt h]
theorem and_u8 (a b : Nat) (ha : a < 256) (hb : b < 256) : IntKind.wrap .u8 ((BitVec.ofInt IntKind.u8.bits (a : Int) &&& BitVec.ofInt IntKind.u8.bits (b : Int)).toNat : Int) = ((a &&& b : Nat) : Int) := by
  have h : (a &&& b) < 256 := Nat.lt_of_le_of_lt Nat.and_le_left ha
  have e : (BitVec.ofInt IntKind.u8.bits (a : Int) &&& BitVec.ofInt IntKind.u8.bits (b : Int)).toNat = a &&& b := by
    rw [BitVec.toNat_and, ofInt_nat, ofInt_nat]
    show a % 256 &&& b % 256 = _
    rw [Nat.mod_eq_of_lt ha, Nat.mod_eq_of_lt hb]
  rw [e, wrap_u8, Nat.mod_eq_of_lt h]
theorem xor_u8 (a b : Nat) (ha : a < 256) (hb : b < 256) : IntKind.wrap .u8 ((BitVec.ofInt IntKind.u8.bits (a : Int) ^^^ BitVec.ofInt IntKind.u8.bits (b : Int)).toNat : Int) = ((a ^^^ b : Nat) : Int) := by
  have h : (a ^^^ b) < 2 ^ 8 := Nat.xor_lt_two_pow ha hb
  have e : (BitVec.ofInt IntKind.u8.bits (a : Int) ^^^ BitVec.ofInt IntKind.u8.bits (b : Int)).toNat = a ^^^ b := by
    rw [BitVec.toNat_xor, ofInt_nat, ofInt_nat]
    show a % 256 ^^^ b % 256 = _
    rw [Nat.mod_eq_of_lt ha, Nat.mod_eq_of_lt hb]
  rw [e, wrap_u8, Nat.mod_eq_of_lt h]
theorem or_u64 (a b : Nat) (ha : a < 18446744073709551616) (hb : b < 18446744073709551616) : IntKind.wrap .u64 ((BitVec.ofInt IntKind.u64.bits (a : Int) ||| BitVec.ofInt IntKind.u64.bits (b : Int)).toNat : Int) = ((a ||| b : Nat) : Int) := by
  have h : (a ||| b) < 2 ^ 64 := Nat.or_lt_two_pow ha hb
  have e : (BitVec.ofInt IntKind.u64.bits (a : Int) ||| BitVec.ofInt IntKind.u64.bits (b : Int)).toNat = a ||| b := by
    rw [BitVec.toNat_or, ofInt_nat, ofInt_nat]
    show a % 18446744073709551616 ||| b % 18446744073709551616 = _
    rw [Nat.mod_eq_of_lt ha, Nat.mod_eq_of_lt hb]
  rw [e, wrap_u64, Nat.mod_eq_of_lt h]
theorem xor_u32 (a b : BitVec 32) : IntKind.wrap .u32 ((BitVec.ofInt IntKind.u32.bits (a.toNat : Int) ^^^ BitVec.ofInt IntKind.u32.bits (b.toNat : Int)).toNat : Int) = ((a ^^^ b).toNat : Int) := by
  have e : (BitVec.ofInt IntKind.u32.bits (a.toNat : Int) ^^^ BitVec.ofInt IntKind.u32.bits (b.toNat : Int)).toNat = (a ^^^ b).toNat := by
    rw [BitVec.toNat_xor, ofInt_nat, ofInt_nat, BitVec.toNat_xor]
    show a.toNat % 2 ^ 32 ^^^ b.toNat % 2 ^ 32 = _
    rw [Nat.mod_eq_of_lt a.isLt, Nat.mod_eq_of_lt b.isLt]
  rw [e, wrap_u32, Nat.mod_eq_of_lt (a ^^^ b).isLt]
theorem and_u32 (a b : BitVec 32) : IntKind.wrap .u32 ((BitVec.ofInt IntKind.u32.bits (a.toNat : Int) &&& BitVec.ofInt IntKind.u32.bits (b.toNat : Int)).toNat : Int) = ((a &&& b).toNat : Int) := by
  have e : (BitVec.ofInt IntKind.u32.bits (a.toNat : Int) &&& BitVec.ofInt IntKind.u32.bits (b.toNat : Int)).toNat = (a &&& b).toNat := by
    rw [BitVec.toNat_and, ofInt_nat, ofInt_nat, BitVec.toNat_and]
    show a.toNat % 2 ^ 32 &&& b.toNat % 2 ^ 32 = _
    rw [Nat.mod_eq_of_lt a.isLt, Nat.mod_eq_of_lt b.isLt]
  rw [e, wrap_u32, Nat.mod_eq_of_lt (a &&& b).isLt]
theorem shr_nat (x i w : Nat) (h : i ≤ w) : (x : Int).fdiv (2 ^ (min (i : Int).toNat w)) = ((x / 2 ^ i : Nat) : Int) := by
  have e : min (i : Int).toNat w = i := by rw [Int.toNat_natCast]; omega
  rw [e]
  have : (2 : Int) ^ i = ((2 ^ i : Nat) : Int) := by simp
  rw [this, Int.ofNat_fdiv]
theorem low8_nat (n : Nat) : (n % 256) ||| 128 = n % 128 + 128 := by
  have h : ∀ n : Fin 256, n.1 ||| 128 = n.1 % 128 + 128 := by decide +kernel
  have := h ⟨n % 256, Nat.mod_lt _ (by omega)⟩
  simp only at this
  rw [this]; omega
theorem and127 (n : Nat) : n &&& 127 = n % 128 := Nat.and_two_pow_sub_one_eq_mod n 7
end Go.Proofs.Sum
