/-
  Plain laws of the reference's answer for layer 6: its UTF-8 by the table of bytes, its numbers, its addresses, its cuts are those of the first spec. No program in sight.
-/
import Derived.Test.YtepmkkeaidacmaaGreatDoorSpec
import Derived.Lib.DecodeNEq
import Derived.Lib.TrimU
namespace Go.Proofs.YtepmkkeaidacmaaGreatDoor
open Go

/-! ### UTF-8, by the table of its bytes -/
theorem decodeL_eq (r : List UInt8) : Lib.decodeL r = Lib.decodeN r.length (r.getD 0 0).toNat (r.getD 1 0).toNat (r.getD 2 0).toNat (r.getD 3 0).toNat := by
  have h : ∀ j, (⟨r.toArray⟩ : ByteArray).get! j = r.getD j 0 := fun j => by
    show r.toArray[j]! = _
    simp [List.getElem!_eq_getElem?_getD]
    rfl
  unfold Lib.decodeL
  rw [Lib.decode_at, h, h, h, h]
  rfl

theorem validGoD_nil (n : Nat) : Lib.validGoD n [] = true := by
  cases n with
  | zero => rfl
  | succ n => rfl
theorem valid_fuel : ∀ (n m : Nat) (l : List UInt8), l.length ≤ n → l.length ≤ m → Lib.validGoD n l = Lib.validGoD m l
  | 0, m, l, h, _ => by
    obtain rfl : l = [] := List.eq_nil_of_length_eq_zero (by omega)
    rw [validGoD_nil, validGoD_nil]
  | n + 1, 0, l, _, h => by
    obtain rfl : l = [] := List.eq_nil_of_length_eq_zero (by omega)
    rw [validGoD_nil, validGoD_nil]
  | n + 1, m + 1, l, h1, h2 => by
    unfold Lib.validGoD
    have := Lib.decodeL_width l
    by_cases hl : l = []
    · rw [if_pos hl, if_pos hl]
    · rw [if_neg hl, if_neg hl, valid_fuel n m _ (by rw [List.length_drop]; omega) (by rw [List.length_drop]; omega)]

theorem validD_step (l : List UInt8) (h : l ≠ []) : Lib.validD l = if (Lib.decodeL l).1 = 65533 ∧ (Lib.decodeL l).2 = 1 then false else Lib.validD (l.drop (Lib.decodeL l).2) := by
  obtain ⟨n, hn⟩ : ∃ n, l.length = n + 1 := ⟨l.length - 1, by have := List.length_pos_iff.2 h; omega⟩
  have hw := Lib.decodeL_width l
  unfold Lib.validD
  rw [hn]
  conv => lhs; unfold Lib.validGoD
  rw [if_neg h, valid_fuel n _ _ (by rw [List.length_drop]; omega) (Nat.le_refl _)]

theorem validD_bad {l : List UInt8} (h : l ≠ []) (hb : Lib.decodeL l = (65533, 1)) : Lib.validD l = false := by
  rw [validD_step l h, hb]
  simp
theorem validD_good {l : List UInt8} (h : l ≠ []) {n : Nat} (hw : (Lib.decodeL l).2 = n) (hb : n ≠ 1 ∨ (Lib.decodeL l).1 ≠ 65533) : Lib.validD l = Lib.validD (l.drop n) := by
  rw [validD_step l h, hw, if_neg (by omega)]

theorem drop_ne {l : List UInt8} {pos : Nat} (h : pos < l.length) : l.drop pos ≠ [] := fun e => by
  have := congrArg List.length e
  simp at this
  omega
theorem getD_drop (l : List UInt8) (pos j : Nat) : (l.drop pos).getD j 0 = l.getD (pos + j) 0 := by
  simp [List.getD_eq_getElem?_getD]
theorem decode_drop (l : List UInt8) (pos : Nat) : Lib.decodeL (l.drop pos) = Lib.decodeN (l.length - pos) (l.getD pos 0).toNat (l.getD (pos + 1) 0).toNat (l.getD (pos + 2) 0).toNat (l.getD (pos + 3) 0).toNat := by
  rw [decodeL_eq, getD_drop, getD_drop, getD_drop, getD_drop, List.length_drop]
  rfl

theorem byte_lt (b : UInt8) : b.toNat < 256 := b.toNat_lt
theorem firstT_sz {b : Nat} (h : Lib.firstT b < 240) : 2 ≤ Lib.firstT b % 8 ∧ Lib.firstT b % 8 ≤ 4 := by
  rcases Lib.firstT_low h with h | h | h | h | h | h | h
  · rw [Lib.firstT_C2 h]; decide
  · rw [Lib.firstT_E0 h]; decide
  · rw [Lib.firstT_E1 h]; decide
  · rw [Lib.firstT_ED h]; decide
  · rw [Lib.firstT_F0 h]; decide
  · rw [Lib.firstT_F1 h]; decide
  · rw [Lib.firstT_F4 h]; decide

theorem utf_ascii {l : List UInt8} {pos : Nat} (hp : pos < l.length) (h : Lib.firstT (l.getD pos 0).toNat = 240) : Lib.validD (l.drop pos) = Lib.validD (l.drop (pos + 1)) := by
  have e : Lib.decodeL (l.drop pos) = ((l.getD pos 0).toNat, 1) := by rw [decode_drop, Lib.ascii_eq _ _ _ _ _ h]
  have := byte_lt (l.getD pos 0)
  rw [validD_good (drop_ne hp) (n := 1) (by rw [e]) (.inr (by rw [e]; simp only; omega)), List.drop_drop]
theorem utf_none {l : List UInt8} {pos : Nat} (hp : pos < l.length) (h : Lib.firstT (l.getD pos 0).toNat = 241) : Lib.validD (l.drop pos) = false := by
  apply validD_bad (drop_ne hp)
  rw [decode_drop, Lib.bad_eq _ _ _ _ _ (byte_lt _) h]
theorem decode_slow {l : List UInt8} {pos : Nat} (hp : pos < l.length) (h : Lib.firstT (l.getD pos 0).toNat < 240) : Lib.decodeL (l.drop pos) =
    Lib.slowN (l.length - pos) (l.getD pos 0).toNat (l.getD (pos + 1) 0).toNat (l.getD (pos + 2) 0).toNat (l.getD (pos + 3) 0).toNat (Lib.firstT (l.getD pos 0).toNat % 8) (Lib.accLo (Lib.firstT (l.getD pos 0).toNat / 16)) (Lib.accHi (Lib.firstT (l.getD pos 0).toNat / 16)) := by
  rw [decode_drop, Lib.slow_eq _ _ _ _ _ (by omega) (byte_lt _) (byte_lt _) (byte_lt _) h]
theorem utf_short {l : List UInt8} {pos : Nat} (hp : pos < l.length) (h : Lib.firstT (l.getD pos 0).toNat < 240) (hs : l.length ≤ pos + (Lib.firstT (l.getD pos 0).toNat % 8 - 1)) : Lib.validD (l.drop pos) = false := by
  apply validD_bad (drop_ne hp)
  have := firstT_sz h
  rw [decode_slow hp h, Lib.slowN, if_pos (by omega)]

/-- The bounds of the byte at place j behind a first byte. -/
def loAt (b : Nat) (j : Nat) : Nat := if j = 1 then Lib.accLo (Lib.firstT b / 16) else 128
def hiAt (b : Nat) (j : Nat) : Nat := if j = 1 then Lib.accHi (Lib.firstT b / 16) else 191

theorem utf_bad {l : List UInt8} {pos : Nat} (hp : pos < l.length) (h : Lib.firstT (l.getD pos 0).toNat < 240) (k : Nat) (h1 : 1 ≤ k) (h2 : k < Lib.firstT (l.getD pos 0).toNat % 8)
    (hb : (l.getD (pos + k) 0).toNat < loAt (l.getD pos 0).toNat k ∨ hiAt (l.getD pos 0).toNat k < (l.getD (pos + k) 0).toNat) : Lib.validD (l.drop pos) = false := by
  apply validD_bad (drop_ne hp)
  have hz := firstT_sz h
  rw [decode_slow hp h, Lib.slowN]
  generalize Lib.firstT (l.getD pos 0).toNat % 8 = sz at *
  unfold loAt hiAt at hb
  rcases (show k = 1 ∨ k = 2 ∨ k = 3 by omega) with rfl | rfl | rfl
  · simp only [if_true] at hb
    rw [if_pos hb]
    split <;> rfl
  · simp only [show ¬ (2 : Nat) = 1 by decide, if_false] at hb
    rw [if_neg (show ¬ sz ≤ 2 by omega), if_pos hb]
    split
    · rfl
    · split <;> rfl
  · simp only [show ¬ (3 : Nat) = 1 by decide, if_false] at hb
    rw [if_neg (show ¬ sz ≤ 2 by omega), if_neg (show ¬ sz ≤ 3 by omega), if_pos hb]
    split
    · rfl
    · split
      · rfl
      · split <;> rfl
theorem utf_good {l : List UInt8} {pos : Nat} (hp : pos < l.length) (h : Lib.firstT (l.getD pos 0).toNat < 240) (hr : pos + (Lib.firstT (l.getD pos 0).toNat % 8 - 1) < l.length)
    (hg : ∀ k, 1 ≤ k → k < Lib.firstT (l.getD pos 0).toNat % 8 → loAt (l.getD pos 0).toNat k ≤ (l.getD (pos + k) 0).toNat ∧ (l.getD (pos + k) 0).toNat ≤ hiAt (l.getD pos 0).toNat k) :
    Lib.validD (l.drop pos) = Lib.validD (l.drop (pos + Lib.firstT (l.getD pos 0).toNat % 8)) := by
  have hz := firstT_sz h
  have e : (Lib.decodeL (l.drop pos)).2 = Lib.firstT (l.getD pos 0).toNat % 8 := by
    rw [decode_slow hp h, Lib.slowN]
    generalize hsz : Lib.firstT (l.getD pos 0).toNat % 8 = sz at *
    have g1 := hg 1 (by omega) (by omega)
    unfold loAt hiAt at g1
    simp only [if_true] at g1
    rw [if_neg (by omega), if_neg (by omega)]
    by_cases c2 : sz ≤ 2
    · rw [if_pos c2]; simp only; omega
    · have g2 := hg 2 (by omega) (by omega)
      unfold loAt hiAt at g2
      simp only [show ¬ (2 : Nat) = 1 by decide, if_false] at g2
      rw [if_neg c2, if_neg (by omega)]
      by_cases c3 : sz ≤ 3
      · rw [if_pos c3]; simp only; omega
      · have g3 := hg 3 (by omega) (by omega)
        unfold loAt hiAt at g3
        simp only [show ¬ (3 : Nat) = 1 by decide, if_false] at g3
        rw [if_neg c3, if_neg (by omega)]
        simp only; omega
  rw [validD_good (drop_ne hp) e (.inl (by omega)), List.drop_drop]

theorem valid_ascii : ∀ (n : Nat) (l : List UInt8), l.length ≤ n → (∀ b ∈ l, b.toNat < 128) → Lib.validD l = true
  | _, [], _, _ => rfl
  | 0, b :: l, h, _ => by simp at h
  | n + 1, b :: l, hn, h => by
    have hb := h b (by simp)
    have e : Lib.firstT (((b :: l).getD 0 0).toNat) = 240 := by
      show Lib.firstT b.toNat = 240
      unfold Lib.firstT
      rw [if_pos hb]
    have := utf_ascii (l := b :: l) (pos := 0) (by simp) e
    rw [show (b :: l) = (b :: l).drop 0 from rfl, this]
    exact valid_ascii n l (by simpa using hn) fun x hx => h x (List.mem_cons_of_mem _ hx)

/-! ### Numbers without zeros ahead -/
def dig (a : Nat) : UInt8 := UInt8.ofNat (48 + a)
theorem dig_of {b : UInt8} (h1 : 48 ≤ b.toNat) (h2 : b.toNat ≤ 57) : ∃ a : Fin 10, b = dig a.val :=
  ⟨⟨b.toNat - 48, by omega⟩, by unfold dig; simp only; rw [show 48 + (b.toNat - 48) = b.toNat by omega]; simp⟩
theorem dig_val (a : Fin 10) : (dig a.val).toNat = 48 + a.val := by revert a; decide

theorem itoa_one (a : Fin 10) : Lib.itoa ((a.val : Nat) : Int) = [dig a.val] := by
  unfold Lib.itoa
  rw [if_neg (by omega), Int.toNat_natCast, Lib.decDigits_one a.isLt]
  rfl
theorem itoa_two (a b : Fin 10) (h : 1 ≤ a.val) : Lib.itoa ((10 * a.val + b.val : Nat) : Int) = [dig a.val, dig b.val] := by
  unfold Lib.itoa
  rw [if_neg (by omega), Int.toNat_natCast, Lib.decDigits_two (by omega) (by omega), show (10 * a.val + b.val) / 10 = a.val by omega, show (10 * a.val + b.val) % 10 = b.val by omega]
  rfl
theorem itoa_three (a b c : Fin 10) (h : 1 ≤ a.val) : Lib.itoa ((100 * a.val + 10 * b.val + c.val : Nat) : Int) = [dig a.val, dig b.val, dig c.val] := by
  unfold Lib.itoa
  rw [if_neg (by omega), Int.toNat_natCast, Lib.decDigits, dif_neg (by omega), show (100 * a.val + 10 * b.val + c.val) / 10 = 10 * a.val + b.val by omega, show (100 * a.val + 10 * b.val + c.val) % 10 = c.val by omega,
    Lib.decDigits_two (by omega) (by omega), show (10 * a.val + b.val) / 10 = a.val by omega, show (10 * a.val + b.val) % 10 = b.val by omega]
  rfl
theorem itoa_form (n : Nat) (h : n < 1000) : (∃ a : Fin 10, n = a.val) ∨ (∃ a b : Fin 10, 1 ≤ a.val ∧ n = 10 * a.val + b.val) ∨ (∃ a b c : Fin 10, 1 ≤ a.val ∧ n = 100 * a.val + 10 * b.val + c.val) := by
  by_cases h1 : n < 10
  · exact .inl ⟨⟨n, h1⟩, rfl⟩
  · by_cases h2 : n < 100
    · exact .inr (.inl ⟨⟨n / 10, by omega⟩, ⟨n % 10, by omega⟩, by simp only; omega, by simp only; omega⟩)
    · exact .inr (.inr ⟨⟨n / 100, by omega⟩, ⟨n / 10 % 10, by omega⟩, ⟨n % 10, by omega⟩, by simp only; omega, by simp only; omega⟩)

theorem atoi_one : ∀ a : Fin 10, Lib.atoiAll [dig a.val] = .ok ((a.val : Nat) : Int) := by decide +kernel
theorem atoi_two : ∀ a b : Fin 10, Lib.atoiAll [dig a.val, dig b.val] = .ok ((10 * a.val + b.val : Nat) : Int) := by decide +kernel
theorem atoi_three : ∀ a b c : Fin 10, Lib.atoiAll [dig a.val, dig b.val, dig c.val] = .ok ((100 * a.val + 10 * b.val + c.val : Nat) : Int) := by decide +kernel

/-- What a number is, where it is one. -/
theorem decimal_some {l : List UInt8} {most : Int} (hm : most ≤ 999) (h : decimalI l most ≠ -1) : ∃ n : Nat, n < 1000 ∧ l = Lib.itoa (n : Int) := by
  unfold decimalI at h
  split at h
  · rename_i n _
    split at h
    · exact absurd rfl h
    · split at h
      · exact absurd rfl h
      · split at h
        · rename_i h1 h2 h3
          exact ⟨n.toNat, by omega, by rw [Int.toNat_of_nonneg (by omega), h3]⟩
        · exact absurd rfl h
  · exact absurd rfl h
theorem decimal_form {l : List UInt8} {most : Int} (hm : most ≤ 999) (h : decimalI l most ≠ -1) :
    (∃ a : Fin 10, l = [dig a.val]) ∨ (∃ a b : Fin 10, 1 ≤ a.val ∧ l = [dig a.val, dig b.val]) ∨ (∃ a b c : Fin 10, 1 ≤ a.val ∧ l = [dig a.val, dig b.val, dig c.val]) := by
  obtain ⟨n, hn, rfl⟩ := decimal_some hm h
  rcases itoa_form n hn with ⟨a, rfl⟩ | ⟨a, b, ha, rfl⟩ | ⟨a, b, c, ha, rfl⟩
  · exact .inl ⟨a, itoa_one a⟩
  · exact .inr (.inl ⟨a, b, ha, itoa_two a b ha⟩)
  · exact .inr (.inr ⟨a, b, c, ha, itoa_three a b c ha⟩)
theorem dig_zero {a : Fin 10} (h : 1 ≤ a.val) : dig a.val ≠ 48 := by
  intro e
  have := congrArg UInt8.toNat e
  rw [dig_val] at this
  simp at this
  omega
theorem decimal_shape {l : List UInt8} {most : Int} (hm : most ≤ 999) (h : decimalI l most ≠ -1) :
    1 ≤ l.length ∧ l.length ≤ 3 ∧ ¬ (1 < l.length ∧ l.getD 0 0 = 48) ∧ ∀ b ∈ l, 48 ≤ b.toNat ∧ b.toNat ≤ 57 := by
  have hd : ∀ a : Fin 10, 48 ≤ (dig a.val).toNat ∧ (dig a.val).toNat ≤ 57 := fun a => by rw [dig_val]; omega
  rcases decimal_form hm h with ⟨a, rfl⟩ | ⟨a, b, ha, rfl⟩ | ⟨a, b, c, ha, rfl⟩
  · refine ⟨by simp, by simp, by simp, fun x hx => ?_⟩
    simp only [List.mem_cons, List.mem_nil_iff, or_false] at hx
    subst hx; exact hd a
  · refine ⟨by simp, by simp, fun hh => dig_zero ha hh.2, fun x hx => ?_⟩
    simp only [List.mem_cons, List.mem_nil_iff, or_false] at hx
    rcases hx with rfl | rfl
    · exact hd a
    · exact hd b
  · refine ⟨by simp, by simp, fun hh => dig_zero ha hh.2, fun x hx => ?_⟩
    simp only [List.mem_cons, List.mem_nil_iff, or_false] at hx
    rcases hx with rfl | rfl | rfl
    · exact hd a
    · exact hd b
    · exact hd c

/-- What digits spell. -/
def val (l : List UInt8) : Nat := l.foldl (fun n b => 10 * n + (b.toNat - 48)) 0
theorem val_snoc (l : List UInt8) (b : UInt8) : val (l ++ [b]) = 10 * val l + (b.toNat - 48) := by simp [val]
theorem decimal_at {l : List UInt8} {n : Nat} {most : Int} (h1 : Lib.atoiAll l = .ok (n : Int)) (h2 : Lib.itoa (n : Int) = l) : decimalI l most = if most < n then -1 else (n : Int) := by
  unfold decimalI
  rw [h1]
  simp only
  rw [if_neg (by omega), h2, if_pos rfl]
theorem decimal_good (l : List UInt8) (most : Int) (h1 : 1 ≤ l.length) (h3 : l.length ≤ 3) (hz : ¬ (1 < l.length ∧ l.getD 0 0 = 48)) (hd : ∀ b ∈ l, 48 ≤ b.toNat ∧ b.toNat ≤ 57) :
    decimalI l most = if most < val l then -1 else (val l : Int) := by
  have nz : ∀ a : Fin 10, dig a.val ≠ 48 → 1 ≤ a.val := by decide
  match l, h1, h3, hz, hd with
  | [x], _, _, _, hd =>
    obtain ⟨a, rfl⟩ := dig_of (hd x (by simp)).1 (hd x (by simp)).2
    have e : val [dig a.val] = a.val := by simp only [val, List.foldl, dig_val]; omega
    rw [e]
    exact decimal_at (atoi_one a) (itoa_one a)
  | [x, y], _, _, hz, hd =>
    obtain ⟨a, rfl⟩ := dig_of (hd x (by simp)).1 (hd x (by simp)).2
    obtain ⟨b, rfl⟩ := dig_of (hd y (by simp)).1 (hd y (by simp)).2
    have ha : 1 ≤ a.val := nz a fun e => hz ⟨by simp, e⟩
    have e : val [dig a.val, dig b.val] = 10 * a.val + b.val := by simp only [val, List.foldl, dig_val]; omega
    rw [e]
    exact decimal_at (atoi_two a b) (itoa_two a b ha)
  | [x, y, z], _, _, hz, hd =>
    obtain ⟨a, rfl⟩ := dig_of (hd x (by simp)).1 (hd x (by simp)).2
    obtain ⟨b, rfl⟩ := dig_of (hd y (by simp)).1 (hd y (by simp)).2
    obtain ⟨c, rfl⟩ := dig_of (hd z (by simp)).1 (hd z (by simp)).2
    have ha : 1 ≤ a.val := nz a fun e => hz ⟨by simp, e⟩
    have e : val [dig a.val, dig b.val, dig c.val] = 100 * a.val + 10 * b.val + c.val := by simp only [val, List.foldl, dig_val]; omega
    rw [e]
    exact decimal_at (atoi_three a b c) (itoa_three a b c ha)
  | _ :: _ :: _ :: _ :: _, _, h3, _, _ => simp at h3

/-! ### The first place of a byte, from a place on -/
structure CutAt (s : List UInt8) (frm : Nat) (b : UInt8) (k : Nat) : Prop where
  lo : frm ≤ k
  hi : k ≤ s.length
  no : ∀ j, frm ≤ j → j < k → s.getD j 0 ≠ b
  at_ : k < s.length → s.getD k 0 = b

theorem CutAt.free {s : List UInt8} {frm k : Nat} {b : UInt8} (h : CutAt s frm b k) : b ∉ (s.drop frm).take (k - frm) := by
  intro hm
  obtain ⟨j, hj, e⟩ := List.mem_iff_getElem.1 hm
  have hj' : j < k - frm := by rw [List.length_take] at hj; omega
  have := h.hi
  have hl : frm + j < s.length := by omega
  apply h.no (frm + j) (by omega) (by omega)
  rw [List.getD_eq_getElem?_getD, List.getElem?_eq_getElem hl]
  simpa using e
theorem CutAt.whole {s : List UInt8} {frm k : Nat} {b : UInt8} (h : CutAt s frm b k) (he : k = s.length) : (s.drop frm).take (k - frm) = s.drop frm ∧ b ∉ s.drop frm := by
  have e : (s.drop frm).take (k - frm) = s.drop frm := List.take_of_length_le (by rw [List.length_drop]; omega)
  exact ⟨e, by have := h.free; rwa [e] at this⟩
theorem CutAt.parts {s : List UInt8} {frm k : Nat} {b : UInt8} (h : CutAt s frm b k) (he : k < s.length) : s.drop frm = (s.drop frm).take (k - frm) ++ b :: s.drop (k + 1) := by
  have h1 := h.at_ he
  rw [List.getD_eq_getElem?_getD, List.getElem?_eq_getElem he] at h1
  have h1 : s[k] = b := h1
  have e : (s.drop frm).drop (k - frm) = b :: s.drop (k + 1) := by
    rw [List.drop_drop, show frm + (k - frm) = k by have := h.lo; omega, List.drop_eq_getElem_cons he, h1]
  rw [← e, List.take_append_drop]
theorem CutAt.split {s : List UInt8} {frm k : Nat} {b : UInt8} (h : CutAt s frm b k) : Lib.split (s.drop frm) [b] = (s.drop frm).take (k - frm) :: if k = s.length then [] else Lib.split (s.drop (k + 1)) [b] := by
  by_cases he : k = s.length
  · obtain ⟨e1, e2⟩ := h.whole he
    rw [if_pos he, e1, split_no _ _ e2]
  · have := h.hi
    rw [if_neg he]
    conv => lhs; rw [h.parts (by omega)]
    rw [split_step _ _ _ h.free]
theorem CutAt.index {s : List UInt8} {k : Nat} {b : UInt8} (h : CutAt s 0 b k) : Lib.index s [b] = if k = s.length then -1 else (k : Int) := by
  by_cases he : k = s.length
  · rw [if_pos he]
    exact index_no _ _ (h.whole he).2
  · have hk := h.hi
    rw [if_neg he]
    have e := h.parts (by omega)
    rw [List.drop_zero] at e
    conv => lhs; rw [e]
    have hf := h.free
    rw [List.drop_zero] at hf
    rw [index_at _ _ _ hf, List.length_take]
    omega
theorem CutAt.cut {s : List UInt8} {k : Nat} {b : UInt8} (h : CutAt s 0 b k) : Lib.cut s [b] = if k = s.length then (s, [], false) else (s.take k, s.drop (k + 1), true) := by
  have hi := h.index
  have hk := h.hi
  unfold Lib.cut
  by_cases he : k = s.length
  · rw [if_pos he] at hi ⊢
    rw [hi]
    rfl
  · rw [if_neg he] at hi ⊢
    rw [hi]
    simp

/-! ### What stands in an address -/
theorem split_back (c : UInt8) : ∀ (n : Nat) (s : List UInt8), s.length ≤ n → Lib.join (Lib.split s [c]) [c] = s := by
  intro n
  induction n with
  | zero =>
    intro s h
    obtain rfl : s = [] := List.eq_nil_of_length_eq_zero (by omega)
    rw [split_no [] c (by simp), Lib.join_one]
  | succ n ih =>
    intro s h
    by_cases hc : c ∈ s
    · obtain ⟨t, r, rfl, ht⟩ := List.eq_append_cons_of_mem hc
      rw [split_step _ _ _ ht]
      have hr := ih r (by simp at h; omega)
      rw [Lib.join_cons]
      have hne := splitK_ne [c] 0 (Lib.count r [c]) r
      change 1 ≤ (Lib.split r [c]).length at hne
      cases hs : Lib.split r [c] with
      | nil => rw [hs] at hne; simp at hne
      | cons y l =>
        rw [hs, Lib.join_cons] at hr
        have : Lib.joinTail [c] (y :: l) = c :: (y ++ Lib.joinTail [c] l) := by simp [Lib.joinTail]
        rw [this, hr]
    · rw [split_no _ _ hc, Lib.join_one]
theorem join_all (P : UInt8 → Prop) (c : UInt8) (hc : P c) : ∀ l : List (List UInt8), (∀ x ∈ l, ∀ b ∈ x, P b) → ∀ b ∈ Lib.join l [c], P b
  | [], _, b, hb => by simp [Lib.join_nil] at hb
  | x :: l, h, b, hb => by
    rw [Lib.join_cons] at hb
    rcases List.mem_append.1 hb with hb | hb
    · exact h x (by simp) b hb
    · simp only [Lib.joinTail, List.mem_flatten, List.mem_map] at hb
      obtain ⟨_, ⟨y, hy, rfl⟩, hb⟩ := hb
      rcases List.mem_append.1 hb with hb | hb
      · simp only [List.mem_singleton] at hb
        subst hb; exact hc
      · exact h y (List.mem_cons_of_mem _ hy) b hb
theorem join_size (c : UInt8) (m : Nat) : ∀ l : List (List UInt8), (∀ x ∈ l, x.length ≤ m) → (Lib.join l [c]).length ≤ l.length * (m + 1)
  | [], _ => by simp [Lib.join_nil]
  | [x], h => by
    have := h x (by simp)
    rw [Lib.join_one]
    simp only [List.length_cons, List.length_nil]
    omega
  | x :: y :: l, h => by
    have h1 := h x (by simp)
    have h2 := join_size c m (y :: l) (fun z hz => h z (by simp [hz]))
    have e : Lib.join (x :: y :: l) [c] = x ++ c :: Lib.join (y :: l) [c] := by
      rw [Lib.join_cons, Lib.join_cons]
      simp [Lib.joinTail]
    rw [e]
    simp only [List.length_append, List.length_cons, Nat.add_mul] at h2 ⊢
    omega
/-- A digit, a point or a slash. -/
def netByte (b : UInt8) : Prop := 46 ≤ b.toNat ∧ b.toNat ≤ 57
theorem addr_shape {s : List UInt8} (h : addrL s = true) : s ≠ [] ∧ s.length ≤ 16 ∧ ∀ b ∈ s, netByte b := by
  unfold addrL at h
  simp only [Bool.and_eq_true, decide_eq_true_eq] at h
  obtain ⟨h4, ha⟩ := h
  have hp : ∀ p ∈ Lib.split s [46], p.length ≤ 3 ∧ ∀ b ∈ p, netByte b := fun p hp => by
    have := of_decide_eq_true (List.all_eq_true.1 ha p hp)
    obtain ⟨_, h2, _, h5⟩ := decimal_shape (l := p) (most := 255) (by decide) (by omega)
    exact ⟨h2, fun b hb => by have := h5 b hb; unfold netByte; omega⟩
  have hb := split_back 46 s.length s (Nat.le_refl _)
  refine ⟨?_, ?_, ?_⟩
  · rintro rfl
    rw [split_no [] 46 (by simp)] at h4
    simp at h4
  · have := join_size 46 3 _ fun x hx => (hp x hx).1
    rw [hb, h4] at this
    exact this
  · rw [← hb]
    exact join_all netByte 46 (by unfold netByte; decide) _ fun x hx => (hp x hx).2
theorem cut_back (s : List UInt8) (c : UInt8) : s = (Lib.cut s [c]).1 ∧ (Lib.cut s [c]).2.2 = false ∨ s = (Lib.cut s [c]).1 ++ c :: (Lib.cut s [c]).2.1 ∧ (Lib.cut s [c]).2.2 = true := by
  by_cases hc : c ∈ s
  · right
    obtain ⟨t, r, rfl, ht⟩ := List.eq_append_cons_of_mem hc
    unfold Lib.cut
    rw [index_at _ _ _ ht]
    simp
  · left
    unfold Lib.cut
    rw [index_no _ _ hc]
    exact ⟨rfl, rfl⟩
theorem net_ok {b : UInt8} (h : netByte b) : okByte b = true := by
  unfold netByte at h
  unfold okByte
  simp only [Bool.and_eq_true, Bool.not_eq_true', decide_eq_false_iff_not]
  omega
theorem net_text {s : List UInt8} (h : netL s = true) : textL s = true := by
  unfold netL at h
  simp only [Bool.and_eq_true, decide_eq_true_eq] at h
  obtain ⟨ha, hb⟩ := h
  obtain ⟨h1, h2, h3⟩ := addr_shape ha
  have hs : s ≠ [] ∧ s.length ≤ 20 ∧ ∀ b ∈ s, netByte b := by
    rcases cut_back s 47 with ⟨e, _⟩ | ⟨e, ef⟩
    · rw [← e] at h1 h2 h3
      exact ⟨h1, by omega, h3⟩
    · unfold bitsL at hb
      rw [if_pos ef] at hb
      obtain ⟨_, g2, _, g5⟩ := decimal_shape (l := (Lib.cut s [47]).2.1) (most := 32) (by decide) (by omega)
      have hm : ∀ b ∈ s, netByte b := fun b hb => by
        rw [e] at hb
        rcases List.mem_append.1 hb with hb | hb
        · exact h3 b hb
        · rcases List.mem_cons.1 hb with rfl | hb
          · unfold netByte; decide
          · have := g5 b hb
            unfold netByte
            omega
      refine ⟨?_, ?_, hm⟩
      · intro e0
        rw [e0] at e
        have := congrArg List.length e
        simp at this
      · have := congrArg List.length e
        simp only [List.length_append, List.length_cons] at this
        omega
  obtain ⟨k1, k2, k3⟩ := hs
  unfold textL
  simp only [Bool.and_eq_true, decide_eq_true_eq]
  refine ⟨⟨⟨?_, by omega⟩, ?_⟩, ?_⟩
  · cases s with
    | nil => exact absurd rfl k1
    | cons a s => rfl
  · exact valid_ascii s.length s (Nat.le_refl _) fun b hb => by have := k3 b hb; unfold netByte at this; omega
  · exact List.all_eq_true.2 fun b hb => net_ok (k3 b hb)

/-! ### Right, as the reference has it -/
def kindR (sc id : List UInt8) : Bool :=
  if sc = bWorld then decide (id = bAnyone) else if sc = bDigest then textL id && digL id else if sc = bIp then netL id else false
theorem low_text {l : List UInt8} (h1 : l ≠ []) (h2 : l.length ≤ 256) (h3 : ∀ b ∈ l, b.toNat < 128) (h4 : l.all okByte = true) : textL l = true := by
  unfold textL
  simp only [Bool.and_eq_true, decide_eq_true_eq]
  refine ⟨⟨⟨?_, h2⟩, valid_ascii l.length l (Nat.le_refl _) h3⟩, h4⟩
  cases l with
  | nil => exact absurd rfl h1
  | cons a s => rfl
theorem text_world : textL bWorld = true := low_text (by decide) (by decide) (by decide) (by decide)
theorem text_anyone : textL bAnyone = true := low_text (by decide) (by decide) (by decide) (by decide)
theorem text_digest : textL bDigest = true := low_text (by decide) (by decide) (by decide) (by decide)
theorem text_ip : textL bIp = true := low_text (by decide) (by decide) (by decide) (by decide)
theorem kind_ref (sc id : List UInt8) : (textL sc && textL id && kindL sc id) = kindR sc id := by
  unfold kindL kindR
  by_cases h1 : sc = bWorld
  · subst h1
    rw [if_pos rfl, if_pos rfl, text_world, Bool.true_and]
    by_cases h2 : id = bAnyone
    · subst h2; rw [text_anyone, Bool.true_and]
    · rw [decide_eq_false h2, Bool.and_false]
  · rw [if_neg h1, if_neg h1]
    by_cases h2 : sc = bDigest
    · subst h2
      rw [if_pos rfl, if_pos rfl, text_digest, Bool.true_and]
    · rw [if_neg h2, if_neg h2]
      by_cases h3 : sc = bIp
      · subst h3
        rw [if_pos rfl, text_ip, Bool.true_and]
        cases hn : netL id with
        | false => rw [Bool.and_false]
        | true => rw [net_text hn, Bool.true_and]
      · rw [if_neg h3, Bool.and_false]
theorem right_ref (p : Int) (sc id : List UInt8) : rightL p sc id = (decide (0 ≤ p) && decide (p ≤ 31) && kindR sc id) := by
  rw [← kind_ref]
  unfold rightL
  simp only [Bool.and_assoc]
end Go.Proofs.YtepmkkeaidacmaaGreatDoor
