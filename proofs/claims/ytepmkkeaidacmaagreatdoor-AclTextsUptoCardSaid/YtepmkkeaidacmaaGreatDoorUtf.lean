/-
  Plain facts on the decoding of UTF-8: what a rune of several bytes spans, and how one is encoded.
-/
import Derived.Laws.RangeAny
namespace Go.Proofs.YtepmkkeaidacmaaGreatDoor
open Go

theorem decode_spans (s : ByteArray) (pos : Nat) (h : pos < s.size) (hb : 128 ≤ (s.get! (pos + 0)).toNat) :
    1 ≤ (Utf8.decode s pos).2 ∧ pos + (Utf8.decode s pos).2 ≤ s.size ∧ (∀ j, j < (Utf8.decode s pos).2 → 128 ≤ (s.get! (pos + j)).toNat) ∧ 128 ≤ (Utf8.decode s pos).1 ∧ Utf8.valid (Utf8.decode s pos).1 = true := by
  have hlt : ∀ k, (s.get! (pos + k)).toNat < 256 := fun k => (s.get! (pos + k)).toNat_lt
  have h0 := hlt 0; have h1 := hlt 1; have h2 := hlt 2; have h3 := hlt 3
  clear hlt
  have hj : ∀ n j, n ≤ 4 → j < n → j = 0 ∨ (j = 1 ∧ 2 ≤ n) ∨ (j = 2 ∧ 3 ≤ n) ∨ (j = 3 ∧ 4 ≤ n) := by omega
  have one : ∀ j, j < 1 → 128 ≤ (s.get! (pos + j)).toNat := fun j hj => by
    obtain rfl : j = 0 := by omega
    exact hb
  simp only [Utf8.decode, Bool.and_eq_true, decide_eq_true_eq, beq_iff_eq]
  repeat' split
  · omega
  · rename_i a b c
    refine ⟨by show 1 ≤ 2; omega, by show pos + 2 ≤ _; omega, fun j hjj => ?_, by show 128 ≤ _; omega, ?_⟩
    · rcases hj 2 j (by omega) hjj with rfl | ⟨rfl, _⟩ | ⟨rfl, hh⟩ | ⟨rfl, hh⟩
      · exact hb
      · omega
      · omega
      · omega
    · simp only [Utf8.valid, Bool.or_eq_true, Bool.and_eq_true, decide_eq_true_eq]; omega
  · exact ⟨Nat.le_refl _, by show pos + 1 ≤ _; omega, one, by decide, by decide⟩
  · rename_i a b c d
    refine ⟨by show 1 ≤ 3; omega, by show pos + 3 ≤ _; omega, fun j hjj => ?_, by show 128 ≤ _; omega, d.2⟩
    rcases hj 3 j (by omega) hjj with rfl | ⟨rfl, _⟩ | ⟨rfl, hh⟩ | ⟨rfl, hh⟩
    · exact hb
    · omega
    · omega
    · omega
  · exact ⟨Nat.le_refl _, by show pos + 1 ≤ _; omega, one, by decide, by decide⟩
  · rename_i a b c d e
    refine ⟨by show 1 ≤ 4; omega, by show pos + 4 ≤ _; omega, fun j hjj => ?_, by show 128 ≤ _; omega, e.2⟩
    rcases hj 4 j (by omega) hjj with rfl | ⟨rfl, _⟩ | ⟨rfl, hh⟩ | ⟨rfl, hh⟩
    · exact hb
    · omega
    · omega
    · omega
  · exact ⟨Nat.le_refl _, by show pos + 1 ≤ _; omega, one, by decide, by decide⟩
  · exact ⟨Nat.le_refl _, by show pos + 1 ≤ _; omega, one, by decide, by decide⟩

/-- The UTF-8 of a rune that is no ASCII: two to four bytes, none of them ASCII. -/
theorem encode_spans (c : Nat) (h : 128 ≤ c) (hv : Utf8.valid (c : Int) = true) :
    2 ≤ (Utf8.encode (c : Int)).size ∧ (Utf8.encode (c : Int)).size ≤ 4 ∧ ∀ j (hj : j < (Utf8.encode (c : Int)).size), 128 ≤ ((Utf8.encode (c : Int))[j]).toNat := by
  have hm : c ≤ 1114111 := by
    simp only [Utf8.valid, Bool.or_eq_true, Bool.and_eq_true, decide_eq_true_eq] at hv
    omega
  have hj : ∀ n j, n ≤ 4 → j < n → j = 0 ∨ (j = 1 ∧ 2 ≤ n) ∨ (j = 2 ∧ 3 ≤ n) ∨ (j = 3 ∧ 4 ≤ n) := by omega
  have e : Utf8.encode (c : Int) = if c < 2048 then ⟨#[UInt8.ofNat (192 + c / 64), UInt8.ofNat (128 + c % 64)]⟩ else if c < 65536 then ⟨#[UInt8.ofNat (224 + c / 4096), UInt8.ofNat (128 + c / 64 % 64), UInt8.ofNat (128 + c % 64)]⟩ else ⟨#[UInt8.ofNat (240 + c / 262144), UInt8.ofNat (128 + c / 4096 % 64), UInt8.ofNat (128 + c / 64 % 64), UInt8.ofNat (128 + c % 64)]⟩ := by
    unfold Utf8.encode
    simp only [hv, if_true, Int.toNat_natCast]
    rw [if_neg (by omega)]
  have hb : ∀ n, 128 ≤ n → n < 256 → 128 ≤ (UInt8.ofNat n).toNat := fun n h1 h2 => by simp; omega
  rw [e]
  repeat' split
  · refine ⟨by show 2 ≤ 2; omega, by show 2 ≤ 4; omega, fun j hjj => ?_⟩
    rcases hj 2 j (by omega) hjj with rfl | ⟨rfl, _⟩ | ⟨rfl, hh⟩ | ⟨rfl, hh⟩
    · exact hb _ (by omega) (by omega)
    · exact hb _ (by omega) (by omega)
    · omega
    · omega
  · refine ⟨by show 2 ≤ 3; omega, by show 3 ≤ 4; omega, fun j hjj => ?_⟩
    rcases hj 3 j (by omega) hjj with rfl | ⟨rfl, _⟩ | ⟨rfl, hh⟩ | ⟨rfl, hh⟩
    · exact hb _ (by omega) (by omega)
    · exact hb _ (by omega) (by omega)
    · exact hb _ (by omega) (by omega)
    · omega
  · refine ⟨by show 2 ≤ 4; omega, by show 4 ≤ 4; omega, fun j hjj => ?_⟩
    rcases hj 4 j (by omega) hjj with rfl | ⟨rfl, _⟩ | ⟨rfl, hh⟩ | ⟨rfl, hh⟩
    · exact hb _ (by omega) (by omega)
    · exact hb _ (by omega) (by omega)
    · exact hb _ (by omega) (by omega)
    · exact hb _ (by omega) (by omega)

end Go.Proofs.YtepmkkeaidacmaaGreatDoor
