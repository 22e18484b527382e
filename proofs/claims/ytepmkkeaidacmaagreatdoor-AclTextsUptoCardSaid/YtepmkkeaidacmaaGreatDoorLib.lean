/-
  What the walks ask of memory ('Env': the library's tables and variables hold what they hold), and the library's contracts in this claim's words.
-/
import Derived.Test.YtepmkkeaidacmaaGreatDoorBase
import Derived.Test.YtepmkkeaidacmaaGreatDoorShelf
import Derived.Shelf.Unicode.ValidAny
import Derived.WalkSmall
import Derived.Lib.AtoiErrMem
import Derived.Lib.AppendIntMem
namespace Go.Proofs.YtepmkkeaidacmaaGreatDoor
open Go.RowKit

structure Env (w : World) : Prop where
  sz : 8 ≤ w.heap.size
  maxlen : ∃ m, w.cell? ⟨2, 0, none⟩ = some (.int .i64 m)
  tabs : Lib.Utf8Tabs 0 1 w
  esyn : ∃ tp p, w.var? Tryz.prog "strconv.ErrSyntax" = some #[.iface tp p]
  erng : ∃ tp p, w.var? Tryz.prog "strconv.ErrRange" = some #[.iface tp p]
  pow : Lib.TabIs Tryz.prog w "internal/strconv.uint64pow10" .u64 Lib.pow10Tab

theorem Env.below {w w' : World} (h : Env w) (hb : Below w.heap.size w w') : Env w' := by
  have hz := h.sz
  have hc : ∀ (g o : Nat), g < 8 → w'.cell? ⟨g, o, none⟩ = w.cell? ⟨g, o, none⟩ := fun g o hg => hb.cell (p := ⟨g, o, none⟩) (by show g < w.heap.size; omega)
  refine ⟨Nat.le_trans hz hb.size, ?_, ?_, ?_, ?_, ?_⟩
  · obtain ⟨m, hm⟩ := h.maxlen
    exact ⟨m, by rw [hc _ _ (by decide)]; exact hm⟩
  · refine ⟨fun c hcc => ?_, fun i hi => ⟨?_, ?_⟩⟩
    · rw [hc _ _ (by decide)]; exact h.tabs.1 c hcc
    · rw [hc _ _ (by decide)]; exact (h.tabs.2 i hi).1
    · rw [hc _ _ (by decide)]; exact (h.tabs.2 i hi).2
  · obtain ⟨tp, p, hv⟩ := h.esyn
    exact ⟨tp, p, var?_below hb (g := 3) (by kernel_rfl) (by omega) hv⟩
  · obtain ⟨tp, p, hv⟩ := h.erng
    exact ⟨tp, p, var?_below hb (g := 4) (by kernel_rfl) (by omega) hv⟩
  · exact var?_below hb (g := 5) (by kernel_rfl) (by omega) h.pow

theorem Env.drewN {w : World} (h : Env w) (n : Nat) : Env (w.drewN n) := ⟨h.sz, h.maxlen, h.tabs, h.esyn, h.erng, h.pow⟩
theorem Env.drew {w : World} (h : Env w) : Env w.drew := ⟨h.sz, h.maxlen, h.tabs, h.esyn, h.erng, h.pow⟩

theorem lib_index (l : List UInt8) (c : UInt8) (hl : l.length ≤ 4294967280) (w : World) (he : Env w) :
    Calls Tryz.prog 39 #[.string (B l), .string ⟨#[c]⟩] w fun e w' => e = .returned (.int .i64 (Lib.index l [c])) ∧ w = w' := by
  obtain ⟨m, hm⟩ := he.maxlen
  refine (Tryz.strings_Index (B l) ⟨#[c]⟩ m w (by rw [B_size]; omega) hm).mono ?_
  rintro e w' ⟨rfl, rfl⟩
  rw [B_data]
  exact ⟨rfl, rfl⟩

theorem lib_lastIndex (l : List UInt8) (c : UInt8) (hl : l.length ≤ 4294967280) (w : World) :
    Calls Tryz.prog 40 #[.string (B l), .string ⟨#[c]⟩] w fun e w' => e = .returned (.int .i64 (Lib.lastIndex l [c])) ∧ w = w' := by
  refine (Tryz.strings_LastIndex (B l) ⟨#[c]⟩ (by rw [B_size]; omega) w).mono ?_
  rintro e w' ⟨rfl, rfl⟩
  rw [B_data]
  exact ⟨rfl, rfl⟩

theorem lib_cut (l : List UInt8) (c : UInt8) (hl : l.length ≤ 4294967280) (w : World) (he : Env w) :
    Calls Tryz.prog 43 #[.string (B l), .string ⟨#[c]⟩] w fun e w' =>
      e = .returned (.tuple #[.string (B (Lib.cut l [c]).1), .string (B (Lib.cut l [c]).2.1), .bool (Lib.cut l [c]).2.2]) ∧ ∃ n, w' = w.drewN n := by
  obtain ⟨m, hm⟩ := he.maxlen
  refine (Tryz.strings_Cut (B l) ⟨#[c]⟩ m w (by rw [B_size]; omega) hm).mono ?_
  rintro e w' ⟨rfl, h⟩
  rw [B_data]
  exact ⟨rfl, h⟩

theorem splitB_eq (l : List UInt8) (c : UInt8) : Lib.splitB ⟨#[c]⟩ 0 (Lib.countB (B l) ⟨#[c]⟩) (B l) = (Lib.split l [c]).map B := by
  have h := Lib.splitB_data ⟨#[c]⟩ 0 (Lib.countB (B l) ⟨#[c]⟩) (B l)
  rw [B_data] at h
  have e : Lib.countB (B l) ⟨#[c]⟩ = Lib.count l [c] := by unfold Lib.countB; rw [B_data]
  rw [e] at h ⊢
  unfold Lib.split
  rw [← h, List.map_map]
  have : (B ∘ fun x : ByteArray => x.data.toList) = id := by funext x; exact B_of x
  rw [this, List.map_id]
theorem split_len (l : List UInt8) (c : UInt8) : (Lib.split l [c]).length = Lib.countB (B l) ⟨#[c]⟩ + 1 := by
  have h := Lib.splitB_all ⟨#[c]⟩ (Nat.le_refl 1) 0 _ (B l) rfl
  rw [splitB_eq, List.length_map] at h
  exact h

theorem lib_split (l : List UInt8) (c : UInt8) (hl : l.length ≤ 4294967280) (w : World) (he : Env w) :
    Calls Tryz.prog 20 #[.string (B l), .string ⟨#[c]⟩] w fun e w' =>
      e = .returned (.slice (some ⟨w.heap.size, 0, none⟩) (Lib.split l [c]).length (Lib.split l [c]).length) ∧ Below w.heap.size w w' ∧ w.heap.size < w'.heap.size ∧
      ∀ j (hj : j < (Lib.split l [c]).length), w'.cell? ⟨w.heap.size, j, none⟩ = some (.string (B (Lib.split l [c])[j])) := by
  obtain ⟨m, hm⟩ := he.maxlen
  refine (Tryz.strings_Split (B l) ⟨#[c]⟩ m w (by rw [B_size]; omega) hm (Nat.le_refl 1)).mono ?_
  rintro e w' ⟨rfl, rfl⟩
  rw [splitB_eq, ← split_len, List.map_map]
  refine ⟨rfl, (Below.refl _ _).alloc (Nat.le_refl _) _, by simp, fun j hj => ?_⟩
  rw [World.cell?_alloc_new]
  simp [List.getElem?_eq_getElem hj]

theorem lib_valid (l : List UInt8) (hl : l.length ≤ 4294967280) (w : World) (he : Env w) :
    Calls Tryz.prog 42 #[.string (B l)] w fun e w' => e = .returned (.bool (Lib.validD l)) ∧ Below w.heap.size w w' := by
  refine (Tryz.utf8_ValidString (B l) w (by rw [B_size]; omega) he.tabs).mono ?_
  rintro e w' ⟨rfl, h⟩
  rw [B_data]
  exact ⟨rfl, h⟩

theorem lib_itoa (n : Int) (h0 : -9223372036854775808 ≤ n) (h1 : n ≤ 9223372036854775807) (w : World) (he : Env w) :
    Calls Tryz.prog 67 #[.int .i64 n] w fun e w' => e = .returned (.string (B (Lib.itoa n))) ∧ Below w.heap.size w w' := by
  refine (Tryz.strconv_Itoa n h0 h1 w he.pow).mono ?_
  rintro e w' ⟨rfl, k, os, rfl⟩
  exact ⟨rfl, Lib.below_grow _ w (Nat.le_refl _) k os⟩

/-- strconv.Atoi: what it ends with, in one word. -/
def AtoiEnds (l : List UInt8) (e : Ending) : Prop :=
  match Lib.atoiAll l with
  | .ok n => e = .returned (.tuple #[.int .i64 n, .nilIface])
  | _ => ∃ (x : Int) (t : TypeId) (p : Value), e = .returned (.tuple #[.int .i64 x, .iface t p])

theorem lib_atoi (l : List UInt8) (hl : l.length ≤ 4294967280) (w : World) (he : Env w) :
    Calls Tryz.prog 66 #[.string (B l)] w fun e w' => AtoiEnds l e ∧ Below w.heap.size w w' := by
  unfold AtoiEnds
  have hd : Lib.atoiAll (B l).data.toList = Lib.atoiAll l := by rw [B_data]
  cases h : Lib.atoiAll l with
  | ok n =>
    refine (Tryz.strconv_Atoi_ok (B l) (by rw [B_size]; omega) n (hd.trans h) w).mono ?_
    rintro e w' ⟨rfl, hw⟩
    refine ⟨rfl, ?_⟩
    rcases hw with rfl | ⟨t, rfl⟩
    · exact Below.refl _ _
    · exact Lib.bytesWorld_below _ _ _
  | range =>
    obtain ⟨tp, p, hv⟩ := he.erng
    refine (Tryz.strconv_Atoi_range_var (B l) (by rw [B_size]; omega) (hd.trans h) tp p w hv).mono ?_
    rintro e w' ⟨N, rfl, _, _, hb⟩
    exact ⟨⟨_, _, _, rfl⟩, hb⟩
  | _ =>
    obtain ⟨tp, p, hv⟩ := he.esyn
    refine (Tryz.strconv_Atoi_syntax_var (B l) (by rw [B_size]; omega) (hd.trans h) tp p w hv).mono ?_
    rintro e w' ⟨N, rfl, _, _, hb⟩
    exact ⟨⟨_, _, _, rfl⟩, hb⟩

theorem lib_atoi_ok (l : List UInt8) (hl : l.length ≤ 4294967280) (n : Int) (h : Lib.atoiAll l = .ok n) (w : World) (he : Env w) :
    Calls Tryz.prog 66 #[.string (B l)] w fun e w' => e = .returned (.tuple #[.int .i64 n, .nilIface]) ∧ Below w.heap.size w w' :=
  (lib_atoi l hl w he).mono fun e w' ⟨h1, h2⟩ => ⟨by unfold AtoiEnds at h1; rw [h] at h1; exact h1, h2⟩
theorem lib_atoi_bad (l : List UInt8) (hl : l.length ≤ 4294967280) (h : ∀ n, Lib.atoiAll l ≠ .ok n) (w : World) (he : Env w) :
    Calls Tryz.prog 66 #[.string (B l)] w fun e w' => (∃ (x : Int) (t : TypeId) (p : Value), e = .returned (.tuple #[.int .i64 x, .iface t p])) ∧ Below w.heap.size w w' :=
  (lib_atoi l hl w he).mono fun e w' ⟨h1, h2⟩ => ⟨by
    unfold AtoiEnds at h1
    cases hh : Lib.atoiAll l with
    | ok n => exact absurd hh (h n)
    | range => rw [hh] at h1; exact h1
    | _ => rw [hh] at h1; exact h1, h2⟩
end Go.Proofs.YtepmkkeaidacmaaGreatDoor
