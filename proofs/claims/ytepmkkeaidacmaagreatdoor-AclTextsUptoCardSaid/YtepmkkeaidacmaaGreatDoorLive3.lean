/-
  The walk of May on the chapter's example: nobody asks, of a list that lets everybody in.
-/
import Derived.Test.YtepmkkeaidacmaaGreatDoorLive2
namespace Go.Proofs.YtepmkkeaidacmaaGreatDoor
open Go.RowKit

theorem indexIds_nil (f : Value) (w : World) : Calls Tryz.prog 51 #[.slice none 0 0, f] w fun e w' => e = .returned (.int .i64 (-1)) ∧ w = w' := by
  go_enter Tryz.func51, Tryz.ntmps51
  go_wp2
  go_loop [8] (fun i => i = .int .i64 0) (fun _ => 0)
  case atStart => rfl
  case round =>
    subst hrel
    go_wp2
    go_ret
    exact ⟨rfl, rfl⟩
theorem containsIds_nil (f : Value) (w : World) : Calls Tryz.prog 33 #[.slice none 0 0, f] w fun e w' => e = .returned (.bool false) ∧ w = w' := by
  have h := Lib.hid (indexIds_nil f w)
  go_enter Tryz.func33, Tryz.ntmps33
  go_wp2_with (go_at_call 51; refine h.out.mono ?_; rintro e w1 ⟨rfl, rfl⟩)
  go_ret
  exact ⟨rfl, rfl⟩

set_option maxHeartbeats 800000 in
theorem like_world (v : Value) (w : World) : Calls Tryz.prog 37 #[.agg #[.string (B bWorld), .string (B bAnyone)], v] w fun e w' => e = .returned (.bool true) ∧ Below w.heap.size w w' := by
  have hd : ((B bWorld).toList == [119, 111, 114, 108, 100]) = true := by rw [beq_BL]; decide
  go_enter Tryz.func37, Tryz.ntmps37
  go_wp2
  go_ret
  exact ⟨rfl, (Below.refl _ _).alloc (Nat.le_refl _) _⟩

theorem rightP (p : Int) (hp : (Ent.right ⟨p, bWorld, bAnyone⟩) = true) (w : World) (he : Env w) : Calls Tryz.prog 13 #[.agg #[.int .i32 p, .string (B bWorld), .string (B bAnyone)]] w fun e w' => e = .returned (.bool true) ∧ Below w.heap.size w w' := by
  have := right_calls ⟨p, bWorld, bAnyone⟩ (show bWorld.length ≤ 4294967280 by decide) (show bAnyone.length ≤ 4294967280 by decide) w he
  rw [hp] at this
  exact this

set_option maxHeartbeats 1600000 in
theorem may2_yes (pb ib : Nat) (w : World) (he : Env w) (hp : w.cell? ⟨pb, 0, none⟩ = some (.int .i32 2)) (hi : w.cell? ⟨ib, 0, none⟩ = some (.slice none 0 0)) :
    Calls Tryz.prog 36 #[.agg #[.int .i32 31, .string (B bWorld), .string (B bAnyone)], .pointer (some ⟨pb, 0, none⟩), .pointer (some ⟨ib, 0, none⟩)] w fun e w' => e = .returned (.bool true) ∧ Below w.heap.size w w' := by
  have R := Lib.hid fun W hW => rightP 31 (by decide +kernel) W hW
  have L := Lib.hid fun v W => like_world v W
  have hbox : Below w.heap.size w (w.alloc (.cells #[.int .i32 31, .string (B bWorld), .string (B bAnyone)] 44)) := (Below.refl _ _).alloc (Nat.le_refl _) _
  have hpl := World.block_lt_of_cell? _ _ hp
  have hil := World.block_lt_of_cell? _ _ hi
  have hb : bits .and .i32 31 2 = 2 := by decide
  go_enter Tryz.func36, Tryz.ntmps36
  go_wp2_with fail
  refine (R.out _ (he.below hbox)).mono ?_
  rintro e w2 ⟨rfl, hb2⟩
  have c0 : w2.cell? ⟨w.heap.size, 0, none⟩ = some (.int .i32 31) := (hb2.cell (p := ⟨w.heap.size, 0, none⟩) (by simp)).trans (by simp)
  have c1 : w2.cell? ⟨w.heap.size, 1, none⟩ = some (.string (B bWorld)) := (hb2.cell (p := ⟨w.heap.size, 1, none⟩) (by simp)).trans (by simp)
  have c2 : w2.cell? ⟨w.heap.size, 2, none⟩ = some (.string (B bAnyone)) := (hb2.cell (p := ⟨w.heap.size, 2, none⟩) (by simp)).trans (by simp)
  have hb2' : Below w.heap.size w w2 := hbox.trans (hb2.mono (by simp))
  have p2 : w2.cell? ⟨pb, 0, none⟩ = some (.int .i32 2) := (hb2'.cell (p := ⟨pb, 0, none⟩) hpl).trans hp
  have i2 : w2.cell? ⟨ib, 0, none⟩ = some (.slice none 0 0) := (hb2'.cell (p := ⟨ib, 0, none⟩) hil).trans hi
  go_wp2_with fail
  refine (L.out _ _).mono ?_
  rintro e w3 ⟨rfl, hb3⟩
  go_wp2
  go_ret
  exact ⟨rfl, hb2'.trans (hb3.mono hb2'.size)⟩

set_option maxHeartbeats 1600000 in
theorem may2_no (pb : Nat) (v : Value) (w : World) (he : Env w) (hp : w.cell? ⟨pb, 0, none⟩ = some (.int .i32 2)) :
    Calls Tryz.prog 36 #[.agg #[.int .i32 1, .string (B bWorld), .string (B bAnyone)], .pointer (some ⟨pb, 0, none⟩), v] w fun e w' => e = .returned (.bool false) ∧ Below w.heap.size w w' := by
  have R := Lib.hid fun W hW => rightP 1 (by decide +kernel) W hW
  have hbox : Below w.heap.size w (w.alloc (.cells #[.int .i32 1, .string (B bWorld), .string (B bAnyone)] 44)) := (Below.refl _ _).alloc (Nat.le_refl _) _
  have hpl := World.block_lt_of_cell? _ _ hp
  have hb : bits .and .i32 1 2 = 0 := by decide
  go_enter Tryz.func36, Tryz.ntmps36
  go_wp2_with fail
  refine (R.out _ (he.below hbox)).mono ?_
  rintro e w2 ⟨rfl, hb2⟩
  have c0 : w2.cell? ⟨w.heap.size, 0, none⟩ = some (.int .i32 1) := (hb2.cell (p := ⟨w.heap.size, 0, none⟩) (by simp)).trans (by simp)
  have hb2' : Below w.heap.size w w2 := hbox.trans (hb2.mono (by simp))
  have p2 : w2.cell? ⟨pb, 0, none⟩ = some (.int .i32 2) := (hb2'.cell (p := ⟨pb, 0, none⟩) hpl).trans hp
  go_wp2
  go_ret
  exact ⟨rfl, hb2'⟩

set_option maxHeartbeats 1600000 in
theorem index_yes (A : Option Addr) (c pb ib : Nat) (es : List Ent) (w : World) (he : Env w) (hA : Acls w w.heap.size A (eW :: es)) (hes : es.length ≤ 1000) (hp : w.cell? ⟨pb, 0, none⟩ = some (.int .i32 2)) (hi : w.cell? ⟨ib, 0, none⟩ = some (.slice none 0 0)) :
    Calls Tryz.prog 52 #[.slice A (es.length + 1) c, .func (.func 36) #[] #[.pointer (some ⟨pb, 0, none⟩), .pointer (some ⟨ib, 0, none⟩)]] w fun e w' => e = .returned (.int .i64 0) ∧ Below w.heap.size w w' := by
  obtain ⟨ad, rfl, _, p0, p1, p2⟩ := hA.three (k := 0) (by simp)
  simp only [List.getElem_cons_zero, Nat.zero_mul] at p0 p1 p2
  have M := Lib.hid (may2_yes pb ib w he hp hi)
  have q0 : w.cell? ad = some (.int .i32 31) := p0
  have q1 : w.cell? ⟨ad.block, ad.off + 1, none⟩ = some (.string (B bWorld)) := p1
  have q2 : w.cell? ⟨ad.block, ad.off + 2, none⟩ = some (.string (B bAnyone)) := p2
  clear p0 p1 p2 hA hp hi
  go_enter Tryz.func52, Tryz.ntmps52
  go_wp2
  go_loop [8] (fun i => i = .int .i64 0) (fun _ => 0)
  case atStart => rfl
  case round =>
    subst hrel
    go_wp2_with fail
    refine M.out.mono ?_
    rintro e w2 ⟨rfl, hb2⟩
    go_wp2
    go_ret
    exact ⟨rfl, hb2⟩

set_option maxHeartbeats 1600000 in
theorem index_no1 (lb pb : Nat) (v : Value) (w : World) (he : Env w) (hl : Blk w lb 44 #[.int .i32 1, .string (B bWorld), .string (B bAnyone)]) (hp : w.cell? ⟨pb, 0, none⟩ = some (.int .i32 2)) :
    Calls Tryz.prog 52 #[.slice (some ⟨lb, 0, none⟩) 1 1, .func (.func 36) #[] #[.pointer (some ⟨pb, 0, none⟩), v]] w fun e w' => e = .returned (.int .i64 (-1)) ∧ Below w.heap.size w w' := by
  have M := Lib.hid (may2_no pb v w he hp)
  have q0 : w.cell? ⟨lb, 0, none⟩ = some (.int .i32 1) := hl.cell 0
  have q1 : w.cell? ⟨lb, 1, none⟩ = some (.string (B bWorld)) := hl.cell 1
  have q2 : w.cell? ⟨lb, 2, none⟩ = some (.string (B bAnyone)) := hl.cell 2
  clear hl hp
  go_enter Tryz.func52, Tryz.ntmps52
  go_wp2
  go_loopw [8] (fun i wr => (i = .int .i64 0 ∧ wr = w) ∨ (i = .int .i64 1 ∧ Below w.heap.size w wr)) (fun i _ => 1 - (intOf i).toNat)
  case atStart => exact .inl ⟨rfl, rfl⟩
  case round =>
    rcases hrel with ⟨rfl, rfl⟩ | ⟨rfl, hb⟩
    · go_wp2_with fail
      refine M.out.mono ?_
      rintro e w2 ⟨rfl, hb2⟩
      go_wp2
      go_roundw
      case rel => exact .inr ⟨rfl, hb2⟩
      case measure => simp [intOf]
    · go_wp2
      go_ret
      exact ⟨rfl, hb⟩

theorem contains_yes (A : Option Addr) (c pb ib : Nat) (es : List Ent) (w : World) (he : Env w) (hA : Acls w w.heap.size A (eW :: es)) (hes : es.length ≤ 1000) (hp : w.cell? ⟨pb, 0, none⟩ = some (.int .i32 2)) (hi : w.cell? ⟨ib, 0, none⟩ = some (.slice none 0 0)) :
    Calls Tryz.prog 35 #[.slice A (es.length + 1) c, .func (.func 36) #[] #[.pointer (some ⟨pb, 0, none⟩), .pointer (some ⟨ib, 0, none⟩)]] w fun e w' => e = .returned (.bool true) ∧ Below w.heap.size w w' := by
  have h := Lib.hid (index_yes A c pb ib es w he hA hes hp hi)
  clear hA hp hi
  go_enter Tryz.func35, Tryz.ntmps35
  go_wp2_with (go_at_call 52; refine h.out.mono ?_; rintro e w1 ⟨rfl, hb⟩)
  go_ret
  exact ⟨rfl, hb⟩
theorem contains_no1 (lb pb : Nat) (v : Value) (w : World) (he : Env w) (hl : Blk w lb 44 #[.int .i32 1, .string (B bWorld), .string (B bAnyone)]) (hp : w.cell? ⟨pb, 0, none⟩ = some (.int .i32 2)) :
    Calls Tryz.prog 35 #[.slice (some ⟨lb, 0, none⟩) 1 1, .func (.func 36) #[] #[.pointer (some ⟨pb, 0, none⟩), v]] w fun e w' => e = .returned (.bool false) ∧ Below w.heap.size w w' := by
  have h := Lib.hid (index_no1 lb pb v w he hl hp)
  clear hl hp
  go_enter Tryz.func35, Tryz.ntmps35
  go_wp2_with (go_at_call 52; refine h.out.mono ?_; rintro e w1 ⟨rfl, hb⟩)
  go_ret
  exact ⟨rfl, hb⟩

set_option maxHeartbeats 1600000 in
theorem may_yes (A : Option Addr) (c : Nat) (w : World) (he : Env w) (hA : Acls w w.heap.size A [eW, eD]) :
    Calls Tryz.prog 19 #[.slice A 2 c, .int .i32 2, .slice none 0 0] w fun e w' => e = .returned (.bool true) ∧ Below w.heap.size w w' := by
  have C0 := Lib.hid fun f W => containsIds_nil f W
  have hb2 : Below w.heap.size w ((w.alloc (.cells #[.int .i32 2] 21)).alloc (.cells #[.slice none 0 0] 50)) := ((Below.refl _ _).alloc (Nat.le_refl _) _).alloc (by simp) _
  have C1 := Lib.hid (contains_yes A c w.heap.size (w.heap.size + 1) [eD] ((w.alloc (.cells #[.int .i32 2] 21)).alloc (.cells #[.slice none 0 0] 50)) (he.below hb2) ((hA.below hb2).more hb2.size) (by decide)
    ((((show Blk (w.alloc (.cells #[.int .i32 2] 21)) w.heap.size 21 #[.int .i32 2] from heap_alloc_new w _)).below ((Below.refl _ _).alloc (Nat.le_refl _) _) (by simp)).cell 0) ((blk2 w _ _ _).cell 0))
  clear hA
  go_enter Tryz.func19, Tryz.ntmps19
  go_wp2_with (go_at_call 33; refine (C0.out _ _).mono ?_; rintro e w1 ⟨rfl, rfl⟩)
  go_wp2_with fail
  refine C1.out.mono ?_
  rintro e w3 ⟨rfl, hb3⟩
  go_wp2
  go_ret
  exact ⟨rfl, hb2.trans (hb3.mono hb2.size)⟩

set_option maxHeartbeats 1600000 in
theorem may_no (lb : Nat) (w : World) (he : Env w) (hl : Blk w lb 44 #[.int .i32 1, .string (B bWorld), .string (B bAnyone)]) :
    Calls Tryz.prog 19 #[.slice (some ⟨lb, 0, none⟩) 1 1, .int .i32 2, .slice none 0 0] w fun e w' => e = .returned (.bool false) ∧ Below w.heap.size w w' := by
  have C0 := Lib.hid fun f W => containsIds_nil f W
  have hb2 : Below w.heap.size w ((w.alloc (.cells #[.int .i32 2] 21)).alloc (.cells #[.slice none 0 0] 50)) := ((Below.refl _ _).alloc (Nat.le_refl _) _).alloc (by simp) _
  have C1 := Lib.hid (contains_no1 lb w.heap.size (.pointer (some ⟨w.heap.size + 1, 0, none⟩)) ((w.alloc (.cells #[.int .i32 2] 21)).alloc (.cells #[.slice none 0 0] 50)) (he.below hb2) (hl.below hb2 hl.lt)
    ((((show Blk (w.alloc (.cells #[.int .i32 2] 21)) w.heap.size 21 #[.int .i32 2] from heap_alloc_new w _)).below ((Below.refl _ _).alloc (Nat.le_refl _) _) (by simp)).cell 0))
  clear hl
  go_enter Tryz.func19, Tryz.ntmps19
  go_wp2_with (go_at_call 33; refine (C0.out _ _).mono ?_; rintro e w1 ⟨rfl, rfl⟩)
  go_wp2_with fail
  refine C1.out.mono ?_
  rintro e w3 ⟨rfl, hb3⟩
  go_wp2
  go_ret
  exact ⟨rfl, hb2.trans (hb3.mono hb2.size)⟩
end Go.Proofs.YtepmkkeaidacmaaGreatDoor
