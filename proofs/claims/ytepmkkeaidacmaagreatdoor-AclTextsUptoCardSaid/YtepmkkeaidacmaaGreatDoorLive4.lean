/-
  The walk of live: the chapter's examples.
-/
import Derived.Test.YtepmkkeaidacmaaGreatDoorLive3
import Derived.Deep.Cut
namespace Go.Proofs.YtepmkkeaidacmaaGreatDoor
open Go.RowKit

theorem world31 (w : World) : Calls Tryz.prog 18 #[.int .i32 31] w fun e w' => e = .returned (.agg #[.int .i32 31, .string (B bWorld), .string (B bAnyone)]) ∧ Below w.heap.size w w' := world_calls 31 w

theorem below_drew1 (w : World) : Below w.heap.size w w.drew := (Below.refl _ _).drew
/-- What stays while the lists are laid: the identity in the call's first block. -/
structure Keep (w w1 : World) : Prop where
  below : Below w.heap.size w w1
  blk : Blk w1 w.heap.size 42 #[.string (B bDigest), .string (B bUp)]
theorem Keep.next {w w1 w2 : World} (h : Keep w w1) (hb : Below w1.heap.size w1 w2) : Keep w w2 := ⟨h.below.trans (hb.mono h.below.size), h.blk.below hb h.blk.lt⟩
theorem keep_first (w : World) : Keep w (w.alloc (.cells #[.string ⟨#[100, 105, 103, 101, 115, 116]⟩, .string ⟨#[117, 58, 112]⟩] 42)) := ⟨(Below.refl _ _).alloc (Nat.le_refl _) _, heap_alloc_new w _⟩
theorem world31_keep {w w1 : World} (h : Keep w w1) : Calls Tryz.prog 18 #[.int .i32 31] w1 fun e w' => e = .returned (.agg #[.int .i32 31, .string (B bWorld), .string (B bAnyone)]) ∧ Keep w w' :=
  (world31 w1).mono fun _ _ ⟨h1, h2⟩ => ⟨h1, h.next h2⟩

theorem fix_live {w w1 : World} (he : Env w) (h : Keep w w1) :
    Calls Tryz.prog 17 #[.slice (some ⟨w1.heap.size, 0, none⟩) 3 3, .slice (some ⟨w1.heap.size + 1, 0, none⟩) 1 1]
      ((w1.alloc (.cells #[.int .i32 31, .string (B bWorld), .string (B bAnyone), .int .i32 1, .string ⟨#[97, 117, 116, 104]⟩, .string ⟨#[]⟩, .int .i32 31, .string (B bWorld), .string (B bAnyone)] 44)).alloc (.cells #[.string ⟨#[100, 105, 103, 101, 115, 116]⟩, .string ⟨#[117, 58, 112]⟩] 42))
      fun e w' => (∃ A c, e = .returned (.tuple #[.slice A 2 c, .int .i64 0]) ∧ Acls w' w'.heap.size A [eW, eD]) ∧ Below w.heap.size w w' := by
  have hb : Below w.heap.size w ((w1.alloc (.cells #[.int .i32 31, .string (B bWorld), .string (B bAnyone), .int .i32 1, .string ⟨#[97, 117, 116, 104]⟩, .string ⟨#[]⟩, .int .i32 31, .string (B bWorld), .string (B bAnyone)] 44)).alloc (.cells #[.string ⟨#[100, 105, 103, 101, 115, 116]⟩, .string ⟨#[117, 58, 112]⟩] 42)) :=
    (h.below.alloc h.below.size _).alloc (by have := h.below.size; simp; omega) _
  refine (fix_calls w1.heap.size (w1.heap.size + 1) _ (he.below hb) ⟨Blk.below (heap_alloc_new w1 _) ((Below.refl _ _).alloc (Nat.le_refl _) _) (by simp), blk2 w1 _ _ _⟩).mono ?_
  rintro e w' ⟨h1, h2⟩
  exact ⟨h1, hb.trans (h2.mono hb.size)⟩

theorem fix_live2 {w w1 : World} (he : Env w) (h : Keep w w1) :
    Calls Tryz.prog 17 #[.slice (some ⟨w1.heap.size + 1, 0, none⟩) 3 3, .slice (some ⟨w1.heap.size, 0, none⟩) 1 1]
      ((w1.alloc (.cells #[.string ⟨#[100, 105, 103, 101, 115, 116]⟩, .string ⟨#[117, 58, 112]⟩] 42)).alloc (.cells #[.int .i32 31, .string (B bWorld), .string (B bAnyone), .int .i32 1, .string ⟨#[97, 117, 116, 104]⟩, .string ⟨#[]⟩, .int .i32 31, .string (B bWorld), .string (B bAnyone)] 44))
      fun e w' => (∃ A c, e = .returned (.tuple #[.slice A 2 c, .int .i64 0]) ∧ Acls w' w'.heap.size A [eW, eD]) ∧ Below w.heap.size w w' := by
  have hb : Below w.heap.size w ((w1.alloc (.cells #[.string ⟨#[100, 105, 103, 101, 115, 116]⟩, .string ⟨#[117, 58, 112]⟩] 42)).alloc (.cells #[.int .i32 31, .string (B bWorld), .string (B bAnyone), .int .i32 1, .string ⟨#[97, 117, 116, 104]⟩, .string ⟨#[]⟩, .int .i32 31, .string (B bWorld), .string (B bAnyone)] 44)) :=
    (h.below.alloc h.below.size _).alloc (by have := h.below.size; simp; omega) _
  refine (fix_calls (w1.heap.size + 1) w1.heap.size _ (he.below hb) ⟨blk2 w1 _ _ _, Blk.below (heap_alloc_new w1 _) ((Below.refl _ _).alloc (Nat.le_refl _) _) (by simp)⟩).mono ?_
  rintro e w' ⟨h1, h2⟩
  exact ⟨h1, hb.trans (h2.mono hb.size)⟩

theorem Keep.alloc {w w1 : World} (h : Keep w w1) (o : Obj) : Keep w (w1.alloc o) := h.next ((Below.refl _ _).alloc (Nat.le_refl _) _)
theorem Keep.drew {w w1 : World} (h : Keep w w1) : Keep w w1.drew := h.next (below_drew1 _)
/-- The second list laid, at block g. -/
def Two (w1 : World) (g : Nat) : Prop := Blk w1 g 42 #[.string (B bDigest), .string (B bUp)]
theorem w31_two {w w1 : World} {g : Nat} (h : Keep w w1) (hg : Two w1 g) : Calls Tryz.prog 18 #[.int .i32 31] w1 fun e w' => e = .returned (.agg #[.int .i32 31, .string (B bWorld), .string (B bAnyone)]) ∧ Keep w w' ∧ Two w' g :=
  (world31 w1).mono fun _ _ ⟨h1, h2⟩ => ⟨h1, h.next h2, Blk.below hg h2 (Blk.lt hg)⟩
theorem w31_lay {w w1 : World} (h : Keep w w1) : Calls Tryz.prog 18 #[.int .i32 31] (w1.alloc (.cells #[.string ⟨#[100, 105, 103, 101, 115, 116]⟩, .string ⟨#[117, 58, 112]⟩] 42)) fun e w' => e = .returned (.agg #[.int .i32 31, .string (B bWorld), .string (B bAnyone)]) ∧ Keep w w' ∧ Two w' w1.heap.size :=
  w31_two (h.alloc _) (heap_alloc_new w1 _)
theorem w31_first (w : World) : Calls Tryz.prog 18 #[.int .i32 31] (w.alloc (.cells #[.string ⟨#[100, 105, 103, 101, 115, 116]⟩, .string ⟨#[117, 58, 112]⟩] 42)).drew fun e w' => e = .returned (.agg #[.int .i32 31, .string (B bWorld), .string (B bAnyone)]) ∧ Keep w w' :=
  world31_keep (keep_first w).drew
theorem w31_first2 (w : World) : Calls Tryz.prog 18 #[.int .i32 31] ((w.alloc (.cells #[.string ⟨#[100, 105, 103, 101, 115, 116]⟩, .string ⟨#[117, 58, 112]⟩] 42)).alloc (.cells #[.string ⟨#[100, 105, 103, 101, 115, 116]⟩, .string ⟨#[117, 58, 112]⟩] 42)).drew fun e w' => e = .returned (.agg #[.int .i32 31, .string (B bWorld), .string (B bAnyone)]) ∧ Keep w w' ∧ Two w' (w.heap.size + 1) :=
  w31_two ((keep_first w).alloc _).drew (show Blk _ _ _ _ from (blk2 w _ _ _).drew)
theorem fix_live3 {w w1 : World} {g : Nat} (he : Env w) (h : Keep w w1) (hg : Two w1 g) :
    Calls Tryz.prog 17 #[.slice (some ⟨w1.heap.size, 0, none⟩) 3 3, .slice (some ⟨g, 0, none⟩) 1 1] (w1.alloc (.cells #[.int .i32 31, .string (B bWorld), .string (B bAnyone), .int .i32 1, .string ⟨#[97, 117, 116, 104]⟩, .string ⟨#[]⟩, .int .i32 31, .string (B bWorld), .string (B bAnyone)] 44))
      fun e w' => (∃ A c, e = .returned (.tuple #[.slice A 2 c, .int .i64 0]) ∧ Acls w' w'.heap.size A [eW, eD]) ∧ Below w.heap.size w w' := by
  have hb : Below w.heap.size w (w1.alloc (.cells #[.int .i32 31, .string (B bWorld), .string (B bAnyone), .int .i32 1, .string ⟨#[97, 117, 116, 104]⟩, .string ⟨#[]⟩, .int .i32 31, .string (B bWorld), .string (B bAnyone)] 44)) := h.below.alloc h.below.size _
  refine (fix_calls w1.heap.size g _ (he.below hb) ⟨heap_alloc_new w1 _, Blk.below hg ((Below.refl _ _).alloc (Nat.le_refl _) _) (Blk.lt hg)⟩).mono ?_
  rintro e w' ⟨h1, h2⟩
  exact ⟨h1, hb.trans (h2.mono hb.size)⟩

theorem live_text (A : Option Addr) (c : Nat) (wF : World) (he : Env wF) (hA : Acls wF wF.heap.size A [eW, eD]) :
    Calls Tryz.prog 4 #[.slice A 2 c] wF fun e w' => e = .returned (.tuple #[.string ⟨#[119, 111, 114, 108, 100, 58, 97, 110, 121, 111, 110, 101, 58, 99, 100, 114, 119, 97, 44, 100, 105, 103, 101, 115, 116, 58, 117, 58, 112, 58, 114]⟩, .int .i64 0]) ∧ Below wF.heap.size wF w' := by
  refine (text_list_calls [eW, eD] A c (by decide) (by decide +kernel) wF he hA).mono ?_
  rintro e w' ⟨h1, h2⟩
  unfold TextEnds at h1
  rw [if_pos (by decide +kernel)] at h1
  refine ⟨?_, h2⟩
  rw [h1, show B (textOf [eW, eD]) = (⟨#[119, 111, 114, 108, 100, 58, 97, 110, 121, 111, 110, 101, 58, 99, 100, 114, 119, 97, 44, 100, 105, 103, 101, 115, 116, 58, 117, 58, 112, 58, 114]⟩ : ByteArray) from by decide +kernel]

set_option maxHeartbeats 6400000 in
set_option maxRecDepth 100000 in
theorem live_calls (w : World) (he : Env w) :
    Calls Tryz.prog 8 #[] w fun e w' => e = .returned (.bool true) ∧ Below w.heap.size w w' := by
  go_enter Tryz.func8, Tryz.ntmps8
  go_upto_region 2 with fail
  go_cut [2, 3] from 6 (fun l e wx => (∃ A c, l = .slice A 2 c ∧ Acls wx wx.heap.size A [eW, eD]) ∧ e = .int .i64 0 ∧ Below w.heap.size w wx)
  case first =>
    go_region_with (first
      | (go_at_call 18; first
          | ((with_reducible refine (w31_first w).mono ?_); rintro e w1 ⟨rfl, hk1⟩; have i0 : w1.cell? ⟨w.heap.size, 0, none⟩ = some (.string ⟨#[100, 105, 103, 101, 115, 116]⟩) := hk1.blk.cell 0; have i1 : w1.cell? ⟨w.heap.size, 1, none⟩ = some (.string ⟨#[117, 58, 112]⟩) := hk1.blk.cell 1; have hs1 := hk1.blk.lt)
          | ((with_reducible refine (w31_first2 w).mono ?_); rintro e w1 ⟨rfl, hk1, ht1⟩; have i0 : w1.cell? ⟨w.heap.size, 0, none⟩ = some (.string ⟨#[100, 105, 103, 101, 115, 116]⟩) := hk1.blk.cell 0; have i1 : w1.cell? ⟨w.heap.size, 1, none⟩ = some (.string ⟨#[117, 58, 112]⟩) := hk1.blk.cell 1; have hs1 := hk1.blk.lt)
          | ((with_reducible refine (w31_two (w := w) (by assumption) (by assumption)).mono ?_); rintro e w1 ⟨rfl, hk1, ht1⟩; have i0 : w1.cell? ⟨w.heap.size, 0, none⟩ = some (.string ⟨#[100, 105, 103, 101, 115, 116]⟩) := hk1.blk.cell 0; have i1 : w1.cell? ⟨w.heap.size, 1, none⟩ = some (.string ⟨#[117, 58, 112]⟩) := hk1.blk.cell 1; have hs1 := hk1.blk.lt)
          | ((with_reducible refine (world31_keep (w := w) (by assumption)).mono ?_); rintro e w1 ⟨rfl, hk1⟩; have i0 : w1.cell? ⟨w.heap.size, 0, none⟩ = some (.string ⟨#[100, 105, 103, 101, 115, 116]⟩) := hk1.blk.cell 0; have i1 : w1.cell? ⟨w.heap.size, 1, none⟩ = some (.string ⟨#[117, 58, 112]⟩) := hk1.blk.cell 1; have hs1 := hk1.blk.lt)
          | ((with_reducible refine (w31_lay (w := w) (by assumption)).mono ?_); rintro e w1 ⟨rfl, hk1, ht1⟩; have i0 : w1.cell? ⟨w.heap.size, 0, none⟩ = some (.string ⟨#[100, 105, 103, 101, 115, 116]⟩) := hk1.blk.cell 0; have i1 : w1.cell? ⟨w.heap.size, 1, none⟩ = some (.string ⟨#[117, 58, 112]⟩) := hk1.blk.cell 1; have hs1 := hk1.blk.lt))
      | (go_at_call 17; first
          | ((with_reducible refine (fix_live3 (w := w) he (by assumption) (by assumption)).mono ?_); rintro e wF ⟨⟨A, c, rfl, hA⟩, hbF⟩)
          | ((with_reducible refine (fix_live (w := w) he (by assumption)).mono ?_); rintro e wF ⟨⟨A, c, rfl, hA⟩, hbF⟩)
          | ((with_reducible refine (fix_live2 (w := w) he (by assumption)).mono ?_); rintro e wF ⟨⟨A, c, rfl, hA⟩, hbF⟩)))
    all_goals (go_wp2_with fail; go_meet; exact ⟨⟨_, _, rfl, hA⟩, rfl, hbF⟩)
  case rest =>
    obtain ⟨⟨A, c, rfl, hA⟩, rfl, hbF⟩ := hcut
    have T := Lib.hid (live_text A c wc (he.below hbF) hA)
    have HA := Lib.hid hA
    have HB := Lib.hid hbF
    clear hA hbF
    go_wp2_with (go_at_call 4; refine T.out.mono ?_; rintro e w2 ⟨rfl, hb2⟩)
    have N := Lib.hid fun n W => no_calls n W
    have B2 := Lib.hid (HB.out.trans (hb2.mono HB.out.size))
    have M := Lib.hid (may_yes A c w2 (he.below B2.out) ((HA.out.below hb2).more hb2.size))
    clear hb2
    refine (N.out _ _).mono ?_; rintro e _ ⟨rfl, rfl⟩
    go_wp2_with fail
    refine (N.out _ _).mono ?_; rintro e _ ⟨rfl, rfl⟩
    go_wp2_with fail
    refine M.out.mono ?_; rintro e w3 ⟨rfl, hb3⟩
    have B3 := Lib.hid (B2.out.trans (hb3.mono B2.out.size))
    clear hb3 M B2
    go_wp2_with fail
    refine (world_calls 1 _).mono ?_; rintro e w4 ⟨rfl, hb4⟩
    have B4 := Lib.hid (B3.out.trans (hb4.mono B3.out.size))
    clear hb4 B3
    go_wp2_with fail
    have B5 := Lib.hid (B4.out.alloc B4.out.size (.cells #[.int .i32 1, .string (B bWorld), .string (B bAnyone)] 44))
    refine (may_no w4.heap.size _ (he.below B5.out) (heap_alloc_new w4 _)).mono ?_; rintro e w5 ⟨rfl, hb5⟩
    have B6 := Lib.hid (B5.out.trans (hb5.mono B5.out.size))
    clear hb5
    go_wp2_with fail
    refine bodyPost_ret (v := .bool true) (by simp [results, Tryz.results8, go_sem]) rfl ⟨rfl, B6.out⟩
end Go.Proofs.YtepmkkeaidacmaaGreatDoor
