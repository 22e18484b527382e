/-
  The walk of the reference's piece: an entry of a piece of a text.
-/
import Derived.Test.YtepmkkeaidacmaaGreatDoorRef3
import Derived.Test.YtepmkkeaidacmaaGreatDoorWalk7
namespace Go.Proofs.YtepmkkeaidacmaaGreatDoor
open Go.RowKit

/-- The last place of a byte, as the reference's loop finds it. -/
theorem last_at {l : List UInt8} {t : Nat} (ht : t < l.length) (hc : l.getD t 0 = 58) (hn : ∀ j, t + 1 ≤ j → j < l.length → l.getD j 0 ≠ 58) : Lib.lastIndex l [58] = t := by
  have e : l = l.take t ++ 58 :: l.drop (t + 1) := by
    have h1 : l[t] = 58 := by rw [getD_at l t ht]; exact hc
    conv => lhs; rw [← List.take_append_drop t l, List.drop_eq_getElem_cons ht, h1]
  have hf : (58 : UInt8) ∉ l.drop (t + 1) := fun hm => by
    obtain ⟨j, hj, he⟩ := List.mem_iff_getElem.1 hm
    rw [List.length_drop] at hj
    have := hn (t + 1 + j) (by omega) (by omega)
    rw [← getD_at l _ (by omega)] at this
    apply this
    rw [← he, List.getElem_drop]
  have h := lastIndex_at (l.take t) (l.drop (t + 1)) 58 hf
  rw [← e, List.length_take] at h
  rw [h]
  omega
theorem no_colon {l : List UInt8} (hn : ∀ j, j < l.length → l.getD j 0 ≠ 58) : entOf l = none := by
  have hm : (58 : UInt8) ∉ l := fun hm => by
    obtain ⟨j, hj, he⟩ := List.mem_iff_getElem.1 hm
    exact hn j hj (by rw [← getD_at l j hj]; exact he)
  have h1 := index_no l 58 hm
  rcases first_last l 58 with ⟨_, h2⟩ | ⟨f, t, h2, _⟩
  · unfold entOf
    rw [h1, h2, if_pos rfl]
  · rw [h1] at h2
    omega

def LastRel (l : List UInt8) (w wr : World) (i : Value) : Prop :=
  ∃ (m : Nat) (z : Int), i = .int .i64 z ∧ z = (m : Int) - 1 ∧ m ≤ l.length ∧ (∀ j, m ≤ j → j < l.length → l.getD j 0 ≠ 58) ∧ w = wr

/-- The loop over the permissions' letters. -/
structure PieceLoop (rest sc id : List UInt8) (t g : Nat) (w wr : World) (i : Value) : Prop where
  st : ∃ p pos : Nat, p ≤ 31 ∧ pos ≤ rest.length ∧ i = .int .i64 ((t + 1 + pos : Nat) : Int) ∧ permLoop 0 rest = permLoop p (rest.drop pos) ∧ Blk wr g 44 #[.int .i32 (p : Int), .string (B sc), .string (B id)]
  below : Below w.heap.size w wr
  res : Blk wr w.heap.size 44 #[.int .i32 0, .string ⟨#[]⟩, .string ⟨#[]⟩]

theorem piece_rel {rest sc id : List UInt8} {t g : Nat} {w wi : World} {p pos : Nat} (hb : Below w.heap.size w wi) (hg : w.heap.size < g)
    (hent : Blk wi g 44 #[.int .i32 (p : Int), .string (B sc), .string (B id)]) (hres : Blk wi w.heap.size 44 #[.int .i32 0, .string ⟨#[]⟩, .string ⟨#[]⟩])
    (x : Nat) (hx : p ||| x ≤ 31) (hp : pos + 1 ≤ rest.length) (hperm : permLoop 0 rest = permLoop (p ||| x) (rest.drop (pos + 1))) {z : Int} (hz : z = ((t + 1 + (pos + 1) : Nat) : Int)) :
    PieceLoop rest sc id t g w (wi.setCell ⟨g, 0, none⟩ (.int .i32 ((p ||| x : Nat) : Int))) (.int .i64 z) := by
  subst hz
  exact ⟨⟨p ||| x, pos + 1, hx, hp, rfl, hperm, hent.put 0 _⟩, hb.setCell (p := ⟨g, 0, none⟩) (Nat.le_of_lt hg) _, hres.far (by show w.heap.size ≠ g; omega) _⟩

set_option maxHeartbeats 3200000 in
set_option maxRecDepth 100000 in
theorem piece_calls (l : List UInt8) (hl : l.length ≤ 4294967280) (w : World) :
    Calls Tryz.prog 23 #[.string (B l)] w fun e w' => EntEnds l e ∧ Below w.heap.size w w' := by
  have hsz : (B l).size = l.length := B_size l
  have C := Lib.hid fun W => cut_calls l hl 0 (by omega) 58 58 rfl W
  go_enter Tryz.func23, Tryz.ntmps23
  go_wp2_with fail
  refine (C.out _).mono ?_
  rintro e _ ⟨⟨k, rfl, hcut⟩, q1, rfl⟩
  have hk := hcut.hi
  have HI := Lib.hid hcut.index
  have HC := Lib.hid hcut
  clear hcut
  have hb1 : Below w.heap.size w ((w.alloc (.cells #[.int .i32 0, .string ⟨#[]⟩, .string ⟨#[]⟩] 44)).drewN q1) := below_drewN ((Below.refl _ _).alloc (Nat.le_refl _) _) q1
  have hr1 : Blk ((w.alloc (.cells #[.int .i32 0, .string ⟨#[]⟩, .string ⟨#[]⟩] 44)).drewN q1) w.heap.size 44 #[.int .i32 0, .string ⟨#[]⟩, .string ⟨#[]⟩] := by
    have h1 : Blk (w.alloc (.cells #[.int .i32 0, .string ⟨#[]⟩, .string ⟨#[]⟩] 44)) w.heap.size 44 #[.int .i32 0, .string ⟨#[]⟩, .string ⟨#[]⟩] := heap_alloc_new w _
    exact h1.drewN q1
  have hz1 : ((w.alloc (.cells #[.int .i32 0, .string ⟨#[]⟩, .string ⟨#[]⟩] 44)).drewN q1).heap.size = w.heap.size + 1 := by simp
  generalize (w.alloc (.cells #[.int .i32 0, .string ⟨#[]⟩, .string ⟨#[]⟩] 44)).drewN q1 = w1 at *
  have r0 : w1.cell? ⟨w.heap.size, 0, none⟩ = some (.int .i32 0) := hr1.cell 0
  have r1 : w1.cell? ⟨w.heap.size, 1, none⟩ = some (.string ⟨#[]⟩) := hr1.cell 1
  have r2 : w1.cell? ⟨w.heap.size, 2, none⟩ = some (.string ⟨#[]⟩) := hr1.cell 2
  have g0 := hr1.free 0
  have g1 := hr1.free 1
  have g2 := hr1.free 2
  have HR1 := Lib.hid hr1
  have HZ1 := Lib.hid hz1
  clear hr1 hz1
  go_wp2_with fail
  go_loopw [5] (fun i wr => LastRel l w1 wr i) (fun i _ => (intOf i + 1).toNat)
  case atStart => exact ⟨l.length, _, rfl, by omega, by omega, fun j h1 h2 => by omega, rfl⟩
  case round =>
    obtain ⟨m, z, rfl, hz, hm, hno, rfl⟩ := hrel
    have HNo := Lib.hid hno
    clear hno
    rcases Nat.eq_zero_or_pos m with rfl | hm0
    · obtain rfl : z = -1 := by omega
      have HN := Lib.hid (no_colon fun j hj => HNo.out j (by omega) hj)
      clear hz
      go_wp2_with fail
      refine bodyPost_ret (v := .tuple #[.agg #[.int .i32 0, .string ⟨#[]⟩, .string ⟨#[]⟩], .bool false]) (by simp [results, Tryz.results23, go_sem, r0, r1, r2]) rfl ⟨ent_none HN.out _ _ _, ?_⟩
      exact ((hb1.setCell (p := ⟨w.heap.size, 0, none⟩) (Nat.le_refl _) _).setCell (p := ⟨w.heap.size, 1, none⟩) (Nat.le_refl _) _).setCell (p := ⟨w.heap.size, 2, none⟩) (Nat.le_refl _) _
    · obtain ⟨t, rfl⟩ : ∃ t, m = t + 1 := ⟨m - 1, by omega⟩
      obtain rfl : z = (t : Int) := by omega
      clear hz hm0
      have hpt : t < (B l).size := by rw [hsz]; omega
      obtain ⟨c, hc⟩ : ∃ c, (B l)[t] = c := ⟨_, rfl⟩
      have HCt := Lib.hid (show l.getD t 0 = c from by rw [← hc, B_at])
      by_cases h58 : c = 58
      · have h3 := eq_byte h58 (n := 58) rfl
        have HLast := Lib.hid (last_at (by omega) (by rw [HCt.out]; exact h58) HNo.out)
        have hkt : k ≤ t := by
          rcases Nat.lt_or_ge t k with h | h
          · exact absurd (by rw [HCt.out]; exact h58) (HC.out.no t (by omega) h)
          · exact h
        have HIx := Lib.hid (show Lib.index l [58] = (k : Int) from by rw [HI.out, if_neg (by omega)])
        clear h58
        by_cases hle : t ≤ k
        · have HN := Lib.hid (show entOf l = none from by unfold entOf; rw [HIx.out, HLast.out, if_pos (by omega)])
          go_wp2_with fail
          refine bodyPost_ret (v := .tuple #[.agg #[.int .i32 0, .string ⟨#[]⟩, .string ⟨#[]⟩], .bool false]) (by simp [results, Tryz.results23, go_sem, r0, r1, r2]) rfl ⟨ent_none HN.out _ _ _, ?_⟩
          exact ((hb1.setCell (p := ⟨w.heap.size, 0, none⟩) (Nat.le_refl _) _).setCell (p := ⟨w.heap.size, 1, none⟩) (Nat.le_refl _) _).setCell (p := ⟨w.heap.size, 2, none⟩) (Nat.le_refl _) _
        · obtain ⟨sc, hsc⟩ : ∃ sc, (l.drop 0).take (k - 0) = sc := ⟨_, rfl⟩
          obtain ⟨id, hid⟩ : ∃ id, (l.drop (k + 1)).take (t - (k + 1)) = id := ⟨_, rfl⟩
          obtain ⟨rest, hrest⟩ : ∃ rest, (l.drop (t + 1)).take (l.length - (t + 1)) = rest := ⟨_, rfl⟩
          have HE := Lib.hid (entOf_parts l k t HIx.out HLast.out (by omega) sc id rest hsc hid hrest)
          have x1 : (B l).extract 0 k = B sc := by rw [B_extract, hsc]
          have x2 : (B l).extract (k + 1) t = B id := by rw [B_extract, hid]
          have hrl : rest.length = l.length - (t + 1) := by have := congrArg List.length hrest; rw [List.length_take, List.length_drop] at this; omega
          have HG := Lib.hid (show ∀ j, j < rest.length → rest.getD j 0 = l.getD (t + 1 + j) 0 from fun j hj => by
            rw [← hrest, List.take_of_length_le (by rw [List.length_drop]; omega), getD_drop])
          have HLen := Lib.hid (show sc.length ≤ 4294967280 ∧ id.length ≤ 4294967280 from by
            rw [← hsc, ← hid]
            constructor
            · exact Nat.le_trans (List.length_take_le' _ _) (by simp; omega)
            · exact Nat.le_trans (List.length_take_le' _ _) (by simp; omega))
          clear hsc hid hrest
          go_wp2_with fail
          go_region
          go_wp2_with fail
          have hbe : Below w.heap.size w ((w1.alloc (.cells #[.int .i32 0, .string (B sc), .string (B id)] 44)).drew) := (hb1.alloc hb1.size _).drew
          have hent : Blk ((w1.alloc (.cells #[.int .i32 0, .string (B sc), .string (B id)] 44)).drew) w1.heap.size 44 #[.int .i32 ((0 : Nat) : Int), .string (B sc), .string (B id)] := by
            have h1 : Blk (w1.alloc (.cells #[.int .i32 0, .string (B sc), .string (B id)] 44)) w1.heap.size 44 #[.int .i32 0, .string (B sc), .string (B id)] := heap_alloc_new w1 _
            exact h1.drew
          have hres : Blk ((w1.alloc (.cells #[.int .i32 0, .string (B sc), .string (B id)] 44)).drew) w.heap.size 44 #[.int .i32 0, .string ⟨#[]⟩, .string ⟨#[]⟩] :=
            (HR1.out.below ((Below.refl w1.heap.size _).alloc (Nat.le_refl _) _) (by have := HZ1.out; omega)).drew
          have HBe := Lib.hid hbe
          have HEn := Lib.hid hent
          have HRs := Lib.hid hres
          clear hbe hent hres r0 r1 r2 g0 g1 g2
          go_loopw [7] (fun i wr => PieceLoop rest sc id t w1.heap.size w wr i) (fun i _ => l.length - (intOf i).toNat)
          case atStart => exact ⟨⟨0, 0, by omega, by omega, by go_num, rfl, HEn.out⟩, HBe.out, HRs.out⟩
          case round =>
            obtain ⟨⟨p, pos, hp31, hpos, rfl, hperm, hent⟩, hbr, hres⟩ := hrel
            have hgs := hent.lt
            have HGs := Lib.hid (show w.heap.size < w1.heap.size from by have := HZ1.out; omega)
            have c0 : wr.cell? ⟨w1.heap.size, 0, none⟩ = some (.int .i32 (p : Int)) := hent.cell 0
            have f0 := hent.free 0
            have HPm := Lib.hid hperm
            have HEn2 := Lib.hid hent
            have HRs2 := Lib.hid hres
            clear hperm
            by_cases hp : pos < rest.length
            · have r0 : wr.cell? ⟨w.heap.size, 0, none⟩ = some (.int .i32 0) := hres.cell 0
              have r1 : wr.cell? ⟨w.heap.size, 1, none⟩ = some (.string ⟨#[]⟩) := hres.cell 1
              have r2 : wr.cell? ⟨w.heap.size, 2, none⟩ = some (.string ⟨#[]⟩) := hres.cell 2
              have g0 := hres.free 0
              have g1 := hres.free 1
              have g2 := hres.free 2
              clear hent hres
              have hpt2 : t + 1 + pos < (B l).size := by rw [hsz]; omega
              obtain ⟨b, hb⟩ : ∃ c, (B l)[t + 1 + pos] = c := ⟨_, rfl⟩
              have Hdrop := Lib.hid (show rest.drop pos = b :: rest.drop (pos + 1) from by
                rw [List.drop_eq_getElem_cons hp, getD_at rest pos hp, HG.out pos hp, ← hb, B_at])
              rcases letIdx_cases b with ⟨_, j2⟩ | ⟨_, j2⟩ | ⟨_, j2⟩ | ⟨_, j2⟩ | ⟨_, j2⟩ | ⟨_, j2⟩
              · have L := Lib.hid (show ∀ W, Calls Tryz.prog 16 #[.int .u8 (b.toNat : Int)] W fun e w' => e = .returned (.int .i32 0) ∧ W = w' from fun W => by have := letter_calls b W; rw [j2] at this; exact this)
                have HN := Lib.hid (show entOf l = none from by rw [HE.out, HPm.out, Hdrop.out, perm_bad p b _ j2])
                clear j2
                go_wp2_with fail
                refine (L.out _).mono ?_
                rintro e _ ⟨rfl, rfl⟩
                go_wp2_with fail
                refine bodyPost_ret (v := .tuple #[.agg #[.int .i32 0, .string ⟨#[]⟩, .string ⟨#[]⟩], .bool false]) (by simp [results, Tryz.results23, go_sem, r0, r1, r2]) rfl ⟨ent_none HN.out _ _ _, ?_⟩
                exact ((hbr.setCell (p := ⟨w.heap.size, 0, none⟩) (Nat.le_refl _) _).setCell (p := ⟨w.heap.size, 1, none⟩) (Nat.le_refl _) _).setCell (p := ⟨w.heap.size, 2, none⟩) (Nat.le_refl _) _
              · have L := Lib.hid (show ∀ W, Calls Tryz.prog 16 #[.int .u8 (b.toNat : Int)] W fun e w' => e = .returned (.int .i32 4) ∧ W = w' from fun W => by have := letter_calls b W; rw [j2] at this; exact this)
                have J2 := Lib.hid j2
                clear j2
                cases ht : (p &&& 4 != 0)
                · obtain ⟨o1, o2⟩ := or_bit ⟨p, by omega⟩ 4 (by decide)
                  have o1 : bits .or .i32 (p : Int) 4 = ((p ||| 4 : Nat) : Int) := o1
                  have hk : (bits .and .i32 (p : Int) 4 != 0) = false := (and_bit ⟨p, by omega⟩ 4 (by decide)).trans ht
                  have HP2 := Lib.hid ((HPm.out.trans (by rw [Hdrop.out])).trans (perm_step p b (rest.drop (pos + 1)) J2.out (by decide) ht))
                  have O2 := Lib.hid o2
                  clear ht o2
                  go_wp2_with fail
                  refine (L.out _).mono ?_
                  rintro e _ ⟨rfl, rfl⟩
                  go_wp2_with fail
                  go_roundw
                  case rel => exact piece_rel hbr HGs.out HEn2.out HRs2.out 4 O2.out (by omega) HP2.out (by omega)
                  case measure => simp [intOf]; omega
                · have hk : (bits .and .i32 (p : Int) 4 != 0) = true := (and_bit ⟨p, by omega⟩ 4 (by decide)).trans ht
                  have HN := Lib.hid (show entOf l = none from by rw [HE.out, HPm.out, Hdrop.out, perm_twice p b _ J2.out (by decide) ht])
                  clear ht
                  go_wp2_with fail
                  refine (L.out _).mono ?_
                  rintro e _ ⟨rfl, rfl⟩
                  go_wp2_with fail
                  refine bodyPost_ret (v := .tuple #[.agg #[.int .i32 0, .string ⟨#[]⟩, .string ⟨#[]⟩], .bool false]) (by simp [results, Tryz.results23, go_sem, r0, r1, r2]) rfl ⟨ent_none HN.out _ _ _, ?_⟩
                  exact ((hbr.setCell (p := ⟨w.heap.size, 0, none⟩) (Nat.le_refl _) _).setCell (p := ⟨w.heap.size, 1, none⟩) (Nat.le_refl _) _).setCell (p := ⟨w.heap.size, 2, none⟩) (Nat.le_refl _) _
              · have L := Lib.hid (show ∀ W, Calls Tryz.prog 16 #[.int .u8 (b.toNat : Int)] W fun e w' => e = .returned (.int .i32 8) ∧ W = w' from fun W => by have := letter_calls b W; rw [j2] at this; exact this)
                have J2 := Lib.hid j2
                clear j2
                cases ht : (p &&& 8 != 0)
                · obtain ⟨o1, o2⟩ := or_bit ⟨p, by omega⟩ 8 (by decide)
                  have o1 : bits .or .i32 (p : Int) 8 = ((p ||| 8 : Nat) : Int) := o1
                  have hk : (bits .and .i32 (p : Int) 8 != 0) = false := (and_bit ⟨p, by omega⟩ 8 (by decide)).trans ht
                  have HP2 := Lib.hid ((HPm.out.trans (by rw [Hdrop.out])).trans (perm_step p b (rest.drop (pos + 1)) J2.out (by decide) ht))
                  have O2 := Lib.hid o2
                  clear ht o2
                  go_wp2_with fail
                  refine (L.out _).mono ?_
                  rintro e _ ⟨rfl, rfl⟩
                  go_wp2_with fail
                  go_roundw
                  case rel => exact piece_rel hbr HGs.out HEn2.out HRs2.out 8 O2.out (by omega) HP2.out (by omega)
                  case measure => simp [intOf]; omega
                · have hk : (bits .and .i32 (p : Int) 8 != 0) = true := (and_bit ⟨p, by omega⟩ 8 (by decide)).trans ht
                  have HN := Lib.hid (show entOf l = none from by rw [HE.out, HPm.out, Hdrop.out, perm_twice p b _ J2.out (by decide) ht])
                  clear ht
                  go_wp2_with fail
                  refine (L.out _).mono ?_
                  rintro e _ ⟨rfl, rfl⟩
                  go_wp2_with fail
                  refine bodyPost_ret (v := .tuple #[.agg #[.int .i32 0, .string ⟨#[]⟩, .string ⟨#[]⟩], .bool false]) (by simp [results, Tryz.results23, go_sem, r0, r1, r2]) rfl ⟨ent_none HN.out _ _ _, ?_⟩
                  exact ((hbr.setCell (p := ⟨w.heap.size, 0, none⟩) (Nat.le_refl _) _).setCell (p := ⟨w.heap.size, 1, none⟩) (Nat.le_refl _) _).setCell (p := ⟨w.heap.size, 2, none⟩) (Nat.le_refl _) _
              · have L := Lib.hid (show ∀ W, Calls Tryz.prog 16 #[.int .u8 (b.toNat : Int)] W fun e w' => e = .returned (.int .i32 1) ∧ W = w' from fun W => by have := letter_calls b W; rw [j2] at this; exact this)
                have J2 := Lib.hid j2
                clear j2
                cases ht : (p &&& 1 != 0)
                · obtain ⟨o1, o2⟩ := or_bit ⟨p, by omega⟩ 1 (by decide)
                  have o1 : bits .or .i32 (p : Int) 1 = ((p ||| 1 : Nat) : Int) := o1
                  have hk : (bits .and .i32 (p : Int) 1 != 0) = false := (and_bit ⟨p, by omega⟩ 1 (by decide)).trans ht
                  have HP2 := Lib.hid ((HPm.out.trans (by rw [Hdrop.out])).trans (perm_step p b (rest.drop (pos + 1)) J2.out (by decide) ht))
                  have O2 := Lib.hid o2
                  clear ht o2
                  go_wp2_with fail
                  refine (L.out _).mono ?_
                  rintro e _ ⟨rfl, rfl⟩
                  go_wp2_with fail
                  go_roundw
                  case rel => exact piece_rel hbr HGs.out HEn2.out HRs2.out 1 O2.out (by omega) HP2.out (by omega)
                  case measure => simp [intOf]; omega
                · have hk : (bits .and .i32 (p : Int) 1 != 0) = true := (and_bit ⟨p, by omega⟩ 1 (by decide)).trans ht
                  have HN := Lib.hid (show entOf l = none from by rw [HE.out, HPm.out, Hdrop.out, perm_twice p b _ J2.out (by decide) ht])
                  clear ht
                  go_wp2_with fail
                  refine (L.out _).mono ?_
                  rintro e _ ⟨rfl, rfl⟩
                  go_wp2_with fail
                  refine bodyPost_ret (v := .tuple #[.agg #[.int .i32 0, .string ⟨#[]⟩, .string ⟨#[]⟩], .bool false]) (by simp [results, Tryz.results23, go_sem, r0, r1, r2]) rfl ⟨ent_none HN.out _ _ _, ?_⟩
                  exact ((hbr.setCell (p := ⟨w.heap.size, 0, none⟩) (Nat.le_refl _) _).setCell (p := ⟨w.heap.size, 1, none⟩) (Nat.le_refl _) _).setCell (p := ⟨w.heap.size, 2, none⟩) (Nat.le_refl _) _
              · have L := Lib.hid (show ∀ W, Calls Tryz.prog 16 #[.int .u8 (b.toNat : Int)] W fun e w' => e = .returned (.int .i32 2) ∧ W = w' from fun W => by have := letter_calls b W; rw [j2] at this; exact this)
                have J2 := Lib.hid j2
                clear j2
                cases ht : (p &&& 2 != 0)
                · obtain ⟨o1, o2⟩ := or_bit ⟨p, by omega⟩ 2 (by decide)
                  have o1 : bits .or .i32 (p : Int) 2 = ((p ||| 2 : Nat) : Int) := o1
                  have hk : (bits .and .i32 (p : Int) 2 != 0) = false := (and_bit ⟨p, by omega⟩ 2 (by decide)).trans ht
                  have HP2 := Lib.hid ((HPm.out.trans (by rw [Hdrop.out])).trans (perm_step p b (rest.drop (pos + 1)) J2.out (by decide) ht))
                  have O2 := Lib.hid o2
                  clear ht o2
                  go_wp2_with fail
                  refine (L.out _).mono ?_
                  rintro e _ ⟨rfl, rfl⟩
                  go_wp2_with fail
                  go_roundw
                  case rel => exact piece_rel hbr HGs.out HEn2.out HRs2.out 2 O2.out (by omega) HP2.out (by omega)
                  case measure => simp [intOf]; omega
                · have hk : (bits .and .i32 (p : Int) 2 != 0) = true := (and_bit ⟨p, by omega⟩ 2 (by decide)).trans ht
                  have HN := Lib.hid (show entOf l = none from by rw [HE.out, HPm.out, Hdrop.out, perm_twice p b _ J2.out (by decide) ht])
                  clear ht
                  go_wp2_with fail
                  refine (L.out _).mono ?_
                  rintro e _ ⟨rfl, rfl⟩
                  go_wp2_with fail
                  refine bodyPost_ret (v := .tuple #[.agg #[.int .i32 0, .string ⟨#[]⟩, .string ⟨#[]⟩], .bool false]) (by simp [results, Tryz.results23, go_sem, r0, r1, r2]) rfl ⟨ent_none HN.out _ _ _, ?_⟩
                  exact ((hbr.setCell (p := ⟨w.heap.size, 0, none⟩) (Nat.le_refl _) _).setCell (p := ⟨w.heap.size, 1, none⟩) (Nat.le_refl _) _).setCell (p := ⟨w.heap.size, 2, none⟩) (Nat.le_refl _) _
              · have L := Lib.hid (show ∀ W, Calls Tryz.prog 16 #[.int .u8 (b.toNat : Int)] W fun e w' => e = .returned (.int .i32 16) ∧ W = w' from fun W => by have := letter_calls b W; rw [j2] at this; exact this)
                have J2 := Lib.hid j2
                clear j2
                cases ht : (p &&& 16 != 0)
                · obtain ⟨o1, o2⟩ := or_bit ⟨p, by omega⟩ 16 (by decide)
                  have o1 : bits .or .i32 (p : Int) 16 = ((p ||| 16 : Nat) : Int) := o1
                  have hk : (bits .and .i32 (p : Int) 16 != 0) = false := (and_bit ⟨p, by omega⟩ 16 (by decide)).trans ht
                  have HP2 := Lib.hid ((HPm.out.trans (by rw [Hdrop.out])).trans (perm_step p b (rest.drop (pos + 1)) J2.out (by decide) ht))
                  have O2 := Lib.hid o2
                  clear ht o2
                  go_wp2_with fail
                  refine (L.out _).mono ?_
                  rintro e _ ⟨rfl, rfl⟩
                  go_wp2_with fail
                  go_roundw
                  case rel => exact piece_rel hbr HGs.out HEn2.out HRs2.out 16 O2.out (by omega) HP2.out (by omega)
                  case measure => simp [intOf]; omega
                · have hk : (bits .and .i32 (p : Int) 16 != 0) = true := (and_bit ⟨p, by omega⟩ 16 (by decide)).trans ht
                  have HN := Lib.hid (show entOf l = none from by rw [HE.out, HPm.out, Hdrop.out, perm_twice p b _ J2.out (by decide) ht])
                  clear ht
                  go_wp2_with fail
                  refine (L.out _).mono ?_
                  rintro e _ ⟨rfl, rfl⟩
                  go_wp2_with fail
                  refine bodyPost_ret (v := .tuple #[.agg #[.int .i32 0, .string ⟨#[]⟩, .string ⟨#[]⟩], .bool false]) (by simp [results, Tryz.results23, go_sem, r0, r1, r2]) rfl ⟨ent_none HN.out _ _ _, ?_⟩
                  exact ((hbr.setCell (p := ⟨w.heap.size, 0, none⟩) (Nat.le_refl _) _).setCell (p := ⟨w.heap.size, 1, none⟩) (Nat.le_refl _) _).setCell (p := ⟨w.heap.size, 2, none⟩) (Nat.le_refl _) _
            · obtain ⟨rb, hrb⟩ : ∃ rb, Ent.right ⟨(p : Int), sc, id⟩ = rb := ⟨_, rfl⟩
              have hdn : rest.drop pos = [] := List.drop_eq_nil_of_le (by omega)
              have HE2 : Hid (entOf l = if rb = true then some ⟨(p : Int), sc, id⟩ else none) := by
                rw [HE.out, HPm.out, hdn]
                show (if Ent.right ⟨(p : Int), sc, id⟩ = true then _ else _) = _
                rw [hrb]
              have hlsc : sc.length ≤ 4294967280 ∧ id.length ≤ 4294967280 := HLen.out
              have R := Lib.hid (fun W => refRight_calls ⟨(p : Int), sc, id⟩ hlsc.1 hlsc.2 W)
              simp only [hrb] at R
              have c1 : wr.cell? ⟨w1.heap.size, 1, none⟩ = some (.string (B sc)) := hent.cell 1
              have c2 : wr.cell? ⟨w1.heap.size, 2, none⟩ = some (.string (B id)) := hent.cell 2
              clear hent hres hrb hdn
              go_wp2
              go_region_with (refine (R.out _).mono ?_; rintro e w2 ⟨rfl, hb2⟩; have hres2 := HRs2.out.drew.below hb2 (by show w.heap.size < wr.heap.size; have := HGs.out; omega); have hent2 := HEn2.out.drew.below hb2 hgs; have r0 : w2.cell? ⟨w.heap.size, 0, none⟩ = some (.int .i32 0) := hres2.cell 0; have r1 : w2.cell? ⟨w.heap.size, 1, none⟩ = some (.string ⟨#[]⟩) := hres2.cell 1; have r2 : w2.cell? ⟨w.heap.size, 2, none⟩ = some (.string ⟨#[]⟩) := hres2.cell 2; have g0 := hres2.free 0; have g1 := hres2.free 1; have g2 := hres2.free 2; have d0 : w2.cell? ⟨w1.heap.size, 0, none⟩ = some (.int .i32 (p : Int)) := hent2.cell 0; have d1 : w2.cell? ⟨w1.heap.size, 1, none⟩ = some (.string (B sc)) := hent2.cell 1; have d2 : w2.cell? ⟨w1.heap.size, 2, none⟩ = some (.string (B id)) := hent2.cell 2; clear hres2 hent2)
              all_goals go_wp2
              all_goals have hb3 : Below w.heap.size w w2 := hbr.drew.trans (hb2.mono hbr.size)
              all_goals refine bodyPost_ret (v := .tuple #[.agg #[.int .i32 (p : Int), .string (B sc), .string (B id)], .bool rb]) (by simp [results, Tryz.results23, go_sem, r0, r1, r2]) rfl ⟨ent_end HE2.out, ?_⟩
              all_goals exact ((hb3.setCell (p := ⟨w.heap.size, 0, none⟩) (Nat.le_refl _) _).setCell (p := ⟨w.heap.size, 1, none⟩) (Nat.le_refl _) _).setCell (p := ⟨w.heap.size, 2, none⟩) (Nat.le_refl _) _
      · have h3 := neq_byte h58 (n := 58) rfl
        have HNe := Lib.hid h58
        clear h58
        go_wp2_with fail
        go_roundw
        case rel =>
          refine ⟨t, _, rfl, by omega, by omega, fun j hj1 hj2 => ?_, rfl⟩
          rcases Nat.eq_or_lt_of_le hj1 with rfl | h
          · rw [HCt.out]; exact HNe.out
          · exact HNo.out j (by omega) hj2
        case measure => simp [intOf]
end Go.Proofs.YtepmkkeaidacmaaGreatDoor
