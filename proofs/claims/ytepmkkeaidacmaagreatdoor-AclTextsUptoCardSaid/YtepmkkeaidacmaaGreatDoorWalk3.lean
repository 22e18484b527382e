/-
  The walk of Right: is an entry right?
-/
import Derived.Test.YtepmkkeaidacmaaGreatDoorWalk2
namespace Go.Proofs.YtepmkkeaidacmaaGreatDoor
open Go.RowKit

theorem beq_BL (l m : List UInt8) : ((B l).toList == m) = decide (l = m) := by
  rw [B_toList]
  by_cases h : l = m
  · rw [decide_eq_true h]; exact beq_iff_eq.2 h
  · rw [decide_eq_false h]; exact beq_eq_false_iff_ne.2 h

set_option maxHeartbeats 1600000 in
theorem right_calls (a : Ent) (h1 : a.sc.length ≤ 4294967280) (h2 : a.id.length ≤ 4294967280) (w : World) (he : Env w) :
    Calls Tryz.prog 13 #[.agg #[.int .i32 a.p, .string (B a.sc), .string (B a.id)]] w fun e w' => e = .returned (.bool a.right) ∧ Below w.heap.size w w' := by
  obtain ⟨p, sc, id⟩ := a
  simp only at h1 h2 ⊢
  obtain ⟨r, hr⟩ : ∃ r, Ent.right ⟨p, sc, id⟩ = r := ⟨_, rfl⟩
  rw [hr]
  have HR := Lib.hid hr
  clear hr
  have T1 := Lib.hid fun W hW => text_calls sc h1 W hW
  have T2 := Lib.hid fun W hW => text_calls id h2 W hW
  have eb : Below w.heap.size w (w.alloc (.cells #[.int .i32 p, .string (B sc), .string (B id)] 44)) := (Below.refl _ _).alloc (Nat.le_refl _) _
  have hE := HR.out
  unfold Ent.right rightL at hE
  simp only at hE
  by_cases hp : p < 0
  · have HF : Hid (r = false) := by rw [← hE, decide_eq_false (by omega)]; exact rfl
    clear hE
    go_enter Tryz.func13, Tryz.ntmps13
    go_wp2
    go_ret
    exact ⟨ret_bool HF.out.symm, eb⟩
  · by_cases hq : 31 < p
    · have HF := Lib.hid (show r = false from by rw [← hE, decide_eq_false (by omega : ¬ p ≤ 31)]; simp)
      clear hE
      go_enter Tryz.func13, Tryz.ntmps13
      go_wp2
      go_ret
      exact ⟨ret_bool HF.out.symm, eb⟩
    · have d1 : decide (p < 0) = false := decide_eq_false (by omega)
      have d2 : decide (31 < p) = false := decide_eq_false (by omega)
      rw [decide_eq_true (by omega : 0 ≤ p), decide_eq_true (by omega : p ≤ 31)] at hE
      cases ht1 : textL sc with
      | false =>
        have HF := Lib.hid (show r = false from by rw [← hE, ht1]; simp)
        have H1 := Lib.hid ht1
        clear hE ht1
        go_enter Tryz.func13, Tryz.ntmps13
        go_wp2_with fail
        refine (T1.out _ (he.below eb)).mono ?_
        rintro e w1 ⟨rfl, hb1⟩
        rw [H1.out]
        go_wp2
        go_ret
        exact ⟨ret_bool HF.out.symm, eb.trans (hb1.mono (by simp))⟩
      | true =>
        rw [ht1] at hE
        have H1 := Lib.hid ht1
        clear ht1
        cases ht2 : textL id with
        | false =>
          have HF := Lib.hid (show r = false from by rw [← hE, ht2]; simp)
          have H2 := Lib.hid ht2
          clear hE ht2
          go_enter Tryz.func13, Tryz.ntmps13
          go_wp2_with fail
          refine (T1.out _ (he.below eb)).mono ?_
          rintro e w1 ⟨rfl, hb1⟩
          rw [H1.out]
          have hb1' : Below w.heap.size w w1 := eb.trans (hb1.mono (by simp))
          have c2 : w1.cell? ⟨w.heap.size, 2, none⟩ = some (.string (B id)) := (hb1.cell (p := ⟨w.heap.size, 2, none⟩) (by simp)).trans (by simp)
          have e1 := he.below hb1'
          go_wp2_with fail
          refine (T2.out _ e1).mono ?_
          rintro e w2 ⟨rfl, hb2⟩
          rw [H2.out]
          go_wp2
          go_ret
          exact ⟨ret_bool HF.out.symm, hb1'.trans (hb2.mono hb1'.size)⟩
        | true =>
          rw [ht2] at hE
          have H2 := Lib.hid ht2
          have HK := Lib.hid (show r = kindL sc id from by rw [← hE]; simp)
          clear ht2 hE
          have D := Lib.hid fun W hW => digest_calls id h2 W hW
          have N := Lib.hid fun W hW => network_calls id h2 W hW
          have hW := beq_BL sc [119, 111, 114, 108, 100]
          have hA := beq_BL id [97, 110, 121, 111, 110, 101]
          have hD := beq_BL sc [100, 105, 103, 101, 115, 116]
          have hI := beq_BL sc [105, 112]
          by_cases k1 : sc = [119, 111, 114, 108, 100]
          · rw [decide_eq_true k1] at hW
            have HF : Hid (r = decide (id = [97, 110, 121, 111, 110, 101])) := by rw [HK.out]; unfold kindL; rw [if_pos (show sc = bWorld from k1)]; exact rfl
            clear hD hI k1
            obtain ⟨z, hz⟩ : ∃ z, decide (id = [97, 110, 121, 111, 110, 101]) = z := ⟨_, rfl⟩
            rw [hz] at hA HF
            clear hz
            go_enter Tryz.func13, Tryz.ntmps13
            go_wp2_with fail
            refine (T1.out _ (he.below eb)).mono ?_
            rintro e w1 ⟨rfl, hb1⟩
            rw [H1.out]
            have hs1 : w.heap.size < w1.heap.size := by have := hb1.size; simp at this; omega
            have hb1' : Below w.heap.size w w1 := eb.trans (hb1.mono (by simp))
            have c1 : w1.cell? ⟨w.heap.size, 1, none⟩ = some (.string (B sc)) := (hb1.cell (p := ⟨w.heap.size, 1, none⟩) (by simp)).trans (by simp)
            have c2 : w1.cell? ⟨w.heap.size, 2, none⟩ = some (.string (B id)) := (hb1.cell (p := ⟨w.heap.size, 2, none⟩) (by simp)).trans (by simp)
            have e1 := he.below hb1'
            go_wp2_with fail
            refine (T2.out _ e1).mono ?_
            rintro e w2 ⟨rfl, hb2⟩
            rw [H2.out]
            have c1' : w2.cell? ⟨w.heap.size, 1, none⟩ = some (.string (B sc)) := (hb2.cell (p := ⟨w.heap.size, 1, none⟩) hs1).trans c1
            have c2' : w2.cell? ⟨w.heap.size, 2, none⟩ = some (.string (B id)) := (hb2.cell (p := ⟨w.heap.size, 2, none⟩) hs1).trans c2
            go_wp2
            go_ret
            exact ⟨ret_bool HF.out.symm, hb1'.trans (hb2.mono hb1'.size)⟩
          · rw [decide_eq_false k1] at hW
            by_cases k2 : sc = [100, 105, 103, 101, 115, 116]
            · rw [decide_eq_true k2] at hD
              have HF : Hid (r = digL id) := by rw [HK.out]; unfold kindL; rw [if_neg (show ¬ sc = bWorld from k1), if_pos (show sc = bDigest from k2)]; exact rfl
              clear hA hI k1 k2
              go_enter Tryz.func13, Tryz.ntmps13
              go_wp2_with fail
              refine (T1.out _ (he.below eb)).mono ?_
              rintro e w1 ⟨rfl, hb1⟩
              rw [H1.out]
              have hs1 : w.heap.size < w1.heap.size := by have := hb1.size; simp at this; omega
              have hb1' : Below w.heap.size w w1 := eb.trans (hb1.mono (by simp))
              have c1 : w1.cell? ⟨w.heap.size, 1, none⟩ = some (.string (B sc)) := (hb1.cell (p := ⟨w.heap.size, 1, none⟩) (by simp)).trans (by simp)
              have c2 : w1.cell? ⟨w.heap.size, 2, none⟩ = some (.string (B id)) := (hb1.cell (p := ⟨w.heap.size, 2, none⟩) (by simp)).trans (by simp)
              have e1 := he.below hb1'
              go_wp2_with fail
              refine (T2.out _ e1).mono ?_
              rintro e w2 ⟨rfl, hb2⟩
              rw [H2.out]
              have hb2' : Below w.heap.size w w2 := hb1'.trans (hb2.mono hb1'.size)
              have c1' : w2.cell? ⟨w.heap.size, 1, none⟩ = some (.string (B sc)) := (hb2.cell (p := ⟨w.heap.size, 1, none⟩) hs1).trans c1
              have c2' : w2.cell? ⟨w.heap.size, 2, none⟩ = some (.string (B id)) := (hb2.cell (p := ⟨w.heap.size, 2, none⟩) hs1).trans c2
              have e2 := he.below hb2'
              go_wp2_with fail
              refine (D.out _ e2).mono ?_
              rintro e w3 ⟨rfl, rfl⟩
              go_wp2
              go_ret
              exact ⟨ret_bool HF.out.symm, hb2'⟩
            · rw [decide_eq_false k2] at hD
              by_cases k3 : sc = [105, 112]
              · rw [decide_eq_true k3] at hI
                have HF : Hid (r = netL id) := by rw [HK.out]; unfold kindL; rw [if_neg (show ¬ sc = bWorld from k1), if_neg (show ¬ sc = bDigest from k2), if_pos (show sc = bIp from k3)]; exact rfl
                clear hA k1 k2 k3
                go_enter Tryz.func13, Tryz.ntmps13
                go_wp2_with fail
                refine (T1.out _ (he.below eb)).mono ?_
                rintro e w1 ⟨rfl, hb1⟩
                rw [H1.out]
                have hs1 : w.heap.size < w1.heap.size := by have := hb1.size; simp at this; omega
                have hb1' : Below w.heap.size w w1 := eb.trans (hb1.mono (by simp))
                have c1 : w1.cell? ⟨w.heap.size, 1, none⟩ = some (.string (B sc)) := (hb1.cell (p := ⟨w.heap.size, 1, none⟩) (by simp)).trans (by simp)
                have c2 : w1.cell? ⟨w.heap.size, 2, none⟩ = some (.string (B id)) := (hb1.cell (p := ⟨w.heap.size, 2, none⟩) (by simp)).trans (by simp)
                have e1 := he.below hb1'
                go_wp2_with fail
                refine (T2.out _ e1).mono ?_
                rintro e w2 ⟨rfl, hb2⟩
                rw [H2.out]
                have hb2' : Below w.heap.size w w2 := hb1'.trans (hb2.mono hb1'.size)
                have c1' : w2.cell? ⟨w.heap.size, 1, none⟩ = some (.string (B sc)) := (hb2.cell (p := ⟨w.heap.size, 1, none⟩) hs1).trans c1
                have c2' : w2.cell? ⟨w.heap.size, 2, none⟩ = some (.string (B id)) := (hb2.cell (p := ⟨w.heap.size, 2, none⟩) hs1).trans c2
                have e2 := he.below hb2'
                go_wp2_with fail
                refine (N.out _ e2).mono ?_
                rintro e w3 ⟨⟨x, n, rfl⟩, hb3⟩
                go_wp2
                go_ret
                exact ⟨ret_bool HF.out.symm, hb2'.trans (hb3.mono hb2'.size)⟩
              · rw [decide_eq_false k3] at hI
                have HF : Hid (r = false) := by rw [HK.out]; unfold kindL; rw [if_neg (show ¬ sc = bWorld from k1), if_neg (show ¬ sc = bDigest from k2), if_neg (show ¬ sc = bIp from k3)]; exact rfl
                clear hA k1 k2 k3
                go_enter Tryz.func13, Tryz.ntmps13
                go_wp2_with fail
                refine (T1.out _ (he.below eb)).mono ?_
                rintro e w1 ⟨rfl, hb1⟩
                rw [H1.out]
                have hs1 : w.heap.size < w1.heap.size := by have := hb1.size; simp at this; omega
                have hb1' : Below w.heap.size w w1 := eb.trans (hb1.mono (by simp))
                have c1 : w1.cell? ⟨w.heap.size, 1, none⟩ = some (.string (B sc)) := (hb1.cell (p := ⟨w.heap.size, 1, none⟩) (by simp)).trans (by simp)
                have c2 : w1.cell? ⟨w.heap.size, 2, none⟩ = some (.string (B id)) := (hb1.cell (p := ⟨w.heap.size, 2, none⟩) (by simp)).trans (by simp)
                have e1 := he.below hb1'
                go_wp2_with fail
                refine (T2.out _ e1).mono ?_
                rintro e w2 ⟨rfl, hb2⟩
                rw [H2.out]
                have hb2' : Below w.heap.size w w2 := hb1'.trans (hb2.mono hb1'.size)
                have c1' : w2.cell? ⟨w.heap.size, 1, none⟩ = some (.string (B sc)) := (hb2.cell (p := ⟨w.heap.size, 1, none⟩) hs1).trans c1
                go_wp2
                go_ret
                exact ⟨ret_bool HF.out.symm, hb2'⟩
end Go.Proofs.YtepmkkeaidacmaaGreatDoor
