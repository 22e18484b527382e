/-
  The walks of the reference's Right and letter.
-/
import Derived.Test.YtepmkkeaidacmaaGreatDoorRef2
namespace Go.Proofs.YtepmkkeaidacmaaGreatDoor
open Go.RowKit

theorem beqL (l m : List UInt8) : ((B l).toList == m) = decide (l = m) := by
  rw [B_toList]
  by_cases h : l = m
  · rw [decide_eq_true h]; exact beq_iff_eq.2 h
  · rw [decide_eq_false h]; exact beq_eq_false_iff_ne.2 h

set_option maxHeartbeats 1600000 in
set_option maxRecDepth 100000 in
theorem refRight_calls (a : Ent) (h1 : a.sc.length ≤ 4294967280) (h2 : a.id.length ≤ 4294967280) (w : World) :
    Calls Tryz.prog 15 #[.agg #[.int .i32 a.p, .string (B a.sc), .string (B a.id)]] w fun e w' => e = .returned (.bool a.right) ∧ Below w.heap.size w w' := by
  obtain ⟨p, sc, id⟩ := a
  simp only at h1 h2 ⊢
  obtain ⟨r, hr⟩ : ∃ r, Ent.right ⟨p, sc, id⟩ = r := ⟨_, rfl⟩
  rw [hr]
  have hE : (decide (0 ≤ p) && decide (p ≤ 31) && kindR sc id) = r := by rw [← hr]; exact (right_ref p sc id).symm
  clear hr
  have eb : Below w.heap.size w (w.alloc (.cells #[.int .i32 p, .string (B sc), .string (B id)] 44)) := (Below.refl _ _).alloc (Nat.le_refl _) _
  by_cases hp : p < 0
  · have HF := Lib.hid (show r = false from by rw [← hE, decide_eq_false (by omega)]; rfl)
    clear hE
    go_enter Tryz.func15, Tryz.ntmps15
    go_wp2_with fail
    go_ret
    exact ⟨retb HF.out.symm, eb⟩
  · by_cases hq : 31 < p
    · have HF := Lib.hid (show r = false from by rw [← hE, decide_eq_false (by omega : ¬ p ≤ 31)]; simp)
      clear hE
      go_enter Tryz.func15, Tryz.ntmps15
      go_wp2_with fail
      go_ret
      exact ⟨retb HF.out.symm, eb⟩
    · have d1 : decide (p < 0) = false := decide_eq_false (by omega)
      have d2 : decide (31 < p) = false := decide_eq_false (by omega)
      have HK := Lib.hid (show r = kindR sc id from by rw [← hE, decide_eq_true (by omega : 0 ≤ p), decide_eq_true (by omega : p ≤ 31)]; simp)
      clear hE
      have D := Lib.hid fun W => refDigest_calls id h2 W
      have N := Lib.hid fun W => refRange_calls id h2 W
      have hW := beqL sc [119, 111, 114, 108, 100]
      have hA := beqL id [97, 110, 121, 111, 110, 101]
      have hD := beqL sc [100, 105, 103, 101, 115, 116]
      have hI := beqL sc [105, 112]
      by_cases k1 : sc = [119, 111, 114, 108, 100]
      · rw [decide_eq_true k1] at hW
        have HF : Hid (r = decide (id = [97, 110, 121, 111, 110, 101])) := by rw [HK.out]; unfold kindR; rw [if_pos (show sc = bWorld from k1)]; exact rfl
        clear hD hI k1
        obtain ⟨z, hz⟩ : ∃ z, decide (id = [97, 110, 121, 111, 110, 101]) = z := ⟨_, rfl⟩
        rw [hz] at hA HF
        clear hz
        go_enter Tryz.func15, Tryz.ntmps15
        go_wp2_with fail
        go_ret
        exact ⟨retb HF.out.symm, eb⟩
      · rw [decide_eq_false k1] at hW
        by_cases k2 : sc = [100, 105, 103, 101, 115, 116]
        · rw [decide_eq_true k2] at hD
          have HF : Hid (r = (textL id && digL id)) := by rw [HK.out]; unfold kindR; rw [if_neg (show ¬ sc = bWorld from k1), if_pos (show sc = bDigest from k2)]; exact rfl
          clear hA hI k1 k2
          go_enter Tryz.func15, Tryz.ntmps15
          go_wp2_with fail
          refine (D.out _).mono ?_
          rintro e _ ⟨rfl, q, rfl⟩
          go_wp2_with fail
          go_ret
          exact ⟨retb HF.out.symm, below_drewN eb q⟩
        · rw [decide_eq_false k2] at hD
          by_cases k3 : sc = [105, 112]
          · rw [decide_eq_true k3] at hI
            have HF : Hid (r = netL id) := by rw [HK.out]; unfold kindR; rw [if_neg (show ¬ sc = bWorld from k1), if_neg (show ¬ sc = bDigest from k2), if_pos (show sc = bIp from k3)]; exact rfl
            clear hA k1 k2 k3
            go_enter Tryz.func15, Tryz.ntmps15
            go_wp2_with fail
            refine (N.out _).mono ?_
            rintro e _ ⟨⟨x, n, rfl⟩, q, rfl⟩
            go_wp2_with fail
            go_ret
            exact ⟨retb HF.out.symm, below_drewN eb q⟩
          · rw [decide_eq_false k3] at hI
            have HF : Hid (r = false) := by rw [HK.out]; unfold kindR; rw [if_neg (show ¬ sc = bWorld from k1), if_neg (show ¬ sc = bDigest from k2), if_neg (show ¬ sc = bIp from k3)]; exact rfl
            clear hA k1 k2 k3
            go_enter Tryz.func15, Tryz.ntmps15
            go_wp2_with fail
            go_ret
            exact ⟨retb HF.out.symm, eb⟩

/-! ### letter -/
theorem letter_eq (b : UInt8) (k : UInt8) (n : Int) (hn : (k.toNat : Int) = n) : ((b.toNat : Int) == n) = decide (b = k) := by
  subst hn
  by_cases h : b = k
  · subst h; simp
  · rw [decide_eq_false h]
    exact beq_eq_false_iff_ne.2 fun e => h (UInt8.toNat_inj.1 (by omega))

set_option maxHeartbeats 1600000 in
set_option maxRecDepth 100000 in
theorem letter_calls (b : UInt8) (w : World) :
    Calls Tryz.prog 16 #[.int .u8 (b.toNat : Int)] w fun e w' => e = .returned (.int .i32 ((letterBit b : Nat) : Int)) ∧ w = w' := by
  have e1 := letter_eq b 99 99 rfl
  have e2 := letter_eq b 100 100 rfl
  have e3 := letter_eq b 114 114 rfl
  have e4 := letter_eq b 119 119 rfl
  have e5 := letter_eq b 97 97 rfl
  obtain ⟨x, hx⟩ : ∃ x, letterBit b = x := ⟨_, rfl⟩
  rw [hx]
  unfold letterBit at hx
  by_cases h1 : b = 99
  · rw [if_pos h1] at hx
    subst hx
    rw [decide_eq_true h1] at e1
    clear e2 e3 e4 e5 h1
    go_enter Tryz.func16, Tryz.ntmps16
    go_wp2_with fail
    refine bodyPost_ret (v := .int .i32 4) (by simp [results, Tryz.results16, go_sem]) rfl ⟨rfl, rfl⟩
  · rw [if_neg h1] at hx
    rw [decide_eq_false h1] at e1
    by_cases h2 : b = 100
    · rw [if_pos h2] at hx
      subst hx
      rw [decide_eq_true h2] at e2
      clear e3 e4 e5 h1 h2
      go_enter Tryz.func16, Tryz.ntmps16
      go_wp2_with fail
      refine bodyPost_ret (v := .int .i32 8) (by simp [results, Tryz.results16, go_sem]) rfl ⟨rfl, rfl⟩
    · rw [if_neg h2] at hx
      rw [decide_eq_false h2] at e2
      by_cases h3 : b = 114
      · rw [if_pos h3] at hx
        subst hx
        rw [decide_eq_true h3] at e3
        clear e4 e5 h1 h2 h3
        go_enter Tryz.func16, Tryz.ntmps16
        go_wp2_with fail
        refine bodyPost_ret (v := .int .i32 1) (by simp [results, Tryz.results16, go_sem]) rfl ⟨rfl, rfl⟩
      · rw [if_neg h3] at hx
        rw [decide_eq_false h3] at e3
        by_cases h4 : b = 119
        · rw [if_pos h4] at hx
          subst hx
          rw [decide_eq_true h4] at e4
          clear e5 h1 h2 h3 h4
          go_enter Tryz.func16, Tryz.ntmps16
          go_wp2_with fail
          refine bodyPost_ret (v := .int .i32 2) (by simp [results, Tryz.results16, go_sem]) rfl ⟨rfl, rfl⟩
        · rw [if_neg h4] at hx
          rw [decide_eq_false h4] at e4
          by_cases h5 : b = 97
          · rw [if_pos h5] at hx
            subst hx
            rw [decide_eq_true h5] at e5
            clear h1 h2 h3 h4 h5
            go_enter Tryz.func16, Tryz.ntmps16
            go_wp2_with fail
            refine bodyPost_ret (v := .int .i32 16) (by simp [results, Tryz.results16, go_sem]) rfl ⟨rfl, rfl⟩
          · rw [if_neg h5] at hx
            subst hx
            rw [decide_eq_false h5] at e5
            clear h1 h2 h3 h4 h5
            go_enter Tryz.func16, Tryz.ntmps16
            go_wp2_with fail
            refine bodyPost_ret (v := .int .i32 0) (by simp [results, Tryz.results16, go_sem]) rfl ⟨rfl, rfl⟩
end Go.Proofs.YtepmkkeaidacmaaGreatDoor
