/-
  The walks of Same (the reference's) and Text.
-/
import Derived.Test.YtepmkkeaidacmaaGreatDoorWalk3
import Derived.Deep.QuietTactic
import Derived.BigQuiet
namespace Go.Proofs.YtepmkkeaidacmaaGreatDoor
open Go.RowKit

theorem same_at (xs ys : List Ent) (k : Nat) (hx : k < xs.length) (hy : k < ys.length) (h : xs[k] ≠ ys[k]) : decide (xs = ys) = false := by
  apply decide_eq_false
  rintro rfl
  exact h rfl
theorem same_all (xs ys : List Ent) (hl : xs.length = ys.length) (h : ∀ k (hx : k < xs.length) (hy : k < ys.length), xs[k] = ys[k]) : decide (xs = ys) = true :=
  decide_eq_true (List.ext_getElem hl h)

def SameRel (xs ys : List Ent) (w wr : World) (i : Value) : Prop :=
  ∃ k q : Nat, k ≤ xs.length ∧ i = .int .i64 k ∧ wr = w.drewN q ∧ ∀ j (hx : j < xs.length) (hy : j < ys.length), j < k → xs[j] = ys[j]

set_option maxHeartbeats 800000 in
theorem same_calls (xs ys : List Ent) (A A' : Option Addr) (c c' b b' : Nat) (hn : xs.length ≤ 4294967280) (hm : ys.length ≤ 4294967280) (w : World) (hA : Acls w b A xs) (hA' : Acls w b' A' ys) :
    Calls Tryz.prog 11 #[.slice A xs.length c, .slice A' ys.length c'] w fun e w' => e = .returned (.bool (decide (xs = ys))) ∧ ∃ q, w' = w.drewN q := by
  by_cases hl : xs.length = ys.length
  · have HL := Lib.hid hl
    have hl' : ((((xs.length : Nat) : Int)) != ((ys.length : Nat) : Int)) = false := by rw [bne_eq_false_iff_eq]; omega
    clear hl
    have HA := Lib.hid hA
    have HA' := Lib.hid hA'
    clear hA hA'
    go_enter Tryz.func11, Tryz.ntmps11
    go_wp2
    go_loopw [5] (fun i wr => SameRel xs ys w wr i) (fun i _ => xs.length - (intOf i).toNat)
    case atStart => exact ⟨0, 0, Nat.zero_le _, rfl, rfl, fun j _ _ h => by omega⟩
    case round =>
      obtain ⟨k, q, hk, rfl, rfl, hsame⟩ := hrel
      have HS := Lib.hid hsame
      clear hsame
      by_cases hlt : k < xs.length
      · have hlt' : k < ys.length := by rw [← HL.out]; exact hlt
        obtain ⟨ad, rfl, _, p0, p1, p2⟩ := HA.out.three hlt
        obtain ⟨ad', rfl, _, q0, q1, q2⟩ := HA'.out.three hlt'
        obtain ⟨x, hx⟩ : ∃ x, xs[k] = x := ⟨_, rfl⟩
        obtain ⟨y, hy⟩ : ∃ y, ys[k] = y := ⟨_, rfl⟩
        rw [hx] at p0 p1 p2
        rw [hy] at q0 q1 q2
        have HX := Lib.hid hx
        have HY := Lib.hid hy
        clear hx hy
        have hne := fun w => neqEnt x y w
        by_cases hxy : x = y
        · simp only [decide_eq_true hxy, Bool.not_true] at hne
          have HXY := Lib.hid hxy
          clear hxy
          go_wp2
          go_quiet (fail)
          go_wp2
          go_roundw
          case rel =>
            refine ⟨k + 1, _, by omega, by go_num, rfl, fun j h1 h2 h3 => ?_⟩
            rcases Nat.lt_succ_iff_lt_or_eq.1 h3 with h | rfl
            · exact HS.out j h1 h2 h
            · exact HX.out.trans (HXY.out.trans HY.out.symm)
          case measure => simp [intOf]; omega
        · simp only [decide_eq_false hxy, Bool.not_false] at hne
          have HXY := Lib.hid hxy
          clear hxy
          go_wp2
          go_quiet (fail)
          go_wp2
          go_ret
          exact ⟨ret_bool (same_at xs ys k hlt hlt' (fun e => HXY.out (HX.out.symm.trans (e.trans HY.out)))).symm, _, World.drewN_drewN _ _ _⟩
      · go_wp2
        go_ret
        exact ⟨ret_bool (same_all xs ys HL.out fun j h1 h2 => HS.out j h1 h2 (by omega)).symm, _, rfl⟩
  · have hl' : ((((xs.length : Nat) : Int)) != ((ys.length : Nat) : Int)) = true := by rw [bne_iff_ne]; omega
    have HF := Lib.hid (show decide (xs = ys) = false from decide_eq_false (by rintro rfl; exact hl rfl))
    go_enter Tryz.func11, Tryz.ntmps11
    go_wp2
    go_ret
    exact ⟨ret_bool HF.out.symm, 0, rfl⟩
end Go.Proofs.YtepmkkeaidacmaaGreatDoor
