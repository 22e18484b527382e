/-
  The walk of strings.IndexRune on "cdrwa", at every rune.
-/
import Derived.Test.YtepmkkeaidacmaaGreatDoorWalk5
import Derived.Lib.Small
namespace Go.Proofs.YtepmkkeaidacmaaGreatDoor
open Go.RowKit

theorem abc_byte : ∀ k : Fin 5, ((B [99, 100, 114, 119, 97])[k.val]'(by show k.val < 5; exact k.isLt)).toNat < 128 := by decide
theorem valid_rune (r : Nat) (hv : Utf8.valid (r : Int) = true) : Lib.validRune (r : Int) = true := by
  unfold Lib.validRune
  simp only [Utf8.valid, Bool.or_eq_true, Bool.and_eq_true, decide_eq_true_eq] at hv
  exact decide_eq_true (by omega)

set_option maxHeartbeats 1600000 in
set_option maxRecDepth 100000 in
theorem indexRune_bad (w : World) :
    Calls Tryz.prog 41 #[.string (B [99, 100, 114, 119, 97]), .int .i32 65533] w fun e w' => e = .returned (.int .i64 (-1)) ∧ Below w.heap.size w w' := by
  go_enter Tryz.func41, Tryz.ntmps41
  go_wp2
  go_loopw [4] (fun _ wr => ∃ pos, wr = w.iter (B [99, 100, 114, 119, 97]) pos ∧ pos ≤ 5) (fun _ wr => 5 - wr.iterPos w.heap.size)
  case atStart => exact ⟨0, rfl, by omega⟩
  case round =>
    obtain ⟨pos, rfl, hpos⟩ := hrel
    by_cases hp : pos < 5
    · have hp' : pos < (B [99, 100, 114, 119, 97]).size := hp
      have hnx : ∀ ty, (Instr.next (.pointer (some ⟨w.heap.size, 0, none⟩)) true ty).run Tryz.prog (w.iter (B [99, 100, 114, 119, 97]) pos) = _ := fun ty => run_next_any w (B [99, 100, 114, 119, 97]) pos ty hp'
      have ha : ((B [99, 100, 114, 119, 97])[pos]).toNat < 128 := abc_byte ⟨pos, hp⟩
      rw [decode_ascii _ pos hp' ha] at hnx
      generalize (B [99, 100, 114, 119, 97])[pos] = b at *
      have hb : (((b.toNat : Nat) : Int) == 65533) = false := beq_eq_false_iff_ne.2 (by omega)
      go_wp2
      go_roundw
      case rel => exact ⟨pos + 1, rfl, by omega⟩
      case measure => simp; omega
    · have hp' : ¬ pos < (B [99, 100, 114, 119, 97]).size := hp
      have hnx : ∀ ty, (Instr.next (.pointer (some ⟨w.heap.size, 0, none⟩)) true ty).run Tryz.prog (w.iter (B [99, 100, 114, 119, 97]) pos) = _ := fun ty => run_next_end w (B [99, 100, 114, 119, 97]) pos ty hp'
      go_wp2
      go_ret
      exact ⟨rfl, below_iter (Below.refl _ _) (Nat.le_refl _) _ _⟩

theorem quiet_add {P : Program} {f : FuncId} {args : Array Value} {w : World} {a n : Nat} {v : Value}
    (h : Calls P f args (w.drewN (a + n)) fun e w' => e = .returned v ∧ w' = w.drewN (a + n)) :
    Calls P f args (w.drewN (a + n)) fun e w'' => e = .returned v ∧ ∃ m, w'' = w.drewN (a + m) :=
  h.mono fun _ _ ⟨he, hm⟩ => ⟨he, n, hm⟩
theorem indexByte_no (s : ByteArray) (c : UInt8) (h : c ∉ s.data.toList) (W : World) :
    Calls Tryz.prog 60 #[.string s, .int .u8 (c.toNat : Int)] W fun e w' => e = .returned (.int .i64 (-1)) ∧ w' = W := by
  have e : Lib.indexByte s.data.toList (((c.toNat : Nat) : Int)).toNat.toUInt8 = -1 := by
    have h1 : (((c.toNat : Nat) : Int)).toNat.toUInt8 = c := by simp
    rw [h1, ← Lib.index_one]
    exact index_no _ _ h
  have h := Tryz.strings_IndexByte s (c.toNat : Int) W
  rw [e] at h
  exact h
theorem abc_tail (c : UInt8) (h : 128 ≤ c.toNat) (a : Nat) : c ∉ ((B [99, 100, 114, 119, 97]).extract a 5).data.toList := by
  rw [Lib.extract_data]
  intro hm
  have hm : c ∈ (B [99, 100, 114, 119, 97]).data.toList := by
    first
      | exact List.mem_of_mem_take (List.mem_of_mem_drop hm)
      | exact List.mem_of_mem_drop (List.mem_of_mem_take hm)
  rw [B_data] at hm
  simp only [List.mem_cons, List.mem_nil_iff, or_false] at hm
  rcases hm with rfl | rfl | rfl | rfl | rfl <;> exact absurd h (by decide)

set_option maxHeartbeats 3200000 in
set_option maxRecDepth 100000 in
theorem indexRune_high (r : Nat) (h : 128 ≤ r) (he : r ≠ 65533) (hv : Utf8.valid (r : Int) = true) (w : World) :
    Calls Tryz.prog 41 #[.string (B [99, 100, 114, 119, 97]), .int .i32 r] w fun e w' => e = .returned (.int .i64 (-1)) ∧ Below w.heap.size w w' := by
  have k1 : ¬ (r : Int) < 128 := by omega
  have k0 : (0 : Int) ≤ r := by omega
  have k2 : ((r : Int) == 65533) = false := beq_eq_false_iff_ne.2 (by omega)
  have V := Tryz.utf8_ValidRune (r : Int) w
  rw [valid_rune r hv] at V
  have HV := Lib.hid V
  clear V
  obtain ⟨n2, n4, hj⟩ := encode_spans r h hv
  obtain ⟨rs, hrs⟩ : ∃ rs, Utf8.encode (r : Int) = rs := ⟨_, rfl⟩
  rw [hrs] at n2 n4
  simp only [hrs] at hj
  clear he hv
  have hn : rs.size = 2 ∨ rs.size = 3 ∨ rs.size = 4 := by omega
  clear n2 n4
  rcases hn with hn | hn | hn
  · go_enter Tryz.func41, Tryz.ntmps41
    go_wp2_with fail
    refine HV.out.mono ?_
    rintro e w' ⟨rfl, rfl⟩
    go_wp2_with fail
    go_step3
    go_wp2
    go_loop [9] (fun i => i = .int .i64 1) (fun _ => 0)
    case atStart => rfl
    case round =>
      subst hrel
      have hz : (B [99, 100, 114, 119, 97]).size = 5 := rfl
      have hj1 := hj 1 (by omega)
      clear hj
      have ha1 := abc_byte ⟨1, by decide⟩
      simp only at ha1
      have ht : ((((B [99, 100, 114, 119, 97])[1]'(by show 1 < 5; decide)).toNat : Int) != ((rs[1]'(by omega)).toNat : Int)) = true := by rw [bne_iff_ne]; omega
      have hI := Lib.hid fun W => indexByte_no ((B [99, 100, 114, 119, 97]).extract 2 5) (rs[1]'(by omega)) (abc_tail _ hj1 2) W
      clear ha1
      go_wp2_with fail
      go_step3
      go_wp2
      go_quiet (fail)
      go_wp2
      go_quiet ((go_at_call 60; exact quiet_add (hI.out _)))
      go_wp2
      rw [Exit.noGoto_ret]
      simp +zetaDelta only [Exit.inBlock, Exit.then, Exit.noGoto]
      go_ret
      exact ⟨rfl, below_drewN (Below.refl _ _) _⟩
  · go_enter Tryz.func41, Tryz.ntmps41
    go_wp2_with fail
    refine HV.out.mono ?_
    rintro e w' ⟨rfl, rfl⟩
    go_wp2_with fail
    go_step3
    go_wp2
    go_loop [9] (fun i => i = .int .i64 2) (fun _ => 0)
    case atStart => rfl
    case round =>
      subst hrel
      have hz : (B [99, 100, 114, 119, 97]).size = 5 := rfl
      have hj1 := hj 2 (by omega)
      clear hj
      have ha1 := abc_byte ⟨2, by decide⟩
      simp only at ha1
      have ht : ((((B [99, 100, 114, 119, 97])[2]'(by show 2 < 5; decide)).toNat : Int) != ((rs[2]'(by omega)).toNat : Int)) = true := by rw [bne_iff_ne]; omega
      have hI := Lib.hid fun W => indexByte_no ((B [99, 100, 114, 119, 97]).extract 3 5) (rs[2]'(by omega)) (abc_tail _ hj1 3) W
      clear ha1
      go_wp2_with fail
      go_step3
      go_wp2
      go_quiet (fail)
      go_wp2
      go_quiet ((go_at_call 60; exact quiet_add (hI.out _)))
      go_wp2
      rw [Exit.noGoto_ret]
      simp +zetaDelta only [Exit.inBlock, Exit.then, Exit.noGoto]
      go_ret
      exact ⟨rfl, below_drewN (Below.refl _ _) _⟩
  · go_enter Tryz.func41, Tryz.ntmps41
    go_wp2_with fail
    refine HV.out.mono ?_
    rintro e w' ⟨rfl, rfl⟩
    go_wp2_with fail
    go_step3
    go_wp2
    go_loop [9] (fun i => i = .int .i64 3) (fun _ => 0)
    case atStart => rfl
    case round =>
      subst hrel
      have hz : (B [99, 100, 114, 119, 97]).size = 5 := rfl
      have hj1 := hj 3 (by omega)
      clear hj
      have ha1 := abc_byte ⟨3, by decide⟩
      simp only at ha1
      have ht : ((((B [99, 100, 114, 119, 97])[3]'(by show 3 < 5; decide)).toNat : Int) != ((rs[3]'(by omega)).toNat : Int)) = true := by rw [bne_iff_ne]; omega
      have hI := Lib.hid fun W => indexByte_no ((B [99, 100, 114, 119, 97]).extract 4 5) (rs[3]'(by omega)) (abc_tail _ hj1 4) W
      clear ha1
      go_wp2_with fail
      go_step3
      go_wp2
      go_quiet (fail)
      go_wp2
      go_quiet ((go_at_call 60; exact quiet_add (hI.out _)))
      go_wp2
      rw [Exit.noGoto_ret]
      simp +zetaDelta only [Exit.inBlock, Exit.then, Exit.noGoto]
      go_ret
      exact ⟨rfl, below_drewN (Below.refl _ _) _⟩
end Go.Proofs.YtepmkkeaidacmaaGreatDoor
