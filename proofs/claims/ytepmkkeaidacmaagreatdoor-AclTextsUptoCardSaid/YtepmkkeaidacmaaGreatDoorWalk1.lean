/-
  The walks of the small functions of package acl: text, digest, decimal, address, network, Right.
-/
import Derived.Test.YtepmkkeaidacmaaGreatDoorLib
import Derived.Test.YtepmkkeaidacmaaGreatDoorUtf
import Derived.Lib.RuneCount
import Derived.Lib.OthersKept
namespace Go.Proofs.YtepmkkeaidacmaaGreatDoor
open Go.RowKit

theorem no_calls (n : Int) (w : World) : Calls Tryz.prog 7 #[.int .i64 n] w fun e w' => e = .returned (.int .i64 n) ∧ w = w' := by
  go_enter Tryz.func7, Tryz.ntmps7
  go_wp2
  go_ret
  exact ⟨rfl, rfl⟩

theorem letters_calls (w : World) : Calls Tryz.prog 12 #[] w fun e w' => e = .returned (.tuple #[.string ⟨#[99, 100, 114, 119, 97]⟩, .agg #[.int .i32 4, .int .i32 8, .int .i32 1, .int .i32 2, .int .i32 16]]) ∧ Below w.heap.size w w' := by
  go_enter Tryz.func12, Tryz.ntmps12
  go_wp2
  refine bodyPost_ret (v := .tuple #[.string ⟨#[99, 100, 114, 119, 97]⟩, .agg #[.int .i32 4, .int .i32 8, .int .i32 1, .int .i32 2, .int .i32 16]]) (by simp [results, Tryz.results12, go_sem]) rfl ⟨rfl, ?_⟩
  exact (Below.refl _ _).alloc (Nat.le_refl _) _

theorem world_calls (n : Int) (w : World) : Calls Tryz.prog 18 #[.int .i32 n] w fun e w' => e = .returned (.agg #[.int .i32 n, .string (B bWorld), .string (B bAnyone)]) ∧ Below w.heap.size w w' := by
  go_enter Tryz.func18, Tryz.ntmps18
  go_wp2
  refine bodyPost_ret (v := .agg #[.int .i32 n, .string ⟨#[119, 111, 114, 108, 100]⟩, .string ⟨#[97, 110, 121, 111, 110, 101]⟩]) (by simp [results, Tryz.results18, go_sem]) rfl ⟨rfl, ?_⟩
  exact (Below.refl _ _).alloc (Nat.le_refl _) _

/-! ### text -/
theorem getD_getElem (l : List UInt8) (i : Nat) (h : i < l.length) : l.getD i 0 = l[i] := by
  simp [List.getD, List.getElem?_eq_getElem h]
theorem B_get (l : List UInt8) (i : Nat) (h : i < (B l).size) : (B l)[i] = l[i]'(by rw [B_size] at h; exact h) := rfl
theorem B_get! (l : List UInt8) (i : Nat) (h : i < l.length) : (B l).get! i = l[i] := by
  show (B l).data[i]! = _
  rw [getElem!_pos (B l).data i (by simpa [B] using h)]
  rfl

theorem all_take (l : List UInt8) (n : Nat) (h : n < l.length) (h1 : (l.take n).all okByte = true) (h2 : okByte l[n] = true) : (l.take (n + 1)).all okByte = true := by
  rw [List.take_succ_eq_append_getElem h, List.all_append, h1]
  simp [h2]
theorem all_more (l : List UInt8) (n : Nat) : ∀ k, n + k ≤ l.length → (l.take n).all okByte = true → (∀ j (hj : n + j < l.length), j < k → okByte (l[n + j]) = true) → (l.take (n + k)).all okByte = true
  | 0, _, h, _ => h
  | k + 1, hk, h, hh => all_take l (n + k) (by omega) (all_more l n k (by omega) h fun j hj hjk => hh j hj (by omega)) (hh k (by omega) (by omega))
theorem okByte_high (b : UInt8) (h : 128 ≤ b.toNat) : okByte b = true := by
  unfold okByte
  simp only [Bool.and_eq_true, Bool.not_eq_true', decide_eq_false_iff_not]
  omega
theorem all_not (l : List UInt8) (n : Nat) (h : n < l.length) (hb : okByte l[n] = false) : l.all okByte = false := by
  cases hc : l.all okByte
  · rfl
  · have := List.all_eq_true.1 hc l[n] (List.getElem_mem h)
    rw [hb] at this
    cases this

theorem empty_B (l : List UInt8) : (B l).toList.isEmpty = l.isEmpty := by rw [B_toList]

theorem textL_nil : textL [] = false := rfl
theorem textL_long (l : List UInt8) (h : 256 < l.length) : textL l = false := by
  unfold textL
  rw [show decide (l.length ≤ 256) = false from decide_eq_false (by omega)]
  simp
theorem textL_bad (l : List UInt8) (h : Lib.validD l = false) : textL l = false := by
  unfold textL
  rw [h]
  simp
theorem textL_all (l : List UInt8) (h0 : l ≠ []) (h1 : l.length ≤ 256) (h2 : Lib.validD l = true) : textL l = l.all okByte := by
  unfold textL
  rw [h2, decide_eq_true h1]
  cases l with
  | nil => exact absurd rfl h0
  | cons a l => simp

theorem ret_bool {a b : Bool} (h : a = b) : Ending.returned (.bool a) = .returned (.bool b) := by rw [h]
theorem below_iter {b : Nat} {w w1 : World} (h : Below b w w1) (hb : b ≤ w1.heap.size) (s : ByteArray) (pos : Nat) : Below b w (w1.iter s pos) := h.alloc hb _

theorem okByte_cases (b : UInt8) : (okByte b = false ∧ ((b.toNat : Int) < 33 ∨ b.toNat = 127 ∨ b.toNat = 44)) ∨
    (okByte b = true ∧ ¬ (b.toNat : Int) < 33 ∧ ((b.toNat : Int) == 127) = false ∧ ((b.toNat : Int) == 44) = false) := by
  unfold okByte
  by_cases h1 : b.toNat < 33
  · exact .inl ⟨by simp [h1], .inl (by omega)⟩
  · by_cases h2 : b.toNat = 127
    · exact .inl ⟨by simp [h2], .inr (.inl h2)⟩
    · by_cases h3 : b.toNat = 44
      · exact .inl ⟨by simp [h3], .inr (.inr h3)⟩
      · exact .inr ⟨by simp [h1, h2, h3], by omega, beq_eq_false_iff_ne.2 (by omega), beq_eq_false_iff_ne.2 (by omega)⟩

/-- The loop over the runes of a text: behind 'pos' bytes that may all stand there. -/
def TextRel (l : List UInt8) (w1 : World) (wr : World) : Prop := ∃ pos, wr = w1.iter (B l) pos ∧ pos ≤ l.length ∧ (l.take pos).all okByte = true

set_option maxHeartbeats 800000 in
theorem text_calls (l : List UInt8) (hl : l.length ≤ 4294967280) (w : World) (he : Env w) :
    Calls Tryz.prog 24 #[.string (B l)] w fun e w' => e = .returned (.bool (textL l)) ∧ Below w.heap.size w w' := by
  have hsz : (B l).size = l.length := B_size l
  by_cases h0 : l = []
  · subst h0
    have e1 : (B []).toList.isEmpty = true := by rw [empty_B]; rfl
    go_enter Tryz.func24, Tryz.ntmps24
    go_wp2
    go_ret
    exact ⟨ret_bool textL_nil.symm, Below.refl _ _⟩
  · have e1 : (B l).toList.isEmpty = false := by rw [empty_B]; cases l with
      | nil => exact absurd rfl h0
      | cons a l => rfl
    have e2 : (B l).toList ≠ [] := by rw [B_toList]; exact h0
    by_cases h1 : 256 < l.length
    · have e3 : decide ((256 : Int) < (l.length : Int)) = true := decide_eq_true (by omega)
      go_enter Tryz.func24, Tryz.ntmps24
      go_wp2
      go_ret
      exact ⟨ret_bool (textL_long l h1).symm, Below.refl _ _⟩
    · have e3 : decide ((256 : Int) < (l.length : Int)) = false := decide_eq_false (by omega)
      have hv := Lib.hid (lib_valid l hl w he)
      cases h2 : Lib.validD l with
      | false =>
        have H2 := Lib.hid h2
        clear h2
        go_enter Tryz.func24, Tryz.ntmps24
        go_wp2_with (go_at_call 42; refine hv.out.mono ?_; rintro e w1 ⟨rfl, hb⟩; rw [H2.out])
        go_wp2
        go_ret
        exact ⟨ret_bool (textL_bad l H2.out).symm, hb⟩
      | true =>
        have H2 := Lib.hid h2
        clear h2
        have H3 := Lib.hid (textL_all l h0 (by omega) H2.out)
        go_enter Tryz.func24, Tryz.ntmps24
        go_wp2_with (go_at_call 42; refine hv.out.mono ?_; rintro e w1 ⟨rfl, hb⟩; rw [H2.out])
        have hws := hb.size
        go_wp2
        go_loopw [4] (fun _ wr => TextRel l w1 wr) (fun _ wr => l.length - wr.iterPos w1.heap.size)
        case atStart => exact ⟨0, rfl, Nat.zero_le _, rfl⟩
        case round =>
          obtain ⟨pos, rfl, hpos, hall⟩ := hrel
          by_cases hp : pos < l.length
          · have hp' : pos < (B l).size := by rw [hsz]; exact hp
            have hnx : ∀ ty, (Instr.next (.pointer (some ⟨w1.heap.size, 0, none⟩)) true ty).run Tryz.prog (w1.iter (B l) pos) = _ := fun ty => run_next_any w1 (B l) pos ty hp'
            by_cases ha : (l[pos]).toNat < 128
            · have hd := decode_ascii (B l) pos hp' ha
              rw [hd] at hnx
              simp only [B_get] at hnx
              generalize hbb : l[pos] = b at *
              have HB := Lib.hid hbb
              have HA := Lib.hid hall
              clear hd hbb hall
              rcases okByte_cases b with ⟨hk, hc⟩ | ⟨hk, k1, k2, k3⟩
              · have HK := Lib.hid hk
                clear hk
                have HF := Lib.hid (all_not l pos hp ((congrArg okByte HB.out).trans HK.out))
                rcases hc with c | c | c
                · go_wp2
                  go_ret
                  exact ⟨ret_bool (by rw [H3.out, HF.out]), below_iter hb hws _ _⟩
                · have c' : ¬ (b.toNat : Int) < 33 := by omega
                  have c2 : ((b.toNat : Int) == 127) = true := beq_iff_eq.2 (by omega)
                  clear c
                  go_wp2
                  go_ret
                  exact ⟨ret_bool (by rw [H3.out, HF.out]), below_iter hb hws _ _⟩
                · have c' : ¬ (b.toNat : Int) < 33 := by omega
                  have c2 : ((b.toNat : Int) == 127) = false := beq_eq_false_iff_ne.2 (by omega)
                  have c3 : ((b.toNat : Int) == 44) = true := beq_iff_eq.2 (by omega)
                  clear c
                  go_wp2
                  go_ret
                  exact ⟨ret_bool (by rw [H3.out, HF.out]), below_iter hb hws _ _⟩
              · have HK := Lib.hid hk
                clear hk
                go_wp2
                go_roundw
                case rel => exact ⟨pos + 1, rfl, by omega, all_take l pos hp HA.out ((congrArg okByte HB.out).trans HK.out)⟩
                case measure => simp; omega
            · have hd := decode_spans (B l) pos hp' (by show 128 ≤ ((B l).get! pos).toNat; rw [B_get! l pos hp]; omega)
              obtain ⟨d1, d2, d3, d4, d5⟩ := hd
              rw [hsz] at d2
              have hstep : (l.take (pos + (Utf8.decode (B l) pos).2)).all okByte = true := all_more l pos _ d2 hall fun j hj hjn => by
                have := d3 j hjn
                rw [B_get! l (pos + j) hj] at this
                exact okByte_high _ this
              have HS := Lib.hid hstep
              clear hstep hall d3 d5
              generalize (Utf8.decode (B l) pos).1 = r at *
              generalize (Utf8.decode (B l) pos).2 = n at *
              have k1 : ¬ (r : Int) < 33 := by omega
              have k2 : ((r : Int) == 127) = false := beq_eq_false_iff_ne.2 (by omega)
              have k3 : ((r : Int) == 44) = false := beq_eq_false_iff_ne.2 (by omega)
              go_wp2
              go_roundw
              case rel => exact ⟨pos + n, rfl, d2, HS.out⟩
              case measure => simp; omega
          · have hp' : ¬ pos < (B l).size := by rw [hsz]; exact hp
            have hnx : ∀ ty, (Instr.next (.pointer (some ⟨w1.heap.size, 0, none⟩)) true ty).run Tryz.prog (w1.iter (B l) pos) = _ := fun ty => run_next_end w1 (B l) pos ty hp'
            have HA := Lib.hid hall
            clear hall
            go_wp2
            go_ret
            refine ⟨ret_bool ?_, below_iter hb hws _ _⟩
            have := HA.out
            rw [List.take_of_length_le (by omega)] at this
            rw [H3.out, this]
end Go.Proofs.YtepmkkeaidacmaaGreatDoor
