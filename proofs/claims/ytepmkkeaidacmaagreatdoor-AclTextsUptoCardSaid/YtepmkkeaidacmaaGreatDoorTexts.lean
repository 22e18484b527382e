/-
  The walk of AclTexts: the text of any list, the list of any text.
-/
import Derived.Test.YtepmkkeaidacmaaGreatDoorRef4
import Derived.Test.YtepmkkeaidacmaaGreatDoorRef6
import Derived.Test.YtepmkkeaidacmaaGreatDoorLive4
namespace Go.Proofs.YtepmkkeaidacmaaGreatDoor
open Go.RowKit

/-- What both Texts answer. -/
def textOut (es : List Ent) : ByteArray × Int := if es.all Ent.right = true then (B (textOf es), 0) else (⟨#[]⟩, 60)
theorem text_out {es : List Ent} {e : Ending} (h : TextEnds es e) {x : ByteArray} {n : Int} (hx : textOut es = (x, n)) : e = .returned (.tuple #[.string x, .int .i64 n]) := by
  unfold TextEnds at h
  unfold textOut at hx
  by_cases hr : es.all Ent.right = true
  · rw [if_pos hr] at h hx
    cases hx
    exact h
  · rw [if_neg hr] at h hx
    cases hx
    exact h
theorem same_own (xs : List Ent) (A A' : Option Addr) (c c' b b' : Nat) (hn : xs.length ≤ 4294967280) (w : World) (hA : Acls w b A xs) (hA' : Acls w b' A' xs) :
    Calls Tryz.prog 11 #[.slice A xs.length c, .slice A' xs.length c'] w fun e w' => e = .returned (.bool true) ∧ ∃ q, w' = w.drewN q :=
  (same_calls xs xs A A' c c' b b' hn hn w hA hA').mono fun _ _ ⟨h1, h2⟩ => ⟨by rw [h1, decide_eq_true rfl], h2⟩
theorem below_drawn {b : Nat} {w w1 : World} (h : Below b w w1) (n : Nat) : Below b w (w1.drewN n) := ⟨h.os, h.tape, h.output, h.size, h.block⟩

set_option maxHeartbeats 3200000 in
set_option maxRecDepth 100000 in
theorem texts_calls (es : List Ent) (A : Option Addr) (c : Nat) (hc : A = none → c = 0) (l : List UInt8) (hn : es.length ≤ 1048576) (hs : ∀ e ∈ es, e.sc.length ≤ 4294967280 ∧ e.id.length ≤ 4294967280) (hl : l.length ≤ 4294967280)
    (w : World) (he : Env w) (hA : Acls w w.heap.size A es) :
    Calls Tryz.prog 3 #[.slice A es.length c, .string (B l)] w fun e w' => e = .returned (.bool true) ∧ Below w.heap.size w w' := by
  have HA := Lib.hid hA
  clear hA
  have L := Lib.hid fun W hW => live_calls W hW
  have N := Lib.hid fun n W => no_calls n W
  have O := Lib.hid (own_calls es A c hn hc w HA.out)
  obtain ⟨⟨x, n⟩, hx⟩ : ∃ p, textOut es = p := ⟨_, rfl⟩
  have HX := Lib.hid hx
  have HS := Lib.hid hs
  clear hs hx
  have HL := Lib.hid hl
  have HN := Lib.hid hn
  go_enter Tryz.func3, Tryz.ntmps3
  go_wp2_with fail
  refine O.out.mono ?_
  rintro e w1 ⟨⟨A1, c1, rfl, hA1⟩, hb1⟩
  have B1 := Lib.hid hb1
  have T := Lib.hid (text_list_calls es A1 c1 HN.out HS.out w1 (he.below hb1) hA1)
  clear hA1 hb1
  go_wp2_with fail
  refine T.out.mono ?_
  rintro e w2 ⟨h2, hb2⟩
  obtain rfl := text_out h2 HX.out
  have B2 := Lib.hid (B1.out.trans (hb2.mono B1.out.size))
  have R := Lib.hid (refTextList_calls es A c HN.out HS.out w2 ((HA.out.below B2.out).more B2.out.size))
  clear h2 hb2 T O
  go_wp2_with fail
  refine R.out.mono ?_
  rintro e w3 ⟨h3, hb3⟩
  obtain rfl := text_out h3 HX.out
  have B3 := Lib.hid (B2.out.trans (hb3.mono B2.out.size))
  clear h3 hb3 R
  go_wp2_with fail
  refine (N.out _ _).mono ?_; rintro e _ ⟨rfl, rfl⟩
  go_wp2_with fail
  refine (L.out _ (he.below B3.out)).mono ?_
  rintro e w4 ⟨rfl, hb4⟩
  have B4 := Lib.hid (B3.out.trans (hb4.mono B3.out.size))
  clear hb4
  go_wp2_with fail
  refine (parse_calls l HL.out w4 (he.below B4.out)).mono ?_
  rintro e w5 ⟨h5, hb5⟩
  have B5 := Lib.hid (B4.out.trans (hb5.mono B4.out.size))
  clear hb5
  unfold ParseEnds at h5
  have P := Lib.hid (refParse_calls l HL.out w5)
  cases hp : parseOf l with
  | none =>
    rw [hp] at h5
    have HP := Lib.hid hp
    clear hp
    subst h5
    go_wp2_with fail
    refine P.out.mono ?_
    rintro e w6 ⟨h6, hb6⟩
    have B6 := Lib.hid (B5.out.trans (hb6.mono B5.out.size))
    unfold ParseEnds at h6
    rw [HP.out] at h6
    subst h6
    have S := Lib.hid (same_own [] none none 0 0 w6.heap.size w6.heap.size (by decide) w6 (Acls.nil _ _ _) (Acls.nil _ _ _))
    clear hb6
    go_wp2_with fail
    refine S.out.mono ?_
    rintro e _ ⟨rfl, q, rfl⟩
    go_wp2_with fail
    refine (N.out _ _).mono ?_; rintro e _ ⟨rfl, rfl⟩
    go_wp2_with fail
    refine bodyPost_ret (v := .bool true) (by simp [results, Tryz.results3, go_sem]) rfl ⟨rfl, below_drawn B6.out q⟩
  | some fs =>
    rw [hp] at h5
    obtain ⟨A5, c5, rfl, hA5⟩ := h5
    obtain ⟨_, hf, _⟩ := parse_right hp
    have HP := Lib.hid hp
    have HA5 := Lib.hid hA5
    clear hp hA5
    go_wp2_with fail
    refine P.out.mono ?_
    rintro e w6 ⟨h6, hb6⟩
    have B6 := Lib.hid (B5.out.trans (hb6.mono B5.out.size))
    unfold ParseEnds at h6
    rw [HP.out] at h6
    obtain ⟨A6, c6, rfl, hA6⟩ := h6
    have S := Lib.hid (same_own fs A5 A6 c5 c6 w5.heap.size w6.heap.size (by omega) w6 (HA5.out.below hb6) hA6)
    clear hb6 hA6
    go_wp2_with fail
    refine S.out.mono ?_
    rintro e _ ⟨rfl, q, rfl⟩
    go_wp2_with fail
    refine (N.out _ _).mono ?_; rintro e _ ⟨rfl, rfl⟩
    go_wp2_with fail
    refine bodyPost_ret (v := .bool true) (by simp [results, Tryz.results3, go_sem]) rfl ⟨rfl, below_drawn B6.out q⟩
end Go.Proofs.YtepmkkeaidacmaaGreatDoor
