/-
  The walk of AclBack: texts there and back.
-/
import Derived.Test.YtepmkkeaidacmaaDoorWalk8
import Derived.Test.YtepmkkeaidacmaaDoorLive4
import Derived.Deep.Cut
namespace Go.Proofs.YtepmkkeaidacmaaDoor
open Go.RowKit

theorem right_len {a : Ent} (h : a.right = true) : a.sc.length ≤ 256 ∧ a.id.length ≤ 256 := by
  obtain ⟨_, _, _, h1, h2⟩ := rightL_parts h
  exact ⟨textL_size h1, textL_size h2⟩
theorem letters_len (p : Nat) : (lettersN p letterTab).length ≤ 5 := by
  unfold lettersN
  rw [List.length_map]
  exact Nat.le_trans (List.length_filter_le _ _) (by decide)
theorem text_len {a : Ent} (h : a.right = true) : a.text.length ≤ 519 := by
  have := right_len h
  have := letters_len a.p.toNat
  simp only [Ent.text, List.length_append, List.length_cons]
  omega
theorem joined_len (c : UInt8) (m : Nat) : ∀ l : List (List UInt8), (∀ x ∈ l, x.length ≤ m) → (Lib.join l [c]).length ≤ l.length * (m + 1)
  | [], _ => by simp [Lib.join_nil]
  | [x], h => by
    have := h x (by simp)
    rw [Lib.join_one]
    simp only [List.length_cons, List.length_nil]
    omega
  | x :: y :: l, h => by
    have h1 := h x (by simp)
    have h2 := joined_len c m (y :: l) (fun z hz => h z (by simp [hz]))
    have e : Lib.join (x :: y :: l) [c] = x ++ c :: Lib.join (y :: l) [c] := by
      rw [Lib.join_cons, Lib.join_cons]
      simp [Lib.joinTail]
    rw [e]
    simp only [List.length_append, List.length_cons, Nat.add_mul] at h2 ⊢
    omega
theorem textOf_len {l : List Ent} (h : ∀ a ∈ l, a.right = true) (hn : l.length ≤ 16) : (textOf l).length ≤ 4294967280 := by
  have h1 := joined_len 44 519 (l.map Ent.text) (fun x hx => by
    obtain ⟨a, ha, rfl⟩ := List.mem_map.1 hx
    exact text_len (h a ha))
  rw [List.length_map] at h1
  have : l.length * (519 + 1) ≤ 16 * 520 := Nat.mul_le_mul hn (by decide)
  unfold textOf
  omega
theorem all_right {l : List Ent} (h : ∀ a ∈ l, a.right = true) : l.all Ent.right = true := List.all_eq_true.2 h
theorem text_right {es : List Ent} {A : Option Addr} {c : Nat} {w : World} (h : ∀ a ∈ es, a.right = true) (hn : es.length ≤ 1048576) (he : Env w) (hA : Acls w w.heap.size A es) :
    Calls Tryd.prog 5 #[.slice A es.length c] w fun e w' => e = .returned (.tuple #[.string (B (textOf es)), .int .i64 0]) ∧ Below w.heap.size w w' :=
  (text_list_calls es A c hn (fun e he => ⟨Nat.le_trans (right_len (h e he)).1 (by decide), Nat.le_trans (right_len (h e he)).2 (by decide)⟩) w he hA).mono fun e w' ⟨h1, h2⟩ => by
    unfold TextEnds at h1
    rw [if_pos (all_right h)] at h1
    exact ⟨h1, h2⟩
theorem parse_back {es : List Ent} {w : World} (h : ∀ a ∈ es, a.right = true) (hn : es.length ≤ 16) (he : Env w) :
    Calls Tryd.prog 7 #[.string (B (textOf es))] w fun e w' => (∃ A c, e = .returned (.tuple #[.slice A es.length c, .int .i64 0]) ∧ Acls w' w'.heap.size A es) ∧ Below w.heap.size w w' :=
  (parse_calls (textOf es) (textOf_len h hn) w he).mono fun e w' ⟨h1, h2⟩ => by
    unfold ParseEnds at h1
    rw [parse_text es h hn] at h1
    exact ⟨h1, h2⟩

theorem same_self (xs : List Ent) (A A' : Option Addr) (c c' b b' : Nat) (hn : xs.length ≤ 4294967280) (w : World) (hA : Acls w b A xs) (hA' : Acls w b' A' xs) :
    Calls Tryd.prog 8 #[.slice A xs.length c, .slice A' xs.length c'] w fun e w' => e = .returned (.bool true) ∧ ∃ q, w' = w.drewN q :=
  (same_calls xs xs A A' c c' b b' hn hn w hA hA').mono fun _ _ ⟨h1, h2⟩ => ⟨by rw [h1, decide_eq_true rfl], h2⟩

theorem below_drawn {b : Nat} {w w1 : World} (h : Below b w w1) (n : Nat) : Below b w (w1.drewN n) := ⟨h.os, h.tape, h.output, h.size, h.block⟩

theorem said_empty {l : List UInt8} {fs : List Ent} (h : l ≠ [] ↔ 0 < fs.length) : ((!(B l).toList.isEmpty) == decide (0 < fs.length)) = true := by
  rw [empty_B, beq_iff_eq]
  cases l with
  | nil => simpa using h
  | cons a l => simpa using h

set_option maxHeartbeats 3200000 in
set_option maxRecDepth 100000 in
theorem back_calls (es : List Ent) (A : Option Addr) (c : Nat) (l : List UInt8) (hn : es.length ≤ 1048576) (hs : ∀ e ∈ es, e.sc.length ≤ 4294967280 ∧ e.id.length ≤ 4294967280) (hl : l.length ≤ 4294967280)
    (w : World) (he : Env w) (hA : Acls w w.heap.size A es) :
    Calls Tryd.prog 3 #[.slice A es.length c, .string (B l)] w fun e w' => e = .returned (.bool true) ∧ Below w.heap.size w w' := by
  have HA := Lib.hid hA
  clear hA
  have L := Lib.hid fun W => live_calls W
  have N := Lib.hid fun n W => no_calls n W
  have HS := Lib.hid hs
  clear hs
  go_enter Tryd.func3, Tryd.ntmps3
  go_wp2_with fail
  refine (L.out w he).mono ?_; rintro e w1 ⟨rfl, hb1⟩
  have B1 := Lib.hid hb1
  clear hb1
  go_upto_region 3 with fail
  go_cut [5, 6] from 12 (fun t e wx => e = .int .i64 (if es.all Ent.right = true then 0 else 60) ∧ (∃ x, t = .string (B x) ∧ (es.all Ent.right = true → x = textOf es)) ∧ Below w.heap.size w wx)
  case first =>
    go_wp2_with fail
    refine (text_list_calls es A c hn HS.out w1 (he.below B1.out) ((HA.out.below B1.out).more B1.out.size)).mono ?_
    rintro e w2 ⟨h2, hb2⟩
    have B2 := Lib.hid (B1.out.trans (hb2.mono B1.out.size))
    clear hb2
    unfold TextEnds at h2
    by_cases hr : es.all Ent.right = true
    · rw [if_pos hr] at h2
      subst h2
      go_wp2_with fail
      go_meet
      exact ⟨by rw [if_pos hr], ⟨_, rfl, fun _ => rfl⟩, B2.out⟩
    · rw [if_neg hr] at h2
      subst h2
      go_wp2_with fail
      go_meet
      exact ⟨by rw [if_neg hr], ⟨[], rfl, fun h => absurd h hr⟩, B2.out⟩
  case rest =>
    obtain ⟨rfl, ⟨x, rfl, hx⟩, hb2⟩ := hcut
    have X := Lib.hid hx
    have B2 := Lib.hid hb2
    clear hx hb2
    go_upto_region 4 with fail
    go_cut [6, 26] from 12 (fun s6 s26 wx => (∃ k, s6 = .int .i64 k) ∧ s26 = .bool (decide (es.all Ent.right = true ∧ es.length ≤ 16)) ∧ Below w.heap.size w wx)
    case first =>
      by_cases hr : es.all Ent.right = true
      · have H := Lib.hid hr
        rw [if_pos hr]
        clear hr
        go_wp2_with fail
        refine (N.out _ _).mono ?_; rintro e _ ⟨rfl, rfl⟩
        go_wp2_with fail
        go_meet
        refine ⟨⟨_, rfl⟩, congrArg Value.bool ?_, B2.out⟩
        exact decide_eq_decide.2 ⟨fun h => ⟨H.out, by omega⟩, fun h => by have := h.2; omega⟩
      · have H := Lib.hid hr
        rw [if_neg hr]
        clear hr
        go_wp2_with fail
        refine (N.out _ _).mono ?_; rintro e _ ⟨rfl, rfl⟩
        go_wp2_with fail
        go_meet
        refine ⟨⟨_, rfl⟩, congrArg Value.bool ?_, B2.out⟩
        rw [eq_comm, decide_eq_false_iff_not]
        exact fun h => H.out h.1
    case rest =>
      obtain ⟨⟨k6, rfl⟩, rfl, hb3⟩ := hcut
      have B3 := Lib.hid hb3
      clear hb3 B2
      go_upto_if 26 with fail
      go_cut [] from 12 (fun wx => Below w.heap.size w wx)
      case first =>
        by_cases hr : es.all Ent.right = true ∧ es.length ≤ 16
        · have hR : ∀ a ∈ es, a.right = true := List.all_eq_true.1 hr.1
          obtain rfl : x = textOf es := X.out hr.1
          have P := Lib.hid (parse_back hR hr.2 (he.below B3.out))
          rw [decide_eq_true hr]
          clear hr hR
          go_wp2_with fail
          refine P.out.mono ?_
          rintro e w4 ⟨⟨A4, c4, rfl, hA4⟩, hb4⟩
          have S := Lib.hid (same_self es A4 A c4 c w4.heap.size w.heap.size (by omega) w4 hA4 (HA.out.below (B3.out.trans (hb4.mono B3.out.size))))
          have B4 := Lib.hid (B3.out.trans (hb4.mono B3.out.size))
          clear hA4 hb4
          go_wp2_with fail
          refine (N.out _ _).mono ?_; rintro e _ ⟨rfl, rfl⟩
          go_wp2_with fail
          refine S.out.mono ?_
          rintro e _ ⟨rfl, q, rfl⟩
          go_wp2_with fail
          go_meet
          exact below_drawn B4.out q
        · rw [decide_eq_false hr]
          clear hr
          go_wp2_with fail
          go_meet
          exact B3.out
      case rest =>
        have B4 := Lib.hid hcut
        clear hcut B3 X HS HA
        go_wp2_with fail
        refine (parse_calls l hl wc (he.below B4.out)).mono ?_
        rintro e w5 ⟨h5, hb5⟩
        have B5 := Lib.hid (B4.out.trans (hb5.mono B4.out.size))
        clear hb5
        unfold ParseEnds at h5
        cases hp : parseOf l with
        | none =>
          rw [hp] at h5
          clear hp
          subst h5
          go_wp2_with fail
          refine (N.out _ _).mono ?_; rintro e _ ⟨rfl, rfl⟩
          go_wp2_with fail
          refine bodyPost_ret (v := .bool true) (by simp [results, Tryd.results3, go_sem]) rfl ⟨rfl, B5.out⟩
        | some fs =>
          rw [hp] at h5
          obtain ⟨A5, c5, rfl, hA5⟩ := h5
          obtain ⟨hr, hf, hne⟩ := parse_right hp
          clear hp
          have HR := Lib.hid hr
          have HE := Lib.hid hne
          clear hr hne
          have T := Lib.hid (text_right (c := c5) HR.out (by omega) (he.below B5.out) hA5)
          have HA5 := Lib.hid hA5
          clear hA5
          go_wp2_with fail
          refine (N.out _ _).mono ?_; rintro e _ ⟨rfl, rfl⟩
          go_wp2_with fail
          refine T.out.mono ?_
          rintro e w6 ⟨rfl, hb6⟩
          have B6 := Lib.hid (B5.out.trans (hb6.mono B5.out.size))
          have HA6 := Lib.hid ((HA5.out.below hb6).more hb6.size)
          clear hb6 HA5
          have P := Lib.hid (parse_back HR.out hf (he.below B6.out))
          go_wp2_with fail
          refine P.out.mono ?_
          rintro e w7 ⟨⟨A7, c7, rfl, hA7⟩, hb7⟩
          have B7 := Lib.hid (B6.out.trans (hb7.mono B6.out.size))
          have S := Lib.hid (same_self fs A5 A7 c5 c7 w6.heap.size w7.heap.size (by omega) w7 (HA6.out.below hb7) hA7)
          clear hb7 hA7
          go_wp2_with fail
          refine (N.out _ _).mono ?_; rintro e _ ⟨rfl, rfl⟩
          go_wp2_with fail
          refine (N.out _ _).mono ?_; rintro e _ ⟨rfl, rfl⟩
          go_wp2_with fail
          refine S.out.mono ?_
          rintro e _ ⟨rfl, q, rfl⟩
          have E := Lib.hid (said_empty HE.out)
          go_wp2_with fail
          refine bodyPost_ret (v := .bool true) (by simp [results, Tryd.results3, go_sem, E.out]) rfl ⟨rfl, below_drawn B7.out q⟩
end Go.Proofs.YtepmkkeaidacmaaDoor
