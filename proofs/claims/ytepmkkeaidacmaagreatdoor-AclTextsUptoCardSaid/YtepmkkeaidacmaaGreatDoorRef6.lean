/-
  The walks of the reference's Parse and of the law's own copy of a list.
-/
import Derived.Test.YtepmkkeaidacmaaGreatDoorRef5
import Derived.Test.YtepmkkeaidacmaaGreatDoorWalk8
import Derived.Laws.AppendOwnNone
namespace Go.Proofs.YtepmkkeaidacmaaGreatDoor
open Go.RowKit

/-- The loop over the pieces. -/
structure RParseLoop (l : List UInt8) (w wr : World) (v i : Value) : Prop where
  k : ∃ (n f : Nat) (es : List Ent), es.length = n ∧ n ≤ 16 ∧ f ≤ l.length + 1 ∧ i = .int .i64 f ∧ wr.ownsRow w.heap.size 44 3 v n (flat es) ∧
    (f ≤ l.length → parseOf l = (listOf (16 - n) (Lib.split (l.drop f) [44])).map (es ++ ·)) ∧ (f = l.length + 1 → parseOf l = some es)
  below : Below w.heap.size w wr

set_option maxHeartbeats 3200000 in
set_option maxRecDepth 100000 in
theorem refParse_calls (l : List UInt8) (hl : l.length ≤ 4294967280) (w : World) :
    Calls Tryz.prog 10 #[.string (B l)] w fun e w' => ParseEnds l e w' ∧ Below w.heap.size w w' := by
  have hsz : (B l).size = l.length := B_size l
  by_cases h0 : l = []
  · subst h0
    have e1 : (B []).toList.isEmpty = true := by rw [empty_B]; rfl
    go_enter Tryz.func10, Tryz.ntmps10
    go_wp2_with fail
    go_ret2
    exact ⟨parse_some (es := []) rfl rfl (Acls.nil _ _ _), Below.refl _ _⟩
  · have e1 : (B l).toList.isEmpty = false := by rw [empty_B]; cases l with
      | nil => exact absurd rfl h0
      | cons a l => rfl
    have HP := Lib.hid (show parseOf l = listOf 16 (Lib.split l [44]) from by unfold parseOf; rw [if_neg h0])
    go_enter Tryz.func10, Tryz.ntmps10
    go_wp2_with fail
    go_loopw [4, 5] (fun v i wr => RParseLoop l w wr v i) (fun _ i _ => l.length + 1 - (intOf i).toNat)
    case atStart => exact ⟨⟨0, 0, [], rfl, by omega, by omega, rfl, ⟨rfl, .inl ⟨rfl, rfl⟩⟩, fun _ => by rw [HP.out, List.drop_zero]; cases h : listOf 16 (Lib.split l [44]) <;> simp_all, fun h => by omega⟩, Below.refl _ _⟩
    case round =>
      obtain ⟨⟨n, f, es, hes, hn16, hf, rfl, hown, hmid, hend⟩, hbr⟩ := hrel
      obtain ⟨A, c, rfl⟩ := own_form hown
      have HO := Lib.hid hown
      have HEs := Lib.hid hes
      clear hown hes
      by_cases hlt : f ≤ l.length
      · have HLi := Lib.hid (hmid hlt)
        clear hmid hend
        have C := Lib.hid fun W => cut_calls l hl f hlt 44 44 rfl W
        go_wp2_with fail
        refine (C.out _).mono ?_
        rintro e _ ⟨⟨k, rfl, hcut⟩, q1, rfl⟩
        have k1 := hcut.lo
        have k2 := hcut.hi
        have HS := Lib.hid hcut.split
        clear hcut
        obtain ⟨p, hp⟩ : ∃ p, (l.drop f).take (k - f) = p := ⟨_, rfl⟩
        have hex : (B l).extract f k = B p := by rw [B_piece, hp]
        have hpl : p.length ≤ 4294967280 := by rw [← hp, List.length_take, List.length_drop]; omega
        have HPc := Lib.hid hp
        clear hp
        have hbq : Below w.heap.size w (wr.drewN q1) := below_drewN hbr q1
        have HOq := Lib.hid (own_below HO.out (below_drewN (Below.refl wr.heap.size wr) q1))
        have E := Lib.hid (piece_calls p hpl (wr.drewN q1))
        cases hent : entOf p with
        | none =>
          have HN := Lib.hid (show parseOf l = none from by rw [HLi.out, HS.out, HPc.out, listOf_bad hent]; rfl)
          have E2 := Lib.hid (show Calls Tryz.prog 23 #[.string (B p)] (wr.drewN q1) fun e w' => (∃ (p : Int) (s t : ByteArray), e = .returned (.tuple #[.agg #[.int .i32 p, .string s, .string t], .bool false])) ∧ Below (wr.drewN q1).heap.size (wr.drewN q1) w' from E.out.mono fun e w' ⟨h1, h2⟩ => ⟨by unfold EntEnds at h1; rw [hent] at h1; exact h1, h2⟩)
          clear hent E
          go_wp2_with fail
          refine E2.out.mono ?_
          rintro e w2 ⟨⟨p0, s0, t0, rfl⟩, hb2⟩
          go_wp2_with fail
          go_ret2
          exact ⟨parse_none HN.out, (hbq.trans (hb2.mono hbq.size)).alloc (Nat.le_trans hbq.size hb2.size) _⟩
        | some a =>
          have E2 := Lib.hid (show Calls Tryz.prog 23 #[.string (B p)] (wr.drewN q1) fun e w' => e = .returned (.tuple #[.agg #[.int .i32 a.p, .string (B a.sc), .string (B a.id)], .bool true]) ∧ Below (wr.drewN q1).heap.size (wr.drewN q1) w' from E.out.mono fun e w' ⟨h1, h2⟩ => ⟨by unfold EntEnds at h1; rw [hent] at h1; exact h1, h2⟩)
          clear E
          by_cases hfull : n = 16
          · have HN := Lib.hid (show parseOf l = none from by rw [HLi.out, HS.out, HPc.out, hfull, listOf_full hent]; rfl)
            have h16 : ((n : Int) == 16) = true := beq_iff_eq.2 (by omega)
            clear hent hfull
            go_wp2_with fail
            refine E2.out.mono ?_
            rintro e w2 ⟨rfl, hb2⟩
            go_wp2_with fail
            go_ret2
            exact ⟨parse_none HN.out, (hbq.trans (hb2.mono hbq.size)).alloc (Nat.le_trans hbq.size hb2.size) _⟩
          · have h16 : ((n : Int) == 16) = false := beq_eq_false_iff_ne.2 (by omega)
            have HN := Lib.hid (show parseOf l = (listOf (16 - (n + 1)) (if k = l.length then [] else Lib.split (l.drop (k + 1)) [44])).map ((es ++ [a]) ++ ·) from by
              rw [HLi.out, HS.out, HPc.out, show 16 - n = (16 - (n + 1)) + 1 by omega, listOf_step hent]
              cases listOf (16 - (n + 1)) (if k = l.length then [] else Lib.split (l.drop (k + 1)) [44]) <;> simp)
            clear hent
            go_wp2_with fail
            refine E2.out.mono ?_
            rintro e w2 ⟨rfl, hb2⟩
            have hown2 := own_below HOq.out hb2
            have hbw2 : Below w.heap.size w w2 := hbq.trans (hb2.mono hbq.size)
            obtain ⟨ti, hi, hz0, hz1, hz2⟩ := info_parts infoAcl
            go_wp2_with (at_builtin; refine wpList_append_own _ rfl _ _ 22 rfl w.heap.size 44 ti (.agg #[.int .i32 0, .string ByteArray.empty, .string ByteArray.empty]) 3 40 Tryz.underlying22 hi hz0 hz1 hz2 rfl (by decide) _ _ _ rfl ((hown2.alloc _).alloc _) ⟨w2.heap.size + 1, 0, none⟩ 1 1 [.int .i32 a.p, .string (B a.sc), .string (B a.id)] rfl rfl ?c1 ?c2 ?c3 ?c4 ?c5 ?_)
            case c1 => intro j u hj; match j, hj with
              | 0, hj => simp at hj; subst hj; simp [Addr.add]
              | 1, hj => simp at hj; subst hj; simp [Addr.add]
              | 2, hj => simp at hj; subst hj; simp [Addr.add]
            case c2 => intro u hu; simp at hu; rcases hu with rfl | rfl | rfl <;> rfl
            case c3 => unfold maxLen; omega
            case c4 => omega
            case c5 => have := hbw2.size; simp; omega
            intro v' w3 hown3 hgrow3 _
            have hb3 : Below w.heap.size w w3 := ((hbw2.alloc hbw2.size _).alloc (by have := hbw2.size; simp; omega) _).grown hgrow3 (by have := hbw2.size; simp; omega) (own_base hown2)
            have H3 := Lib.hid (show w3.ownsRow w.heap.size 44 3 v' (n + 1) (flat (es ++ [a])) from by rw [flat_snoc]; exact hown3)
            clear hown3 hown2 hgrow3
            go_wp2_with fail
            go_roundw
            case rel =>
              refine ⟨⟨n + 1, k + 1, es ++ [a], by rw [List.length_append, HEs.out]; rfl, by omega, by omega, by go_num, H3.out, fun h => ?_, fun h => ?_⟩, hb3⟩
              · have := HN.out
                rw [if_neg (by omega)] at this
                exact this
              · have := HN.out
                rw [if_pos (by omega)] at this
                rw [this]
                simp [listOf]
            case measure => simp [intOf]; omega
      · have HN := Lib.hid (hend (by omega))
        clear hmid hend
        go_wp2_with fail
        go_ret2
        exact ⟨parse_some HN.out HEs.out (acls_of_own HO.out HEs.out), hbr⟩

/-! ### own -/
theorem flat_at : ∀ (es : List Ent) (j : Nat) (u : Value), (flat es)[j]? = some u → ∃ (k : Nat) (e : Ent) (i : Nat), es[k]? = some e ∧ e.cells[i]? = some u ∧ j = k * 3 + i
  | [], j, u, h => by simp [flat] at h
  | a :: es, j, u, h => by
    have e1 : flat (a :: es) = a.cells ++ flat es := rfl
    rw [e1] at h
    by_cases hj : j < 3
    · rw [List.getElem?_append_left (by exact hj)] at h
      exact ⟨0, a, j, rfl, h, by omega⟩
    · rw [List.getElem?_append_right (by show 3 ≤ j; omega)] at h
      obtain ⟨k, e, i, h1, h2, h3⟩ := flat_at es (j - 3) u h
      exact ⟨k + 1, e, i, by simpa using h1, h2, by omega⟩
theorem flat_one (es : List Ent) : ∀ u ∈ flat es, u.oneCell' = true := by
  intro u hu
  obtain ⟨j, hj⟩ := List.mem_iff_getElem?.1 hu
  obtain ⟨k, e, i, _, h2, _⟩ := flat_at es j u hj
  have hm := List.mem_of_getElem? h2
  simp only [Ent.cells, List.mem_cons, List.mem_nil_iff, or_false] at hm
  rcases hm with rfl | rfl | rfl <;> rfl
theorem flat_read {es : List Ent} {w : World} {b : Nat} {ad : Addr} (h : Acls w b (some ad) es) : ∀ (j : Nat) (u : Value), (flat es)[j]? = some u → w.cell? (ad.add j) = some u := by
  intro j u hj
  obtain ⟨k, e, i, h1, h2, rfl⟩ := flat_at es j u hj
  obtain ⟨ad', he, _, hc⟩ := h (by have := (List.getElem?_eq_some_iff.1 h1).1; omega)
  cases he
  rw [← add_add]
  exact hc k e h1 i u h2

/-- What own ends with: the same entries, in memory of its own. -/
def OwnEnds (es : List Ent) (e : Ending) (w' : World) : Prop := ∃ (A' : Option Addr) (c' : Nat), e = .returned (.slice A' es.length c') ∧ Acls w' w'.heap.size A' es

set_option maxHeartbeats 1600000 in
set_option maxRecDepth 100000 in
theorem own_calls (es : List Ent) (A : Option Addr) (c : Nat) (hn : es.length ≤ 1048576) (hc : A = none → c = 0) (w : World) (hA : Acls w w.heap.size A es) :
    Calls Tryz.prog 5 #[.slice A es.length c] w fun e w' => OwnEnds es e w' ∧ Below w.heap.size w w' := by
  have hbz : Below w.heap.size w (w.alloc (.cells #[] 44)) := (Below.refl _ _).alloc (Nat.le_refl _) _
  have hown : (w.alloc (.cells #[] 44)).ownsRow w.heap.size 44 3 (.slice (some ⟨w.heap.size, 0, none⟩) 0 0) 0 [] := World.ownsRow_made w #[] 0 (Nat.le_refl _) (by unfold maxLen; omega) rfl
  obtain ⟨ti, hi, hz0, hz1, hz2⟩ := info_parts infoAcl
  cases A with
  | none =>
    obtain rfl := hc rfl
    have he : es = [] := by
      cases es with
      | nil => rfl
      | cons a es =>
        obtain ⟨_, h, _⟩ := hA (by simp)
        cases h
    subst he
    clear hA
    go_enter Tryz.func5, Tryz.ntmps5
    go_wp2_with (at_builtin; refine wpList_append_own_none rfl _ _ 22 rfl w.heap.size 44 ti 3 Tryz.underlying22 hi _ _ _ rfl hown rfl ?_)
    go_wp2_with fail
    refine bodyPost_ret (v := .slice (some ⟨w.heap.size, 0, none⟩) 0 0) (by simp [results, Tryz.results5, go_sem]) rfl ⟨⟨some ⟨w.heap.size, 0, none⟩, 0, rfl, Acls.nil _ _ _⟩, hbz⟩
  | some ad =>
    have HR := Lib.hid (flat_read (hA.below hbz))
    clear hA
    go_enter Tryz.func5, Tryz.ntmps5
    go_wp2_with (at_builtin; refine wpList_append_own _ rfl _ _ 22 rfl w.heap.size 44 ti (.agg #[.int .i32 0, .string ByteArray.empty, .string ByteArray.empty]) 3 40 Tryz.underlying22 hi hz0 hz1 hz2 rfl (by decide) _ _ _ rfl hown ad es.length c (flat es) rfl (flat_len es) HR.out (flat_one es) ?c3 ?c4 ?c5 ?_)
    case c3 => unfold maxLen; omega
    case c4 => omega
    case c5 => simp
    intro v' w3 hown3 hgrow3 _
    have hb3 : Below w.heap.size w w3 := hbz.grown hgrow3 (by simp) (own_base hown)
    try rw [Nat.zero_add] at hown3
    try rw [List.nil_append] at hown3
    obtain ⟨A', c', rfl⟩ := own_form hown3
    have H3 := Lib.hid hown3
    clear hown3 hgrow3
    go_wp2_with fail
    refine bodyPost_ret (v := .slice A' es.length c') (by simp [results, Tryz.results5, go_sem]) rfl ⟨⟨A', c', rfl, acls_of_own H3.out rfl⟩, hb3⟩
end Go.Proofs.YtepmkkeaidacmaaGreatDoor
