/-
  The walk of the reference's Text: the text of a list of entries, one entry behind another.
-/
import Derived.Test.YtepmkkeaidacmaaGreatDoorRef3
import Derived.Test.YtepmkkeaidacmaaGreatDoorWalk5
import Derived.Deep.CutRange
namespace Go.Proofs.YtepmkkeaidacmaaGreatDoor
open Go.RowKit

theorem quietAdd {P : Program} {f : FuncId} {args : Array Value} {w : World} {a n : Nat} {v : Value}
    (h : Calls P f args (w.drewN (a + n)) fun e w' => e = .returned v ∧ w.drewN (a + n) = w') :
    Calls P f args (w.drewN (a + n)) fun e w'' => e = .returned v ∧ ∃ m, w'' = w.drewN (a + m) :=
  h.mono fun _ _ ⟨he, hm⟩ => ⟨he, n, hm.symm⟩

theorem joinTail_snoc (sep : List UInt8) (r : List (List UInt8)) (y : List UInt8) : Lib.joinTail sep (r ++ [y]) = Lib.joinTail sep r ++ (sep ++ y) := by simp [Lib.joinTail]
/-- What stands ahead of entry k. -/
def ahead (es : List Ent) (k : Nat) : List UInt8 := if k = 0 then [] else textOf (es.take k) ++ [44]
theorem textOf_take (es : List Ent) (k : Nat) (hk : k < es.length) : textOf (es.take (k + 1)) = ahead es k ++ (es[k]).text := by
  unfold ahead
  cases es with
  | nil => simp at hk
  | cons a r =>
    cases k with
    | zero =>
      rw [if_pos rfl]
      show Lib.join [a.text] [44] = _
      rw [Lib.join_one]
      rfl
    | succ k =>
      have hk' : k < r.length := by simpa using hk
      rw [if_neg (by omega)]
      unfold textOf
      rw [List.take_succ_cons, List.take_succ_cons, List.map_cons, List.map_cons, Lib.join_cons, Lib.join_cons, List.take_succ_eq_append_getElem hk', List.map_append, List.map_singleton, joinTail_snoc]
      simp
theorem textOf_size (es : List Ent) (k : Nat) (h : ∀ j (hj : j < es.length), j < k → (es[j]).right = true) (hn : es.length ≤ 1048576) : (textOf (es.take k)).length ≤ 545259520 := by
  have h1 := join_size 44 519 ((es.take k).map Ent.text) (fun x hx => by
    obtain ⟨a, ha, rfl⟩ := List.mem_map.1 hx
    obtain ⟨j, hj, rfl⟩ := List.mem_iff_getElem.1 ha
    rw [List.length_take] at hj
    rw [List.getElem_take]
    exact ent_len _ (h j (by omega) (by omega)))
  rw [List.length_map, List.length_take] at h1
  unfold textOf
  have h2 : min k es.length * (519 + 1) ≤ 1048576 * 520 := Nat.mul_le_mul (by omega) (by decide)
  omega
theorem data_size (y : ByteArray) : y.data.toList.length = y.size := by show y.data.toList.length = y.data.size; exact Array.length_toList

/-- The loop over the entries. -/
structure RTextLoop (es : List Ent) (w wr : World) (s i : Value) : Prop where
  k : ∃ (k : Nat) (y : ByteArray), k ≤ es.length ∧ i = .int .i64 k ∧ s = .string y ∧ y.data.toList = textOf (es.take k) ∧ (∀ j (hj : j < es.length), j < k → (es[j]).right = true)
  below : Below w.heap.size w wr

set_option maxHeartbeats 1600000 in
set_option maxRecDepth 100000 in
theorem refTextList_calls (es : List Ent) (A : Option Addr) (c : Nat) (hn : es.length ≤ 1048576) (hs : ∀ e ∈ es, e.sc.length ≤ 4294967280 ∧ e.id.length ≤ 4294967280) (w : World) (hA : Acls w w.heap.size A es) :
    Calls Tryz.prog 6 #[.slice A es.length c] w fun e w' => TextEnds es e ∧ Below w.heap.size w w' := by
  have HA := Lib.hid hA
  clear hA
  go_enter Tryz.func6, Tryz.ntmps6
  go_wp2_with fail
  go_loopw [4, 5] (fun s i wr => RTextLoop es w wr s i) (fun _ i _ => es.length - (intOf i).toNat)
  case atStart => exact ⟨⟨0, ⟨#[]⟩, Nat.zero_le _, rfl, rfl, rfl, fun j _ h => by omega⟩, Below.refl _ _⟩
  case round =>
    obtain ⟨⟨k, y, hk, rfl, rfl, hy, hright⟩, hbr⟩ := hrel
    have hysz : y.size ≤ 545259520 := by rw [← data_size, hy]; exact textOf_size es k hright hn
    have HY := Lib.hid hy
    have HR := Lib.hid hright
    clear hy hright
    by_cases hlt : k < es.length
    · obtain ⟨ad, rfl, hab, p0, p1, p2⟩ := (HA.out.below hbr).three hlt
      obtain ⟨x, hx⟩ : ∃ x, es[k] = x := ⟨_, rfl⟩
      rw [hx] at p0 p1 p2
      obtain ⟨hs1, hs2⟩ := hs x (by rw [← hx]; exact List.getElem_mem hlt)
      have HX := Lib.hid hx
      clear hx
      have R := Lib.hid fun W => refRight_calls x hs1 hs2 W
      cases hr : x.right with
      | false =>
        have H := Lib.hid hr
        clear hr
        go_wp2_with fail
        refine (R.out _).mono ?_
        rintro e w2 ⟨rfl, hb2⟩
        rw [H.out]
        go_wp2_with fail
        go_ret2
        exact ⟨ends_bad es (List.mem_of_getElem HX.out) H.out, hbr.trans (hb2.mono hbr.size)⟩
      | true =>
        have H := Lib.hid hr
        clear hr
        obtain ⟨q0, q1, _, z1, z2⟩ := rightL_parts H.out
        have z1 := textL_size z1
        have z2 := textL_size z2
        have R' := Lib.hid (show ∀ W, Calls Tryz.prog 15 #[.agg #[.int .i32 x.p, .string (B x.sc), .string (B x.id)]] W fun e w' => e = .returned (.bool true) ∧ Below W.heap.size W w' from fun W => by
          have := R.out W
          rw [H.out] at this
          exact this)
        clear R
        go_wp2_with fail
        refine (R'.out _).mono ?_
        rintro e w2 ⟨rfl, hb2⟩
        have hbw2 : Below w.heap.size w w2 := hbr.trans (hb2.mono hbr.size)
        have HB2 := Lib.hid hbw2
        obtain ⟨p, hp⟩ := Int.eq_ofNat_of_zero_le q0
        have hp31 : p ≤ 31 := by omega
        have c0 : w2.cell? (ad.add (k * 3)) = some (.int .i32 (p : Int)) := by rw [hb2.cell (by rw [block_add]; exact Nat.lt_of_lt_of_le hab hbr.size), p0, hp]
        have c1 : w2.cell? ⟨(ad.add (k * 3)).block, (ad.add (k * 3)).off + 1, none⟩ = some (.string (B x.sc)) := by rw [hb2.cell (by show (ad.add (k * 3)).block < _; rw [block_add]; exact Nat.lt_of_lt_of_le hab hbr.size), p1]
        have c2 : w2.cell? ⟨(ad.add (k * 3)).block, (ad.add (k * 3)).off + 2, none⟩ = some (.string (B x.id)) := by rw [hb2.cell (by show (ad.add (k * 3)).block < _; rw [block_add]; exact Nat.lt_of_lt_of_le hab hbr.size), p2]
        have HP := Lib.hid hp
        clear hp q0 q1 p0 p1 p2 hb2 hbw2 R'
        have zz1 := B_size x.sc
        have zz2 := B_size x.id
        go_upto_if 21 with fail
        go_cut [4] from 8 to 64 (fun s4 wx => wx = w2 ∧ ∃ y2 : ByteArray, s4 = .string y2 ∧ y2.data.toList = ahead es k ∧ y2.size ≤ 545259521)
        case first =>
          by_cases hk0 : k = 0
          · have hA0 := Lib.hid (show y.data.toList = ahead es k from by rw [HY.out, hk0]; rfl)
            go_wp2_with fail
            go_meet
            exact ⟨rfl, y, rfl, hA0.out, by omega⟩
          · have hA0 := Lib.hid (show (y ++ ⟨#[44]⟩).data.toList = ahead es k from by rw [app_data y 44 _ rfl, HY.out]; unfold ahead; rw [if_neg hk0])
            go_wp2_with fail
            go_meet
            exact ⟨rfl, _, rfl, hA0.out, by rw [ByteArray.size_append]; show y.size + 1 ≤ _; omega⟩
        case rest =>
          obtain ⟨rfl, y2, rfl, hy2, hy2s⟩ := hcut
          have HY2 := Lib.hid hy2
          clear hy2
          go_wp2
          go_quiet (fail)
          go_wp2
          go_loopw [4, 7] (fun s i wr => LetRel (ahead es k ++ (x.sc ++ 58 :: (x.id ++ [58]))) p s i ∧ ∃ q, wr = wc.drewN q) (fun _ i _ => 5 - (intOf i).toNat)
          case atStart => exact ⟨⟨0, _, by omega, rfl, rfl, by simp [B_data, HY2.out, lettersN]⟩, _, rfl⟩
          case round =>
            obtain ⟨⟨j, y3, hj, rfl, rfl, hy3⟩, q3, rfl⟩ := hrel
            have HY3 := Lib.hid hy3
            have hysz3 : y3.size ≤ 545260200 := by
              have h1 := congrArg List.length hy3
              have h2 := lettersN_le p (letterTab.take j)
              have h3 : (letterTab.take j).length ≤ 5 := by rw [List.length_take]; exact Nat.min_le_right _ _
              have h5 := congrArg List.length HY2.out
              rw [data_size] at h1 h5
              simp only [List.length_append, List.length_cons, List.length_nil] at h1
              omega
            clear hy3
            by_cases hj5 : j < 5
            · rcases (show j = 0 ∨ j = 1 ∨ j = 2 ∨ j = 3 ∨ j = 4 by omega) with rfl | rfl | rfl | rfl | rfl
              · have L := Lib.hid (show ∀ W, Calls Tryz.prog 16 #[.int .u8 99] W fun e w' => e = .returned (.int .i32 4) ∧ W = w' from fun W => letter_calls 99 W)
                cases ht : (p &&& 4 != 0)
                · have hk : (bits .and .i32 (p : Int) 4 != 0) = false := (and_bit ⟨p, by omega⟩ 4 (by decide)).trans ht
                  have HT := Lib.hid ht
                  clear ht
                  go_wp2
                  go_quiet ((go_at_call 16; exact quietAdd (L.out _)))
                  go_wp2
                  go_roundw
                  case rel => exact ⟨⟨1, y3, by omega, rfl, rfl, letters_no (j := 0) (c := 99) (b := 4) rfl HT.out _ HY3.out⟩, _, rfl⟩
                  case measure => simp [intOf]
                · have hk : (bits .and .i32 (p : Int) 4 != 0) = true := (and_bit ⟨p, by omega⟩ 4 (by decide)).trans ht
                  have HT := Lib.hid ht
                  clear ht
                  go_wp2
                  go_quiet ((go_at_call 16; exact quietAdd (L.out _)))
                  go_wp2
                  go_roundw
                  case rel => exact ⟨⟨1, _, by omega, rfl, rfl, (app_data y3 99 _ (by rfl)).trans (letters_yes (j := 0) (c := 99) (b := 4) rfl HT.out _ HY3.out)⟩, _, rfl⟩
                  case measure => simp [intOf]
              · have L := Lib.hid (show ∀ W, Calls Tryz.prog 16 #[.int .u8 100] W fun e w' => e = .returned (.int .i32 8) ∧ W = w' from fun W => letter_calls 100 W)
                cases ht : (p &&& 8 != 0)
                · have hk : (bits .and .i32 (p : Int) 8 != 0) = false := (and_bit ⟨p, by omega⟩ 8 (by decide)).trans ht
                  have HT := Lib.hid ht
                  clear ht
                  go_wp2
                  go_quiet ((go_at_call 16; exact quietAdd (L.out _)))
                  go_wp2
                  go_roundw
                  case rel => exact ⟨⟨2, y3, by omega, rfl, rfl, letters_no (j := 1) (c := 100) (b := 8) rfl HT.out _ HY3.out⟩, _, rfl⟩
                  case measure => simp [intOf]
                · have hk : (bits .and .i32 (p : Int) 8 != 0) = true := (and_bit ⟨p, by omega⟩ 8 (by decide)).trans ht
                  have HT := Lib.hid ht
                  clear ht
                  go_wp2
                  go_quiet ((go_at_call 16; exact quietAdd (L.out _)))
                  go_wp2
                  go_roundw
                  case rel => exact ⟨⟨2, _, by omega, rfl, rfl, (app_data y3 100 _ (by rfl)).trans (letters_yes (j := 1) (c := 100) (b := 8) rfl HT.out _ HY3.out)⟩, _, rfl⟩
                  case measure => simp [intOf]
              · have L := Lib.hid (show ∀ W, Calls Tryz.prog 16 #[.int .u8 114] W fun e w' => e = .returned (.int .i32 1) ∧ W = w' from fun W => letter_calls 114 W)
                cases ht : (p &&& 1 != 0)
                · have hk : (bits .and .i32 (p : Int) 1 != 0) = false := (and_bit ⟨p, by omega⟩ 1 (by decide)).trans ht
                  have HT := Lib.hid ht
                  clear ht
                  go_wp2
                  go_quiet ((go_at_call 16; exact quietAdd (L.out _)))
                  go_wp2
                  go_roundw
                  case rel => exact ⟨⟨3, y3, by omega, rfl, rfl, letters_no (j := 2) (c := 114) (b := 1) rfl HT.out _ HY3.out⟩, _, rfl⟩
                  case measure => simp [intOf]
                · have hk : (bits .and .i32 (p : Int) 1 != 0) = true := (and_bit ⟨p, by omega⟩ 1 (by decide)).trans ht
                  have HT := Lib.hid ht
                  clear ht
                  go_wp2
                  go_quiet ((go_at_call 16; exact quietAdd (L.out _)))
                  go_wp2
                  go_roundw
                  case rel => exact ⟨⟨3, _, by omega, rfl, rfl, (app_data y3 114 _ (by rfl)).trans (letters_yes (j := 2) (c := 114) (b := 1) rfl HT.out _ HY3.out)⟩, _, rfl⟩
                  case measure => simp [intOf]
              · have L := Lib.hid (show ∀ W, Calls Tryz.prog 16 #[.int .u8 119] W fun e w' => e = .returned (.int .i32 2) ∧ W = w' from fun W => letter_calls 119 W)
                cases ht : (p &&& 2 != 0)
                · have hk : (bits .and .i32 (p : Int) 2 != 0) = false := (and_bit ⟨p, by omega⟩ 2 (by decide)).trans ht
                  have HT := Lib.hid ht
                  clear ht
                  go_wp2
                  go_quiet ((go_at_call 16; exact quietAdd (L.out _)))
                  go_wp2
                  go_roundw
                  case rel => exact ⟨⟨4, y3, by omega, rfl, rfl, letters_no (j := 3) (c := 119) (b := 2) rfl HT.out _ HY3.out⟩, _, rfl⟩
                  case measure => simp [intOf]
                · have hk : (bits .and .i32 (p : Int) 2 != 0) = true := (and_bit ⟨p, by omega⟩ 2 (by decide)).trans ht
                  have HT := Lib.hid ht
                  clear ht
                  go_wp2
                  go_quiet ((go_at_call 16; exact quietAdd (L.out _)))
                  go_wp2
                  go_roundw
                  case rel => exact ⟨⟨4, _, by omega, rfl, rfl, (app_data y3 119 _ (by rfl)).trans (letters_yes (j := 3) (c := 119) (b := 2) rfl HT.out _ HY3.out)⟩, _, rfl⟩
                  case measure => simp [intOf]
              · have L := Lib.hid (show ∀ W, Calls Tryz.prog 16 #[.int .u8 97] W fun e w' => e = .returned (.int .i32 16) ∧ W = w' from fun W => letter_calls 97 W)
                cases ht : (p &&& 16 != 0)
                · have hk : (bits .and .i32 (p : Int) 16 != 0) = false := (and_bit ⟨p, by omega⟩ 16 (by decide)).trans ht
                  have HT := Lib.hid ht
                  clear ht
                  go_wp2
                  go_quiet ((go_at_call 16; exact quietAdd (L.out _)))
                  go_wp2
                  go_roundw
                  case rel => exact ⟨⟨5, y3, by omega, rfl, rfl, letters_no (j := 4) (c := 97) (b := 16) rfl HT.out _ HY3.out⟩, _, rfl⟩
                  case measure => simp [intOf]
                · have hk : (bits .and .i32 (p : Int) 16 != 0) = true := (and_bit ⟨p, by omega⟩ 16 (by decide)).trans ht
                  have HT := Lib.hid ht
                  clear ht
                  go_wp2
                  go_quiet ((go_at_call 16; exact quietAdd (L.out _)))
                  go_wp2
                  go_roundw
                  case rel => exact ⟨⟨5, _, by omega, rfl, rfl, (app_data y3 97 _ (by rfl)).trans (letters_yes (j := 4) (c := 97) (b := 16) rfl HT.out _ HY3.out)⟩, _, rfl⟩
                  case measure => simp [intOf]
            · obtain rfl : j = 5 := by omega
              have HN := Lib.hid (show y3.data.toList = textOf (es.take (k + 1)) from by
                rw [HY3.out, textOf_take es k hlt, HX.out]
                unfold Ent.text
                rw [HP.out]
                simp [letterTab])
              go_wp2_with fail
              go_roundw
              case rel =>

                refine ⟨⟨k + 1, y3, by omega, by go_num, rfl, HN.out, fun j hj hjk => ?_⟩, below_drewN HB2.out _⟩
                rcases Nat.lt_succ_iff_lt_or_eq.1 hjk with h | rfl
                · exact HR.out j hj h
                · rw [HX.out]; exact H.out
              case measure => simp [intOf]; omega
    · obtain rfl : k = es.length := by omega
      have HN := Lib.hid (show y = B (textOf es) from by have h := HY.out; rw [List.take_length] at h; rw [← B_of y, h])
      go_wp2_with fail
      go_ret2
      exact ⟨ends_good es (fun j hj => HR.out j hj hj) HN.out, hbr⟩
end Go.Proofs.YtepmkkeaidacmaaGreatDoor
