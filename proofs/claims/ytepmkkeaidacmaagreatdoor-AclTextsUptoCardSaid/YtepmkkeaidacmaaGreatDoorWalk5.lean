/-
  The walk of Text: the text of a list of entries.
-/
import Derived.Test.YtepmkkeaidacmaaGreatDoorWalk4
import Derived.Laws.AppendOwn
import Derived.Laws.OwnMore
import Derived.Deep.AppendLies
namespace Go.Proofs.YtepmkkeaidacmaaGreatDoor
open Go.RowKit

theorem own_below {W W' : World} {b e size n : Nat} {v : Value} {xs : List Value} (h : W.ownsRow b e size v n xs) (hb : Below W.heap.size W W') : W'.ownsRow b e size v n xs :=
  h.kept (row := none) ⟨hb.os, hb.tape, hb.output, hb.size, fun i hi _ => hb.block i hi⟩ (by cases v.ownBlock <;> simp)
theorem own_base {W : World} {b e size n : Nat} {v : Value} {xs : List Value} (h : W.ownsRow b e size v n xs) : ∀ k, v.ownBlock = some k → b ≤ k := by
  intro k hk
  rcases h.2 with ⟨rfl, _⟩ | ⟨g, cap, cur, rfl, hg, _⟩
  · simp [Value.ownBlock] at hk
  · simp [Value.ownBlock] at hk
    omega
theorem own_other {W : World} {b e size n g t : Nat} {v : Value} {xs : List Value} {cs : Array Value} {fr : Nat × Nat} (h : W.ownsRow b e size v n xs) (hg : W.heap[g]? = some (.cells cs t fr)) (hne : e ≠ t) : v.ownBlock ≠ some g := by
  rcases h.2 with ⟨rfl, _⟩ | ⟨g', cap, cur, rfl, _, hh, _⟩
  · simp [Value.ownBlock]
  · intro he
    have : g' = g := by simpa [Value.ownBlock] using he
    subst this
    rw [hg] at hh
    injection hh with hh
    injection hh with _ ht
    exact hne ht.symm

theorem infoString : (Tryz.prog.info? 9).map (fun i => (i.zero, i.size, i.bytes)) = some (some (.string ByteArray.empty), 1, 16) := by kernel_rfl

theorem letters_succ (p j : Nat) (x : UInt8 × Nat) (hx : letterTab[j]? = some x) : lettersN p (letterTab.take (j + 1)) = lettersN p (letterTab.take j) ++ (if (p &&& x.2 != 0) = true then [x.1] else []) := by
  rw [List.take_add_one, hx]
  unfold lettersN
  rw [Option.toList_some, List.filter_append, List.map_append]
  cases h : (p &&& x.2 != 0) <;> simp [h]
theorem letters_yes {p j : Nat} {c : UInt8} {b : Nat} (hx : letterTab[j]? = some (c, b)) (h : (p &&& b != 0) = true) {l : List UInt8} (base : List UInt8) (hl : l = base ++ lettersN p (letterTab.take j)) :
    l ++ [c] = base ++ lettersN p (letterTab.take (j + 1)) := by
  rw [letters_succ p j _ hx, if_pos h, hl, List.append_assoc]
theorem letters_no {p j : Nat} {c : UInt8} {b : Nat} (hx : letterTab[j]? = some (c, b)) (h : (p &&& b != 0) = false) {l : List UInt8} (base : List UInt8) (hl : l = base ++ lettersN p (letterTab.take j)) :
    l = base ++ lettersN p (letterTab.take (j + 1)) := by
  rw [letters_succ p j _ hx, if_neg (by rw [h]; decide), List.append_nil, hl]
theorem lettersN_le (p : Nat) (t : List (UInt8 × Nat)) : (lettersN p t).length ≤ t.length := by
  unfold lettersN
  rw [List.length_map]
  exact List.length_filter_le _ _
theorem app_data (y : ByteArray) (c : UInt8) (z : ByteArray) (hz : z.data.toList = [c]) : (y ++ z).data.toList = y.data.toList ++ [c] := by
  rw [ByteArray.data_append, Array.toList_append, hz]
theorem and_bit : ∀ p : Fin 32, ∀ b ∈ [4, 8, 1, 2, 16], (bits .and .i32 (p.val : Int) ((b : Nat) : Int) != 0) = (p.val &&& b != 0) := by decide

def BitsAt (w : World) (g : Nat) : Prop := w.heap[g]? = some (.cells #[.int .i32 4, .int .i32 8, .int .i32 1, .int .i32 2, .int .i32 16] 38 (0, 0))
theorem BitsAt.cell {w : World} {g : Nat} (h : BitsAt w g) (i : Nat) : w.cell? ⟨g, i, none⟩ = (#[.int .i32 4, .int .i32 8, .int .i32 1, .int .i32 2, .int .i32 16] : Array Value)[i]? := by
  unfold BitsAt at h
  exact cell_of_row w g i _ _ _ h
theorem BitsAt.lt {w : World} {g : Nat} (h : BitsAt w g) : g < w.heap.size := (Array.getElem?_eq_some_iff.1 h).1
theorem BitsAt.below {w w' : World} {g b : Nat} (h : BitsAt w g) (hb : Below b w w') (hg : g < b) : BitsAt w' g := (hb.block g hg).trans h

/-- The loop over the entries. -/
structure TextLoop (es : List Ent) (w wr : World) (g : Nat) (v i : Value) : Prop where
  k : ∃ k : Nat, k ≤ es.length ∧ i = .int .i64 k ∧ (∀ j (hj : j < es.length), j < k → (es[j]).right = true) ∧ wr.ownsRow w.heap.size 9 1 v k ((es.take k).map fun a => .string (B a.text))
  env : Env wr
  below : Below w.heap.size w wr
  bits : BitsAt wr g

/-- The loop over the five permissions. -/
def LetRel (base : List UInt8) (p : Nat) (s i : Value) : Prop := ∃ (j : Nat) (x : ByteArray), j ≤ 5 ∧ i = .int .i64 j ∧ s = .string x ∧ x.data.toList = base ++ lettersN p (letterTab.take j)

/-- What Text ends with. -/
def TextEnds (es : List Ent) (e : Ending) : Prop :=
  if es.all Ent.right = true then e = .returned (.tuple #[.string (B (textOf es)), .int .i64 0]) else e = .returned (.tuple #[.string ⟨#[]⟩, .int .i64 60])

theorem textL_size {s : List UInt8} (h : textL s = true) : s.length ≤ 256 := by
  simp only [textL, Bool.and_eq_true, decide_eq_true_eq] at h
  exact h.1.1.2
theorem ends_bad (es : List Ent) {x : Ent} (hx : x ∈ es) (h : x.right = false) : TextEnds es (.returned (.tuple #[.string ⟨#[]⟩, .int .i64 60])) := by
  unfold TextEnds
  rw [if_neg]
  intro hc
  have := List.all_eq_true.1 hc x hx
  rw [h] at this
  cases this
theorem ends_good (es : List Ent) (h : ∀ j (hj : j < es.length), (es[j]).right = true) {s : ByteArray} (hs : s = B (textOf es)) : TextEnds es (.returned (.tuple #[.string s, .int .i64 0])) := by
  unfold TextEnds
  rw [if_pos, hs]
  rw [List.all_eq_true]
  intro x hx
  obtain ⟨k, hk, rfl⟩ := List.mem_iff_getElem.1 hx
  exact h k hk

theorem own_zero {W : World} {b e size : Nat} {v : Value} {xs : List Value} (h : W.ownsRow b e size v 0 xs) : ∃ a c, v = .slice a 0 c := by
  rcases h.2 with ⟨rfl, _⟩ | ⟨g, cap, cur, rfl, _⟩
  · exact ⟨_, _, rfl⟩
  · exact ⟨_, _, rfl⟩
theorem own_cap {W : World} {b e size n m g cap : Nat} {xs : List Value} (h : W.ownsRow b e size (.slice (some ⟨g, 0, none⟩) m cap) n xs) : n ≤ cap := by
  rcases h.2 with ⟨h0, _⟩ | ⟨g', cap', cur, h0, _, _, hc, _⟩
  · injection h0 with h0
    cases h0
  · injection h0 with _ h1 h2
    subst h2
    exact hc
theorem join_map (es : List Ent) : es.map ((fun x : ByteArray => x.data.toList) ∘ fun a => B a.text) = es.map Ent.text :=
  List.map_congr_left fun a _ => B_data a.text
theorem join_text (es : List Ent) : (⟨(Lib.join (es.map ((fun x : ByteArray => x.data.toList) ∘ fun a => B a.text)) (ByteArray.mk #[44]).data.toList).toArray⟩ : ByteArray) = B (textOf es) := by
  rw [join_map]
  rfl
theorem ent_len (a : Ent) (h : a.right = true) : a.text.length ≤ 519 := by
  obtain ⟨_, _, _, z1, z2⟩ := rightL_parts h
  have z1 := textL_size z1
  have z2 := textL_size z2
  have h3 := lettersN_le a.p.toNat letterTab
  have h4 : letterTab.length = 5 := rfl
  simp only [Ent.text, List.length_append, List.length_cons]
  omega
theorem joinTail_len (c : UInt8) : ∀ (r : List (List UInt8)), (∀ x ∈ r, x.length ≤ 519) → (Lib.joinTail [c] r).length ≤ 520 * r.length
  | [], _ => by simp [Lib.joinTail]
  | x :: r, h => by
    have ih := joinTail_len c r fun y hy => h y (List.mem_cons_of_mem _ hy)
    have hx := h x (by simp)
    have e : Lib.joinTail [c] (x :: r) = c :: x ++ Lib.joinTail [c] r := by simp [Lib.joinTail]
    rw [e, List.length_append, List.length_cons, List.length_cons]
    omega
theorem join_len (es : List Ent) (h : ∀ j (hj : j < es.length), (es[j]).right = true) (hn : es.length ≤ 1048576) :
    (Lib.join (es.map ((fun x : ByteArray => x.data.toList) ∘ fun a => B a.text)) (ByteArray.mk #[44]).data.toList).length ≤ 140737488355328 := by
  rw [join_map]
  show (Lib.join _ [44]).length ≤ _
  cases es with
  | nil => simp [Lib.join_nil]
  | cons a r =>
    have ha := ent_len a (h 0 (by simp))
    have hr : ∀ x ∈ r.map Ent.text, x.length ≤ 519 := fun x hx => by
      obtain ⟨b, hb, rfl⟩ := List.mem_map.1 hx
      obtain ⟨k, hk, rfl⟩ := List.mem_iff_getElem.1 hb
      exact ent_len _ (h (k + 1) (by simp; omega))
    have := joinTail_len 44 (r.map Ent.text) hr
    rw [List.map_cons, Lib.join_cons, List.length_append]
    rw [List.length_map] at this
    simp only [List.length_cons] at hn
    omega

set_option maxHeartbeats 1600000 in
set_option maxRecDepth 100000 in
theorem text_list_calls (es : List Ent) (A : Option Addr) (c : Nat) (hn : es.length ≤ 1048576) (hs : ∀ e ∈ es, e.sc.length ≤ 4294967280 ∧ e.id.length ≤ 4294967280) (w : World) (he : Env w) (hA : Acls w w.heap.size A es) :
    Calls Tryz.prog 4 #[.slice A es.length c] w fun e w' => TextEnds es e ∧ Below w.heap.size w w' := by
  have HA := Lib.hid hA
  clear hA
  have L := Lib.hid fun W => letters_calls W
  go_enter Tryz.func4, Tryz.ntmps4
  go_wp2_with (go_at_call 12; refine (L.out _).mono ?_; rintro e w1 ⟨rfl, hb1⟩)
  have hg1 := hb1.size
  go_loopw [4, 18] (fun v i wr => TextLoop es w wr w1.heap.size v i) (fun _ i _ => es.length - (intOf i).toNat)
  case atStart =>
    refine ⟨⟨0, Nat.zero_le _, rfl, fun j _ h => by omega, ⟨by simp, .inl ⟨rfl, rfl⟩⟩⟩, ?_, ?_, ?_⟩
    · exact (he.below hb1).below ((Below.refl _ _).alloc (Nat.le_refl _) _)
    · exact hb1.alloc hg1 _
    · exact heap_alloc_new w1 _
  case round =>
    obtain ⟨⟨k, hk, rfl, hright, hown⟩, hen, hbr, hbits⟩ := hrel
    have HO := Lib.hid hown
    have HB := Lib.hid hbits
    have HR := Lib.hid hright
    clear hown hbits hright
    have hbg := HB.out.lt
    by_cases hlt : k < es.length
    · obtain ⟨ad, rfl, hab, p0, p1, p2⟩ := (HA.out.below hbr).three hlt
      obtain ⟨x, hx⟩ : ∃ x, es[k] = x := ⟨_, rfl⟩
      rw [hx] at p0 p1 p2
      obtain ⟨hs1, hs2⟩ := hs x (by rw [← hx]; exact List.getElem_mem hlt)
      have HX := Lib.hid hx
      clear hx
      have R := Lib.hid fun W hW => right_calls x hs1 hs2 W hW
      cases hr : x.right with
      | false =>
        have H := Lib.hid hr
        clear hr
        go_wp2_with (go_at_call 13; refine (R.out _ (hen.below ((Below.refl _ _).alloc (Nat.le_refl _) _))).mono ?_; rintro e w2 ⟨rfl, hb2⟩; rw [H.out])
        go_wp2
        go_ret2
        refine ⟨ends_bad es (List.mem_of_getElem HX.out) H.out, ?_⟩
        exact (hbr.alloc hbr.size _).trans (hb2.mono (by simp; exact Nat.le_succ_of_le hbr.size))
      | true =>
        have H := Lib.hid hr
        clear hr
        obtain ⟨q0, q1, _, z1, z2⟩ := rightL_parts H.out
        have z1 := textL_size z1
        have z2 := textL_size z2
        obtain ⟨p, hp⟩ := Int.eq_ofNat_of_zero_le q0
        have hp31 : p ≤ 31 := by omega
        rw [hp] at p0
        have HP := Lib.hid hp
        clear hp q0 q1
        have R' := Lib.hid (show ∀ W, Env W → Calls Tryz.prog 13 #[.agg #[.int .i32 (p : Int), .string (B x.sc), .string (B x.id)]] W fun e w' => e = .returned (.bool true) ∧ Below W.heap.size W w' from fun W hW => by
          have := R.out W hW
          rw [HP.out, H.out] at this
          exact this)
        clear R
        go_wp2_with fail
        refine (R'.out _ (hen.below ((Below.refl _ _).alloc (Nat.le_refl _) _))).mono ?_
        rintro e w2 ⟨rfl, hb2⟩
        have hs2' : wr.heap.size < w2.heap.size := by have := hb2.size; simp at this; omega
        have hbw2 : Below wr.heap.size wr w2 := ((Below.refl _ _).alloc (Nat.le_refl _) _).trans (hb2.mono (by simp))
        have c0 : w2.cell? ⟨wr.heap.size, 0, none⟩ = some (.int .i32 (p : Int)) := (hb2.cell (p := ⟨wr.heap.size, 0, none⟩) (by simp)).trans (by simp)
        have c1 : w2.cell? ⟨wr.heap.size, 1, none⟩ = some (.string (B x.sc)) := (hb2.cell (p := ⟨wr.heap.size, 1, none⟩) (by simp)).trans (by simp)
        have c2 : w2.cell? ⟨wr.heap.size, 2, none⟩ = some (.string (B x.id)) := (hb2.cell (p := ⟨wr.heap.size, 2, none⟩) (by simp)).trans (by simp)
        have hbits2 := HB.out.below hbw2 hbg
        have b0 : w2.cell? ⟨w1.heap.size, 0, none⟩ = some (.int .i32 4) := hbits2.cell 0
        have b1 : w2.cell? ⟨w1.heap.size, 1, none⟩ = some (.int .i32 8) := hbits2.cell 1
        have b2 : w2.cell? ⟨w1.heap.size, 2, none⟩ = some (.int .i32 1) := hbits2.cell 2
        have b3 : w2.cell? ⟨w1.heap.size, 3, none⟩ = some (.int .i32 2) := hbits2.cell 3
        have b4 : w2.cell? ⟨w1.heap.size, 4, none⟩ = some (.int .i32 16) := hbits2.cell 4
        have HB2 := Lib.hid hbits2
        clear hbits2
        have zz1 := B_size x.sc
        have zz2 := B_size x.id
        go_wp2
        go_loop [9, 35] (fun s i => LetRel (x.sc ++ 58 :: (x.id ++ [58])) p s i) (fun _ i => 5 - (intOf i).toNat)
        case atStart => exact ⟨0, _, by omega, rfl, rfl, by simp [B_data, lettersN]⟩
        case round =>
          obtain ⟨j, y, hj, rfl, rfl, hy⟩ := hrel
          have HY := Lib.hid hy
          have hysz : y.size ≤ 600 := by
            have h1 := congrArg List.length hy
            have h2 := lettersN_le p (letterTab.take j)
            have h3 : (letterTab.take j).length ≤ 5 := by rw [List.length_take]; exact Nat.min_le_right _ _
            have h4 : y.data.toList.length = y.size := by show y.data.toList.length = y.data.size; exact Array.length_toList
            simp only [List.length_append, List.length_cons, List.length_nil] at h1
            omega
          clear hy
          by_cases hj5 : j < 5
          · rcases (show j = 0 ∨ j = 1 ∨ j = 2 ∨ j = 3 ∨ j = 4 by omega) with rfl | rfl | rfl | rfl | rfl
            · have i0 : ∀ w, (Instr.index 38 (.agg #[.int .i32 4, .int .i32 8, .int .i32 1, .int .i32 2, .int .i32 16]) (.int .i64 0)).run Tryz.prog w = .ok (.int .i32 4) w := fun _ => by kernel_rfl
              cases ht : (p &&& 4 != 0)
              · have hk : (bits .and .i32 (p : Int) 4 != 0) = false := (and_bit ⟨p, by omega⟩ 4 (by decide)).trans ht
                have HT := Lib.hid ht
                clear ht
                go_wp2
                go_round
                case rel => exact ⟨1, y, by omega, rfl, rfl, letters_no (j := 0) (c := 99) (b := 4) rfl HT.out _ HY.out⟩
                case measure => simp [intOf]
              · have hk : (bits .and .i32 (p : Int) 4 != 0) = true := (and_bit ⟨p, by omega⟩ 4 (by decide)).trans ht
                have HT := Lib.hid ht
                clear ht
                go_wp2
                go_round
                case rel => exact ⟨1, _, by omega, rfl, rfl, (app_data y 99 _ (by rfl)).trans (letters_yes (j := 0) (c := 99) (b := 4) rfl HT.out _ HY.out)⟩
                case measure => simp [intOf]
            · have i0 : ∀ w, (Instr.index 38 (.agg #[.int .i32 4, .int .i32 8, .int .i32 1, .int .i32 2, .int .i32 16]) (.int .i64 1)).run Tryz.prog w = .ok (.int .i32 8) w := fun _ => by kernel_rfl
              cases ht : (p &&& 8 != 0)
              · have hk : (bits .and .i32 (p : Int) 8 != 0) = false := (and_bit ⟨p, by omega⟩ 8 (by decide)).trans ht
                have HT := Lib.hid ht
                clear ht
                go_wp2
                go_round
                case rel => exact ⟨2, y, by omega, rfl, rfl, letters_no (j := 1) (c := 100) (b := 8) rfl HT.out _ HY.out⟩
                case measure => simp [intOf]
              · have hk : (bits .and .i32 (p : Int) 8 != 0) = true := (and_bit ⟨p, by omega⟩ 8 (by decide)).trans ht
                have HT := Lib.hid ht
                clear ht
                go_wp2
                go_round
                case rel => exact ⟨2, _, by omega, rfl, rfl, (app_data y 100 _ (by rfl)).trans (letters_yes (j := 1) (c := 100) (b := 8) rfl HT.out _ HY.out)⟩
                case measure => simp [intOf]
            · have i0 : ∀ w, (Instr.index 38 (.agg #[.int .i32 4, .int .i32 8, .int .i32 1, .int .i32 2, .int .i32 16]) (.int .i64 2)).run Tryz.prog w = .ok (.int .i32 1) w := fun _ => by kernel_rfl
              cases ht : (p &&& 1 != 0)
              · have hk : (bits .and .i32 (p : Int) 1 != 0) = false := (and_bit ⟨p, by omega⟩ 1 (by decide)).trans ht
                have HT := Lib.hid ht
                clear ht
                go_wp2
                go_round
                case rel => exact ⟨3, y, by omega, rfl, rfl, letters_no (j := 2) (c := 114) (b := 1) rfl HT.out _ HY.out⟩
                case measure => simp [intOf]
              · have hk : (bits .and .i32 (p : Int) 1 != 0) = true := (and_bit ⟨p, by omega⟩ 1 (by decide)).trans ht
                have HT := Lib.hid ht
                clear ht
                go_wp2
                go_round
                case rel => exact ⟨3, _, by omega, rfl, rfl, (app_data y 114 _ (by rfl)).trans (letters_yes (j := 2) (c := 114) (b := 1) rfl HT.out _ HY.out)⟩
                case measure => simp [intOf]
            · have i0 : ∀ w, (Instr.index 38 (.agg #[.int .i32 4, .int .i32 8, .int .i32 1, .int .i32 2, .int .i32 16]) (.int .i64 3)).run Tryz.prog w = .ok (.int .i32 2) w := fun _ => by kernel_rfl
              cases ht : (p &&& 2 != 0)
              · have hk : (bits .and .i32 (p : Int) 2 != 0) = false := (and_bit ⟨p, by omega⟩ 2 (by decide)).trans ht
                have HT := Lib.hid ht
                clear ht
                go_wp2
                go_round
                case rel => exact ⟨4, y, by omega, rfl, rfl, letters_no (j := 3) (c := 119) (b := 2) rfl HT.out _ HY.out⟩
                case measure => simp [intOf]
              · have hk : (bits .and .i32 (p : Int) 2 != 0) = true := (and_bit ⟨p, by omega⟩ 2 (by decide)).trans ht
                have HT := Lib.hid ht
                clear ht
                go_wp2
                go_round
                case rel => exact ⟨4, _, by omega, rfl, rfl, (app_data y 119 _ (by rfl)).trans (letters_yes (j := 3) (c := 119) (b := 2) rfl HT.out _ HY.out)⟩
                case measure => simp [intOf]
            · have i0 : ∀ w, (Instr.index 38 (.agg #[.int .i32 4, .int .i32 8, .int .i32 1, .int .i32 2, .int .i32 16]) (.int .i64 4)).run Tryz.prog w = .ok (.int .i32 16) w := fun _ => by kernel_rfl
              cases ht : (p &&& 16 != 0)
              · have hk : (bits .and .i32 (p : Int) 16 != 0) = false := (and_bit ⟨p, by omega⟩ 16 (by decide)).trans ht
                have HT := Lib.hid ht
                clear ht
                go_wp2
                go_round
                case rel => exact ⟨5, y, by omega, rfl, rfl, letters_no (j := 4) (c := 97) (b := 16) rfl HT.out _ HY.out⟩
                case measure => simp [intOf]
              · have hk : (bits .and .i32 (p : Int) 16 != 0) = true := (and_bit ⟨p, by omega⟩ 16 (by decide)).trans ht
                have HT := Lib.hid ht
                clear ht
                go_wp2
                go_round
                case rel => exact ⟨5, _, by omega, rfl, rfl, (app_data y 97 _ (by rfl)).trans (letters_yes (j := 4) (c := 97) (b := 16) rfl HT.out _ HY.out)⟩
                case measure => simp [intOf]
          · obtain rfl : j = 5 := by omega
            have hy2 : y = B x.text := by rw [← B_of y, HY.out]; congr 1; unfold Ent.text; rw [HP.out]; simp [letterTab]
            have HY2 := Lib.hid hy2
            clear hy2
            have hown2 := own_below HO.out hbw2
            obtain ⟨ti, hi, hz0, hz1, hz2⟩ := info_parts infoString
            go_wp2_with (at_builtin; refine wpList_append_own _ rfl _ _ 37 rfl w.heap.size 9 ti (.string ByteArray.empty) 1 16 Tryz.underlying37 hi hz0 hz1 hz2 rfl (by decide) _ _ _ rfl (hown2.alloc _) ⟨w2.heap.size, 0, none⟩ 1 1 [.string y] rfl rfl ?c1 ?c2 ?c3 ?c4 ?c5 ?_)
            case c2 => first | rfl | (intro u hu; simp at hu; subst hu; rfl)
            case c3 => unfold maxLen; omega
            case c4 => omega
            case c5 => have := hbr.size; simp; omega
            intro v' w3 hown3 hgrow3 _
            have hb3 : Below w.heap.size w w3 := (((hbr.trans (hbw2.mono hbr.size)).alloc (by have := hbr.size; omega) _).grown hgrow3 (by have := hbr.size; simp; omega) (own_base hown2))
            have hne := own_other hown2 HB2.out (by decide)
            have hbits3 : BitsAt w3 w1.heap.size := by
              unfold BitsAt
              rw [hgrow3.block w1.heap.size (by have := HB2.out.lt; simp; omega) hne.symm]
              exact (Below.heap_alloc w2 _ _ HB2.out.lt).trans HB2.out
            have H3 := Lib.hid hown3
            have HB3 := Lib.hid hbits3
            clear hown3 hown2 hgrow3 hbits3 hne
            go_wp2
            go_roundw
            case rel =>
              refine ⟨⟨k + 1, by omega, by go_num, fun j hj hjk => ?_, ?_⟩, he.below hb3, hb3, HB3.out⟩
              · rcases Nat.lt_succ_iff_lt_or_eq.1 hjk with h | rfl
                · exact HR.out j hj h
                · rw [HX.out]; exact H.out
              · have h3 := H3.out
                rw [HY2.out] at h3
                rw [List.take_succ_eq_append_getElem hlt, List.map_append, HX.out]
                rw [← List.map_take] at h3
                exact h3
            case measure => simp [intOf]; omega
    · obtain rfl : k = es.length := by omega
      have hown := HO.out
      rw [List.take_length] at hown
      by_cases h0 : es = []
      · subst h0
        obtain ⟨a0, c0, rfl⟩ := own_zero hown
        clear hown
        go_wp2_with (go_at_call 14; refine (Tryz.strings_Join_none a0 c0 _ wr).mono ?_; rintro e w2 ⟨rfl, rfl⟩)
        go_wp2
        go_ret2
        exact ⟨ends_good [] (fun j hj => absurd hj (by simp)) rfl, hbr⟩
      · have hpos : 0 < es.length := List.length_pos_iff.2 h0
        obtain ⟨g, cap, rfl, hbg2, hlt2⟩ := hown.form hpos
        have hcells : ∀ (j : Nat) x, (es.map fun a => B a.text)[j]? = some x → wr.cell? ⟨g, 0 + j, none⟩ = some (.string x) := fun j x hx => by
          have := hown.cells (g := g) rfl j (.string x) (by
            rw [List.getElem?_map] at hx ⊢
            cases he2 : es[j]? with
            | none => rw [he2] at hx; cases hx
            | some y => rw [he2] at hx; simp only [Option.map_some, Option.some.injEq] at hx ⊢; rw [hx])
          rw [Nat.zero_add]
          have e : ((⟨g, 0, none⟩ : Addr).add j) = ⟨g, j, none⟩ := by
            unfold Addr.add
            split
            · rename_i h; rw [h]
            · simp
          rw [e] at this
          exact this
        have hcap := own_cap hown
        have hl1 := join_len es (fun j hj => HR.out j hj hj) hn
        have J := Lib.hid (Tryz.strings_Join g 0 cap (es.map fun a => B a.text) ⟨#[44]⟩ wr hcells hlt2 (by rw [List.length_map]; omega) (by rw [List.length_map]; exact hcap) (by rw [List.map_map]; exact hl1))
        have J2 := J.out
        rw [List.length_map, List.map_map] at J2
        have J3 := Lib.hid J2
        clear J J2 hcells hown
        go_wp2_with (go_at_call 14; refine J3.out.mono ?_; rintro e w2 ⟨rfl, hb2⟩)
        go_wp2
        go_ret2
        exact ⟨ends_good es (fun j hj => HR.out j hj hj) (join_text es), hbr.trans (hb2.mono hbr.size)⟩
end Go.Proofs.YtepmkkeaidacmaaGreatDoor
