/-
  The walk of Parse: the list of a text.
-/
import Derived.Test.YtepmkkeaidacmaaGreatDoorWalk7
namespace Go.Proofs.YtepmkkeaidacmaaGreatDoor
open Go.RowKit

def flat (es : List Ent) : List Value := es.flatMap Ent.cells
theorem flat_len (es : List Ent) : (flat es).length = es.length * 3 := by
  induction es with
  | nil => rfl
  | cons a es ih =>
    have : flat (a :: es) = a.cells ++ flat es := rfl
    rw [this, List.length_append, ih]
    simp only [Ent.cells, List.length_cons, List.length_nil]
    omega
theorem flat_snoc (es : List Ent) (a : Ent) : flat (es ++ [a]) = flat es ++ a.cells := by simp [flat]
theorem flat_get : ∀ (es : List Ent) (k : Nat) (e : Ent), es[k]? = some e → ∀ (j : Nat) (v : Value), e.cells[j]? = some v → (flat es)[k * 3 + j]? = some v
  | [], k, e, h, _, _, _ => by simp at h
  | a :: es, 0, e, h, j, v, hv => by
    simp only [List.getElem?_cons_zero, Option.some.injEq] at h
    subst h
    have : flat (a :: es) = a.cells ++ flat es := rfl
    rw [this, List.getElem?_append_left]
    · simpa using hv
    · have := (List.getElem?_eq_some_iff.1 hv).1
      omega
  | a :: es, k + 1, e, h, j, v, hv => by
    have : flat (a :: es) = a.cells ++ flat es := rfl
    rw [this, List.getElem?_append_right]
    · have hl : a.cells.length = 3 := rfl
      rw [hl, show (k + 1) * 3 + j - 3 = k * 3 + j by omega]
      exact flat_get es k e (by simpa using h) j v hv
    · show 3 ≤ _
      omega
theorem add_add (a : Addr) (i j : Nat) : (a.add i).add j = a.add (i + j) := by
  unfold Addr.add
  by_cases hi : i = 0 <;> by_cases hj : j = 0 <;> simp [hi, hj, Nat.add_assoc]

/-- A row of the call's own that holds entries reads as those entries. -/
theorem acls_of_own {W : World} {b : Nat} {A : Option Addr} {c n : Nat} {es : List Ent} (h : W.ownsRow b 44 3 (.slice A n c) n (flat es)) (hn : es.length = n) : Acls W W.heap.size A es := by
  intro hpos
  obtain ⟨g, cap, hv, _, hlt⟩ := h.form (by omega)
  injection hv with hA
  subst hA
  refine ⟨_, rfl, hlt, fun k e hk j v hv => ?_⟩
  rw [add_add]
  exact h.cells (g := g) rfl _ _ (flat_get es k e hk j v hv)
theorem own_form {W : World} {b e size n : Nat} {v : Value} {xs : List Value} (h : W.ownsRow b e size v n xs) : ∃ A c, v = .slice A n c := by
  rcases h.2 with ⟨rfl, rfl⟩ | ⟨g, cap, cur, rfl, _⟩
  · exact ⟨_, _, rfl⟩
  · exact ⟨_, _, rfl⟩

theorem infoAcl : (Tryz.prog.info? 44).map (fun i => (i.zero, i.size, i.bytes)) = some (some (.agg #[.int .i32 0, .string ByteArray.empty, .string ByteArray.empty]), 3, 40) := by kernel_rfl

/-! ### listOf, a step at a time -/
theorem listOf_bad {p : List UInt8} (h : entOf p = none) (n : Nat) (r : List (List UInt8)) : listOf n (p :: r) = none := by
  simp only [listOf, h]
theorem listOf_full {p : List UInt8} {a : Ent} (h : entOf p = some a) (r : List (List UInt8)) : listOf 0 (p :: r) = none := by
  simp only [listOf, h, if_pos]
theorem listOf_step {p : List UInt8} {a : Ent} (h : entOf p = some a) (n : Nat) (r : List (List UInt8)) : listOf (n + 1) (p :: r) = (listOf n r).map (a :: ·) := by
  simp only [listOf, h]
  rw [if_neg (by omega), Nat.add_sub_cancel]
  cases listOf n r <;> rfl

/-- What Parse ends with. -/
def ParseEnds (l : List UInt8) (e : Ending) (w' : World) : Prop :=
  match parseOf l with
  | none => e = .returned (.tuple #[.slice none 0 0, .int .i64 60])
  | some es => ∃ (A : Option Addr) (c : Nat), e = .returned (.tuple #[.slice A es.length c, .int .i64 0]) ∧ Acls w' w'.heap.size A es
theorem parse_none {l : List UInt8} {w' : World} (h : parseOf l = none) : ParseEnds l (.returned (.tuple #[.slice none 0 0, .int .i64 60])) w' := by
  unfold ParseEnds
  rw [h]
theorem parse_some {l : List UInt8} {w' : World} {es : List Ent} (h : parseOf l = some es) {A : Option Addr} {n c : Nat} (hn : es.length = n) (hA : Acls w' w'.heap.size A es) : ParseEnds l (.returned (.tuple #[.slice A n c, .int .i64 0])) w' := by
  unfold ParseEnds
  rw [h]
  subst hn
  exact ⟨A, c, rfl, hA⟩

/-- The pieces of a text, in a block of their own. -/
theorem lib_split_blk (l : List UInt8) (c : UInt8) (hl : l.length ≤ 4294967280) (w : World) (he : Env w) :
    Calls Tryz.prog 20 #[.string (B l), .string ⟨#[c]⟩] w fun e w' =>
      e = .returned (.slice (some ⟨w.heap.size, 0, none⟩) (Lib.split l [c]).length (Lib.split l [c]).length) ∧ Below w.heap.size w w' ∧
      Blk w' w.heap.size 9 ((Lib.split l [c]).map fun x => Value.string (B x)).toArray := by
  obtain ⟨m, hm⟩ := he.maxlen
  refine (Tryz.strings_Split (B l) ⟨#[c]⟩ m w (by rw [B_size]; omega) hm (Nat.le_refl 1)).mono ?_
  rintro e w' ⟨rfl, rfl⟩
  rw [splitB_eq, ← split_len, List.map_map]
  exact ⟨rfl, (Below.refl _ _).alloc (Nat.le_refl _) _, heap_alloc_new w _⟩

/-- The loop over the pieces. -/
structure ParseLoop (ps : List (List UInt8)) (w wr : World) (v i : Value) : Prop where
  k : ∃ (k : Nat) (es : List Ent), k ≤ ps.length ∧ k ≤ 16 ∧ es.length = k ∧ i = .int .i64 k ∧ listOf 16 ps = (listOf (16 - k) (ps.drop k)).map (es ++ ·) ∧ wr.ownsRow w.heap.size 44 3 v k (flat es)
  env : Env wr
  below : Below w.heap.size w wr
  pieces : Blk wr w.heap.size 9 (ps.map fun x => Value.string (B x)).toArray

set_option maxHeartbeats 1600000 in
set_option maxRecDepth 100000 in
theorem parse_calls (l : List UInt8) (hl : l.length ≤ 4294967280) (w : World) (he : Env w) :
    Calls Tryz.prog 9 #[.string (B l)] w fun e w' => ParseEnds l e w' ∧ Below w.heap.size w w' := by
  by_cases h0 : l = []
  · subst h0
    have e1 : (B []).toList.isEmpty = true := by rw [empty_B]; rfl
    go_enter Tryz.func9, Tryz.ntmps9
    go_wp2
    go_ret2
    exact ⟨parse_some (es := []) rfl rfl (Acls.nil _ _ _), Below.refl _ _⟩
  · have e1 : (B l).toList.isEmpty = false := by rw [empty_B]; cases l with
      | nil => exact absurd rfl h0
      | cons a l => rfl
    have hS := lib_split_blk l 44 hl w he
    have hP : parseOf l = listOf 16 (Lib.split l [44]) := by unfold parseOf; rw [if_neg h0]
    have hpl : ∀ p ∈ Lib.split l [44], p.length ≤ 4294967280 := fun p hp => Nat.le_trans (split_le _ _ _ p hp) hl
    have hcl : (Lib.split l [44]).length ≤ l.length + 2 := by
      rw [split_len]
      have := Lib.countB_le ⟨#[44]⟩ (Nat.le_refl 1) (B l).size (B l) (Nat.le_refl _)
      rw [B_size] at this
      omega
    obtain ⟨ps, hps⟩ : ∃ ps, Lib.split l [44] = ps := ⟨_, rfl⟩
    rw [hps] at hS hP hpl hcl
    have HS := Lib.hid hS
    have HP := Lib.hid hP
    have HL := Lib.hid hpl
    clear hS hP hpl hps
    go_enter Tryz.func9, Tryz.ntmps9
    go_wp2_with fail
    refine HS.out.mono ?_
    rintro e w1 ⟨rfl, hb1, hp1⟩
    have HP1 := Lib.hid hp1
    clear hp1
    have hen1 := he.below hb1
    go_wp2
    go_loopw [4, 14] (fun v i wr => ParseLoop ps w wr v i) (fun _ i _ => ps.length - (intOf i).toNat)
    case atStart => exact ⟨⟨0, [], by omega, by omega, rfl, rfl, by cases h : listOf (16 - 0) (List.drop 0 ps) <;> simp_all, ⟨rfl, .inl ⟨rfl, rfl⟩⟩⟩, hen1, hb1, HP1.out⟩
    case round =>
      obtain ⟨⟨k, es, hk, hk16, hes, rfl, hlist, hown⟩, hen, hbr, hpc⟩ := hrel
      obtain ⟨A, c, rfl⟩ := own_form hown
      have HO := Lib.hid hown
      have HLi := Lib.hid hlist
      have HPc := Lib.hid hpc
      have HEs := Lib.hid hes
      clear hown hlist hes
      by_cases hlt : k < ps.length
      · obtain ⟨q, hq⟩ : ∃ q, ps[k] = q := ⟨_, rfl⟩
        have hqm : q ∈ ps := by rw [← hq]; exact List.getElem_mem hlt
        have hqc : wr.cell? ⟨w.heap.size, k, none⟩ = some (.string (B q)) := by rw [hpc.cell]; simp [List.getElem?_eq_getElem hlt, hq]
        have HD := Lib.hid (show ps.drop k = q :: ps.drop (k + 1) from by rw [List.drop_eq_getElem_cons hlt, hq])
        have E := Lib.hid (entry_calls q (HL.out q hqm) wr hen)
        clear hq hpc hqm
        cases hent : entOf q with
        | none =>
          have hN : parseOf l = none := by rw [HP.out, HLi.out, HD.out, listOf_bad hent]; rfl
          have HN := Lib.hid hN
          have E2 := Lib.hid (show Calls Tryz.prog 21 #[.string (B q)] wr fun e w' => (∃ (p : Int) (s t : ByteArray), e = .returned (.tuple #[.agg #[.int .i32 p, .string s, .string t], .bool false])) ∧ Below wr.heap.size wr w' from E.out.mono fun e w' ⟨h1, h2⟩ => ⟨by unfold EntEnds at h1; rw [hent] at h1; exact h1, h2⟩)
          clear hN hent
          go_wp2_with (go_at_call 21; refine E2.out.mono ?_; rintro e w2 ⟨⟨p, s, t, rfl⟩, hb2⟩)
          go_wp2
          go_ret2
          exact ⟨parse_none HN.out, (hbr.trans (hb2.mono hbr.size)).alloc (Nat.le_trans hbr.size hb2.size) _⟩
        | some a =>
          have E2 := Lib.hid (show Calls Tryz.prog 21 #[.string (B q)] wr fun e w' => e = .returned (.tuple #[.agg #[.int .i32 a.p, .string (B a.sc), .string (B a.id)], .bool true]) ∧ Below wr.heap.size wr w' from E.out.mono fun e w' ⟨h1, h2⟩ => ⟨by unfold EntEnds at h1; rw [hent] at h1; exact h1, h2⟩)
          by_cases hfull : k = 16
          · have hN : parseOf l = none := by rw [HP.out, HLi.out, HD.out, hfull, listOf_full hent]; rfl
            have HN := Lib.hid hN
            have h16 : ((k : Int) == 16) = true := beq_iff_eq.2 (by omega)
            clear hN hent hfull
            go_wp2_with (go_at_call 21; refine E2.out.mono ?_; rintro e w2 ⟨rfl, hb2⟩)
            go_wp2
            go_ret2
            exact ⟨parse_none HN.out, (hbr.trans (hb2.mono hbr.size)).alloc (Nat.le_trans hbr.size hb2.size) _⟩
          · have h16 : ((k : Int) == 16) = false := beq_eq_false_iff_ne.2 (by omega)
            have HN := Lib.hid (show listOf 16 ps = (listOf (16 - (k + 1)) (ps.drop (k + 1))).map ((es ++ [a]) ++ ·) from by
              rw [HLi.out, HD.out, show 16 - k = (16 - (k + 1)) + 1 by omega, listOf_step hent]
              cases listOf (16 - (k + 1)) (ps.drop (k + 1)) <;> simp)
            clear hent
            go_wp2_with fail
            refine E2.out.mono ?_
            rintro e w2 ⟨rfl, hb2⟩
            have hown2 := own_below HO.out hb2
            have hbw2 : Below w.heap.size w w2 := hbr.trans (hb2.mono hbr.size)
            obtain ⟨ti, hi, hz0, hz1, hz2⟩ := info_parts infoAcl
            go_wp2_with (at_builtin; refine wpList_append_own _ rfl _ _ 22 rfl w.heap.size 44 ti (.agg #[.int .i32 0, .string ByteArray.empty, .string ByteArray.empty]) 3 40 Tryz.underlying22 hi hz0 hz1 hz2 rfl (by decide) _ _ _ rfl ((hown2.alloc _).alloc _) ⟨w2.heap.size + 1, 0, none⟩ 1 1 [.int .i32 a.p, .string (B a.sc), .string (B a.id)] rfl rfl ?c1 ?c2 ?c3 ?c4 ?c5 ?_)
            case c1 => intro j u hj; match j, hj with
              | 0, hj => simp at hj; subst hj; simp [Addr.add]
              | 1, hj => simp at hj; subst hj; simp [Addr.add]
              | 2, hj => simp at hj; subst hj; simp [Addr.add]
            case c2 => intro u hu; simp at hu; rcases hu with rfl | rfl | rfl <;> rfl
            case c3 => unfold maxLen; omega
            case c4 => omega
            case c5 => have := hbw2.size; simp; omega
            intro v' w3 hown3 hgrow3 _
            have hb3 : Below w.heap.size w w3 := ((hbw2.alloc hbw2.size _).alloc (by have := hbw2.size; simp; omega) _).grown hgrow3 (by have := hbw2.size; simp; omega) (own_base hown2)
            have hpc2 : Blk w2 w.heap.size 9 (ps.map fun x => Value.string (B x)).toArray := HPc.out.below hb2 HPc.out.lt
            have hne := own_other hown2 hpc2 (by decide)
            have hpc3 : Blk w3 w.heap.size 9 (ps.map fun x => Value.string (B x)).toArray := by
              unfold Blk
              rw [hgrow3.block w.heap.size (by have := hpc2.lt; simp; omega) hne.symm]
              exact ((hpc2.below ((Below.refl _ _).alloc (Nat.le_refl _) _) hpc2.lt).below ((Below.refl _ _).alloc (Nat.le_refl _) _) (by have := hpc2.lt; simp; omega))
            have H3 := Lib.hid (show w3.ownsRow w.heap.size 44 3 v' (k + 1) (flat (es ++ [a])) from by rw [flat_snoc]; exact hown3)
            have HP3 := Lib.hid hpc3
            clear hown3 hown2 hgrow3 hpc3 hpc2 hne
            go_wp2
            go_roundw
            case rel => exact ⟨⟨k + 1, es ++ [a], by omega, by omega, by rw [List.length_append, HEs.out]; rfl, by go_num, HN.out, H3.out⟩, he.below hb3, hb3, HP3.out⟩
            case measure => simp [intOf]; omega
      · have hkn : k = ps.length := by omega
        have hdn : ps.drop k = [] := List.drop_eq_nil_of_le (by omega)
        have hN : parseOf l = some es := by rw [HP.out, HLi.out, hdn]; simp [listOf]
        have HN := Lib.hid hN
        have hk16' := hk16
        clear hN hdn hkn hpc
        go_wp2
        go_ret2
        exact ⟨parse_some HN.out HEs.out (acls_of_own HO.out HEs.out), hbr⟩
end Go.Proofs.YtepmkkeaidacmaaGreatDoor
