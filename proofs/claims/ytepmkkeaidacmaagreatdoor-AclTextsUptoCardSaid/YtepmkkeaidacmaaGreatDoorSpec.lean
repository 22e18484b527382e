/-
  Plain laws for layer 6 (acl): what the text of a list of entries is, what the list of a text is, and that they are inverse. No program in sight.
-/
import Derived.Lib.Split
import Derived.Lib.IndexBytes
import Derived.Lib.LastIndexLaws
import Derived.Lib.AtoiAll
import Derived.Lib.ItoaNum
import Derived.Lib.ValidU
import Derived.Lib.Join
namespace Go.Proofs.YtepmkkeaidacmaaGreatDoor
open Go

/-- A byte that may stand in a scheme or an id. -/
def okByte (b : UInt8) : Bool := !decide (b.toNat < 33) && !decide (b.toNat = 127) && !decide (b.toNat = 44)
def textL (s : List UInt8) : Bool := !s.isEmpty && decide (s.length ≤ 256) && Lib.validD s && s.all okByte
def decimalI (l : List UInt8) (most : Int) : Int :=
  match Lib.atoiAll l with
  | .ok n => if n < 0 then -1 else if most < n then -1 else if Lib.itoa n = l then n else -1
  | _ => -1
def addrL (s : List UInt8) : Bool := decide ((Lib.split s [46]).length = 4) && (Lib.split s [46]).all fun p => decide (0 ≤ decimalI p 255)
def bitsL (s : List UInt8) : Int := if (Lib.cut s [47]).2.2 = true then decimalI (Lib.cut s [47]).2.1 32 else 32
def netL (s : List UInt8) : Bool := addrL (Lib.cut s [47]).1 && decide (0 ≤ bitsL s)
def digL (s : List UInt8) : Bool := decide (0 < Lib.index s [58])

/-- 'world', 'anyone', 'digest', 'ip' -/
def bWorld : List UInt8 := [119, 111, 114, 108, 100]
def bAnyone : List UInt8 := [97, 110, 121, 111, 110, 101]
def bDigest : List UInt8 := [100, 105, 103, 101, 115, 116]
def bIp : List UInt8 := [105, 112]

def kindL (sc id : List UInt8) : Bool :=
  if sc = bWorld then decide (id = bAnyone) else if sc = bDigest then digL id else if sc = bIp then netL id else false
def rightL (p : Int) (sc id : List UInt8) : Bool := decide (0 ≤ p) && decide (p ≤ 31) && textL sc && textL id && kindL sc id

theorem rightL_parts {p : Int} {sc id : List UInt8} (h : rightL p sc id = true) :
    0 ≤ p ∧ p ≤ 31 ∧ (sc = bWorld ∨ sc = bDigest ∨ sc = bIp) ∧ textL sc = true ∧ textL id = true := by
  simp only [rightL, Bool.and_eq_true, decide_eq_true_eq] at h
  obtain ⟨⟨⟨⟨h1, h2⟩, h3⟩, h4⟩, h5⟩ := h
  refine ⟨h1, h2, ?_, h3, h4⟩
  unfold kindL at h5
  by_cases a : sc = bWorld
  · exact .inl a
  · by_cases b : sc = bDigest
    · exact .inr (.inl b)
    · by_cases c : sc = bIp
      · exact .inr (.inr c)
      · simp [a, b, c] at h5

theorem okByte_comma {s : List UInt8} (h : textL s = true) : (44 : UInt8) ∉ s := by
  intro hm
  simp only [textL, Bool.and_eq_true] at h
  have := List.all_eq_true.1 h.2 _ hm
  exact absurd this (by decide)

/-- An entry, as bytes. -/
structure Ent where
  p : Int
  sc : List UInt8
  id : List UInt8
  deriving DecidableEq

def Ent.right (a : Ent) : Bool := rightL a.p a.sc a.id

/-- The permissions' letters, in order, with their bits. -/
def letterTab : List (UInt8 × Nat) := [(99, 4), (100, 8), (114, 1), (119, 2), (97, 16)]
def lettersN (p : Nat) (t : List (UInt8 × Nat)) : List UInt8 := (t.filter fun x => p &&& x.2 != 0).map (·.1)
def Ent.text (a : Ent) : List UInt8 := a.sc ++ 58 :: (a.id ++ 58 :: lettersN a.p.toNat letterTab)
def textOf (l : List Ent) : List UInt8 := Lib.join (l.map Ent.text) [44]

/-- The bit of a letter: 0: it is none. -/
def letterBit (b : UInt8) : Nat := if b = 99 then 4 else if b = 100 then 8 else if b = 114 then 1 else if b = 119 then 2 else if b = 97 then 16 else 0
def permLoop (p : Nat) : List UInt8 → Option Nat
  | [] => some p
  | b :: r => if letterBit b = 0 then none else if p &&& letterBit b != 0 then none else permLoop (p ||| letterBit b) r

def entOf (s : List UInt8) : Option Ent :=
  if Lib.index s [58] = Lib.lastIndex s [58] then none
  else match permLoop 0 (s.drop ((Lib.lastIndex s [58]).toNat + 1)) with
    | none => none
    | some p =>
      let a : Ent := ⟨p, s.take (Lib.index s [58]).toNat, (s.take (Lib.lastIndex s [58]).toNat).drop ((Lib.index s [58]).toNat + 1)⟩
      if a.right then some a else none

/-- The list of some pieces: none where one is none, or where there are more than there is room for. -/
def listOf : Nat → List (List UInt8) → Option (List Ent)
  | _, [] => some []
  | n, p :: r => match entOf p with
    | none => none
    | some a => if n = 0 then none else match listOf (n - 1) r with
      | none => none
      | some l => some (a :: l)
def parseOf (s : List UInt8) : Option (List Ent) := if s = [] then some [] else listOf 16 (Lib.split s [44])

/-! ### One byte's index, and splitting at it -/
theorem isPrefixOf_one (c : UInt8) (l : List UInt8) : ([c] : List UInt8).isPrefixOf l = decide (l.head? = some c) := by
  cases l with
  | nil => simp [List.isPrefixOf]
  | cons b l => simp [List.isPrefixOf, eq_comm, Bool.beq_eq_decide_eq]

theorem occ_one (s : List UInt8) (c : UInt8) (i : Nat) : Lib.occAt s [c] i = decide (s[i]? = some c) := by
  unfold Lib.occAt
  rw [isPrefixOf_one, List.head?_drop]

theorem index_at (t r : List UInt8) (c : UInt8) (h : c ∉ t) : Lib.index (t ++ c :: r) [c] = t.length := by
  apply Lib.index_first (by simp)
  · rw [occ_one]; simp
  · intro j hj
    rw [occ_one, List.getElem?_append_left hj]
    simp only [decide_eq_false_iff_not]
    intro e
    exact h (List.mem_of_getElem? e)

theorem index_no (t : List UInt8) (c : UInt8) (h : c ∉ t) : Lib.index t [c] = -1 := by
  apply Lib.index_none
  intro j _
  rw [occ_one]
  simp only [decide_eq_false_iff_not]
  intro e
  exact h (List.mem_of_getElem? e)

theorem lastIndex_at (t r : List UInt8) (c : UInt8) (h : c ∉ r) : Lib.lastIndex (t ++ c :: r) [c] = t.length := by
  unfold Lib.lastIndex
  rw [if_pos (by simp; omega)]
  rcases Lib.lastOcc_spec (t ++ c :: r) [c] ((t ++ c :: r).length - [c].length + 1) with ⟨_, h2⟩ | ⟨i, hi, h1, h2, h3⟩
  · have := h2 t.length (by simp; omega)
    rw [occ_one] at this
    simp at this
  · rw [h1]
    rw [occ_one] at h2
    have h2 := of_decide_eq_true h2
    rcases Nat.lt_trichotomy i t.length with hl | he | hg
    · have := h3 t.length hl (by simp; omega)
      rw [occ_one] at this
      simp at this
    · rw [he]
    · exfalso
      rw [List.getElem?_append_right (by omega)] at h2
      obtain ⟨k, hk⟩ : ∃ k, i - t.length = k + 1 := ⟨i - t.length - 1, by omega⟩
      rw [hk, List.getElem?_cons_succ] at h2
      exact h (List.mem_of_getElem? h2)

theorem split_step (t r : List UInt8) (c : UInt8) (h : c ∉ t) : Lib.split (t ++ c :: r) [c] = t :: Lib.split r [c] := by
  have hi := index_at t r c h
  unfold Lib.split
  rw [Lib.count_hit (i := t.length) (by simp) hi]
  have e : (t ++ c :: r).drop (t.length + [c].length) = r := by
    rw [← List.drop_drop]; simp
  rw [e, Nat.add_comm, Lib.splitK, hi]
  have hm : ¬ (((t.length : Nat) : Int) == -1) = true := by simp only [beq_iff_eq]; omega
  rw [if_neg hm]
  simp

theorem split_no (t : List UInt8) (c : UInt8) (h : c ∉ t) : Lib.split t [c] = [t] := by
  have hi := index_no t c h
  unfold Lib.split
  rw [Lib.count_miss hi]
  rfl

theorem split_join (c : UInt8) : ∀ (x : List UInt8) (l : List (List UInt8)), (∀ t ∈ x :: l, c ∉ t) → Lib.split (Lib.join (x :: l) [c]) [c] = x :: l
  | x, [], h => by
    rw [Lib.join_one]
    exact split_no x c (h x (by simp))
  | x, y :: l, h => by
    have e : Lib.join (x :: y :: l) [c] = x ++ c :: Lib.join (y :: l) [c] := by
      rw [Lib.join_cons, Lib.join_cons]
      simp [Lib.joinTail]
    rw [e, split_step _ _ _ (h x (by simp)), split_join c y l fun t ht => h t (List.mem_cons_of_mem _ ht)]

/-! ### There and back -/
theorem letters_mem (p : Nat) : ∀ b ∈ lettersN p letterTab, b = 99 ∨ b = 100 ∨ b = 114 ∨ b = 119 ∨ b = 97 := by
  intro b hb
  simp only [lettersN, List.mem_map, List.mem_filter] at hb
  obtain ⟨x, ⟨hx, _⟩, rfl⟩ := hb
  simp only [letterTab, List.mem_cons, List.mem_nil_iff, or_false] at hx
  rcases hx with rfl | rfl | rfl | rfl | rfl <;> simp

theorem perm_back : ∀ p : Fin 32, permLoop 0 (lettersN p.val letterTab) = some p.val := by decide

theorem colon_scheme {sc : List UInt8} (h : sc = bWorld ∨ sc = bDigest ∨ sc = bIp) : (58 : UInt8) ∉ sc := by
  rcases h with rfl | rfl | rfl <;> decide

theorem ent_back (a : Ent) (h : a.right = true) : entOf a.text = some a := by
  obtain ⟨p, sc, id⟩ := a
  obtain ⟨h0, h1, hs, ht, hi⟩ := rightL_parts h
  simp only at h0 h1 hs ht hi
  obtain ⟨n, rfl⟩ := Int.eq_ofNat_of_zero_le h0
  have hc := colon_scheme hs
  have hl : (58 : UInt8) ∉ lettersN n letterTab := fun hm => by
    rcases letters_mem n _ hm with e | e | e | e | e <;> exact absurd e (by decide)
  have e1 : Lib.index (Ent.text ⟨(n : Int), sc, id⟩) [58] = sc.length := index_at _ _ _ hc
  have e3 : Ent.text ⟨(n : Int), sc, id⟩ = (sc ++ 58 :: id) ++ 58 :: lettersN n letterTab := by simp [Ent.text]
  have e2 : Lib.lastIndex (Ent.text ⟨(n : Int), sc, id⟩) [58] = (sc ++ 58 :: id).length := by
    rw [e3]; exact lastIndex_at _ _ _ hl
  unfold entOf
  rw [e1, e2, if_neg (by simp; omega)]
  have e4 : (Ent.text ⟨(n : Int), sc, id⟩).drop ((((sc ++ 58 :: id).length : Nat) : Int).toNat + 1) = lettersN n letterTab := by
    rw [e3, Int.toNat_natCast, ← List.drop_drop, List.drop_left]; rfl
  have e5 : (Ent.text ⟨(n : Int), sc, id⟩).take (((sc.length : Nat) : Int).toNat) = sc := by
    rw [Int.toNat_natCast]; exact List.take_left
  have e6 : ((Ent.text ⟨(n : Int), sc, id⟩).take ((((sc ++ 58 :: id).length : Nat) : Int).toNat)).drop ((((sc.length : Nat) : Int)).toNat + 1) = id := by
    rw [Int.toNat_natCast, Int.toNat_natCast, e3, List.take_left, ← List.drop_drop, List.drop_left]; rfl
  have e7 := perm_back ⟨n, by omega⟩
  rw [e4, e5, e6]
  simp only at e7
  rw [e7]
  simp only [h, if_true]

theorem comma_scheme {sc : List UInt8} (h : sc = bWorld ∨ sc = bDigest ∨ sc = bIp) : (44 : UInt8) ∉ sc := by
  rcases h with rfl | rfl | rfl <;> decide

theorem text_comma (a : Ent) (h : a.right = true) : (44 : UInt8) ∉ a.text := by
  obtain ⟨h0, h1, hs, ht, hi⟩ := rightL_parts h
  intro hm
  simp only [Ent.text, List.mem_append, List.mem_cons] at hm
  rcases hm with hm | hm | hm | hm | hm
  · exact comma_scheme hs hm
  · exact absurd hm (by decide)
  · exact okByte_comma hi hm
  · exact absurd hm (by decide)
  · rcases letters_mem _ _ hm with e | e | e | e | e <;> exact absurd e (by decide)

theorem list_back : ∀ (l : List Ent) (n : Nat), (∀ a ∈ l, a.right = true) → l.length ≤ n → listOf n (l.map Ent.text) = some l
  | [], n, _, _ => rfl
  | a :: l, n, h, hn => by
    simp only [List.map_cons, listOf, ent_back a (h a (by simp))]
    have hn' : l.length + 1 ≤ n := hn
    rw [if_neg (by omega), list_back l (n - 1) (fun b hb => h b (List.mem_cons_of_mem _ hb)) (by omega)]

theorem text_ne_nil (a : Ent) : a.text ≠ [] := by simp [Ent.text]
theorem textOf_ne_nil (a : Ent) (l : List Ent) : textOf (a :: l) ≠ [] := by
  unfold textOf
  rw [List.map_cons, Lib.join_cons]
  intro h
  exact text_ne_nil a (List.append_eq_nil_iff.1 h).1

/-- PARSE OF TEXT IS THE LIST. -/
theorem parse_text (l : List Ent) (h : ∀ a ∈ l, a.right = true) (hn : l.length ≤ 16) : parseOf (textOf l) = some l := by
  cases l with
  | nil => rfl
  | cons a l =>
    unfold parseOf
    rw [if_neg (textOf_ne_nil a l)]
    unfold textOf
    rw [List.map_cons, split_join 44 _ _ (fun t ht => ?_)]
    · exact list_back (a :: l) 16 h hn
    · rw [← List.map_cons] at ht
      obtain ⟨b, hb, rfl⟩ := List.mem_map.1 ht
      exact text_comma b (h b hb)

theorem entOf_right {s : List UInt8} {a : Ent} (h : entOf s = some a) : a.right = true := by
  unfold entOf at h
  split at h
  · cases h
  · split at h
    · cases h
    · simp only at h
      split at h
      · rename_i hr
        cases h
        exact hr
      · cases h

theorem listOf_right : ∀ (n : Nat) (ps : List (List UInt8)) (l : List Ent), listOf n ps = some l → (∀ a ∈ l, a.right = true) ∧ l.length ≤ n ∧ l.length = ps.length
  | n, [], l, h => by
    simp only [listOf, Option.some.injEq] at h
    subst h
    simp
  | n, p :: r, l, h => by
    simp only [listOf] at h
    split at h
    · cases h
    · rename_i a ha
      split at h
      · cases h
      · split at h
        · cases h
        · rename_i l' hl
          simp only [Option.some.injEq] at h
          subst h
          obtain ⟨h1, h2, h3⟩ := listOf_right (n - 1) r l' hl
          refine ⟨fun b hb => ?_, ?_, ?_⟩
          · rcases List.mem_cons.1 hb with rfl | hb
            · exact entOf_right ha
            · exact h1 b hb
          · simp only [List.length_cons]; omega
          · simp only [List.length_cons]; omega

theorem splitK_ne (sep : List UInt8) (save k : Nat) (s : List UInt8) : 1 ≤ (Lib.splitK sep save k s).length := by
  cases k with
  | zero => simp [Lib.splitK]
  | succ k =>
    unfold Lib.splitK
    split <;> simp

/-- WHAT PARSE ACCEPTS. -/
theorem parse_right {s : List UInt8} {l : List Ent} (h : parseOf s = some l) : (∀ a ∈ l, a.right = true) ∧ l.length ≤ 16 ∧ ((s ≠ []) ↔ 0 < l.length) := by
  unfold parseOf at h
  by_cases e : s = []
  · rw [if_pos e] at h
    cases h
    simp [e]
  · rw [if_neg e] at h
    obtain ⟨h1, h2, h3⟩ := listOf_right _ _ _ h
    have := splitK_ne [44] 0 (Lib.count s [44]) s
    exact ⟨h1, h2, by constructor
                      · intro _; rw [h3]; exact this
                      · intro _; exact e⟩
end Go.Proofs.YtepmkkeaidacmaaGreatDoor
