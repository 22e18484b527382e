/-
  The walk of entry: an entry of a piece of a text.
-/
import Derived.Test.YtepmkkeaidacmaaGreatDoorWalk6
import Derived.Lib.OthersKept
import Derived.RegionTactic
import Derived.BigRegion
namespace Go.Proofs.YtepmkkeaidacmaaGreatDoor
open Go.RowKit

theorem B_extract (l : List UInt8) (a b : Nat) : (B l).extract a b = B ((l.drop a).take (b - a)) := by
  rw [← B_of ((B l).extract a b), Lib.extract_data, B_data]

/-- The first and the last place of a byte. -/
theorem first_last (l : List UInt8) (c : UInt8) : (Lib.index l [c] = -1 ∧ Lib.lastIndex l [c] = -1) ∨
    ∃ f t : Nat, Lib.index l [c] = f ∧ Lib.lastIndex l [c] = t ∧ f ≤ t ∧ t < l.length := by
  by_cases h : c ∈ l
  · right
    obtain ⟨k, hk, hc⟩ := List.mem_iff_getElem.1 h
    have hocc : Lib.occAt l [c] k = true := by rw [occ_one]; simp [List.getElem?_eq_getElem hk, hc]
    rcases Lib.index_spec l [c] with ⟨_, hn⟩ | ⟨f, hf, hfl, hfo, hfn⟩
    · rw [hn k (by omega)] at hocc; cases hocc
    · have hpos : [c].length ≤ l.length := by simp; omega
      have hl : Lib.lastIndex l [c] = Lib.lastOcc l [c] (l.length - [c].length + 1) := by unfold Lib.lastIndex; rw [if_pos hpos]
      rcases Lib.lastOcc_spec l [c] (l.length - [c].length + 1) with ⟨_, hn⟩ | ⟨t, ht, he, hto, htn⟩
      · rw [hn k (by simp; omega)] at hocc; cases hocc
      · refine ⟨f, t, hf, hl.trans he, ?_, by simp at ht; omega⟩
        rcases Nat.lt_or_ge t f with hlt | hge
        · have := hfn t hlt
          rw [hto] at this
          cases this
        · exact hge
  · left
    refine ⟨index_no l c h, ?_⟩
    unfold Lib.lastIndex
    split
    · rcases Lib.lastOcc_spec l [c] (l.length - [c].length + 1) with ⟨he, _⟩ | ⟨t, ht, he, hto, htn⟩
      · exact he
      · rw [occ_one] at hto
        exact absurd (List.mem_of_getElem? (of_decide_eq_true hto)) h
    · rfl

/-- What entry ends with. -/
def EntEnds (l : List UInt8) (e : Ending) : Prop :=
  match entOf l with
  | some a => e = .returned (.tuple #[.agg #[.int .i32 a.p, .string (B a.sc), .string (B a.id)], .bool true])
  | none => ∃ (p : Int) (s t : ByteArray), e = .returned (.tuple #[.agg #[.int .i32 p, .string s, .string t], .bool false])

theorem ent_none {l : List UInt8} (h : entOf l = none) (p : Int) (s t : ByteArray) : EntEnds l (.returned (.tuple #[.agg #[.int .i32 p, .string s, .string t], .bool false])) := by
  unfold EntEnds
  rw [h]
  exact ⟨p, s, t, rfl⟩

theorem ent_end {l : List UInt8} {p : Int} {sc id : List UInt8} {b : Bool} (h : entOf l = if b = true then some ⟨p, sc, id⟩ else none) : EntEnds l (.returned (.tuple #[.agg #[.int .i32 p, .string (B sc), .string (B id)], .bool b])) := by
  cases b with
  | false => exact ent_none h _ _ _
  | true =>
    unfold EntEnds
    rw [h]
    rfl
theorem entOf_parts (l : List UInt8) (f t : Nat) (h1 : Lib.index l [58] = f) (h2 : Lib.lastIndex l [58] = t) (hne : f ≠ t) (sc id rest : List UInt8) (hsc : (l.drop 0).take (f - 0) = sc) (hid : (l.drop (f + 1)).take (t - (f + 1)) = id) (hrest : (l.drop (t + 1)).take (l.length - (t + 1)) = rest) :
    entOf l = match permLoop 0 rest with
      | none => none
      | some p => if Ent.right ⟨p, sc, id⟩ = true then some ⟨p, sc, id⟩ else none := by
  unfold entOf
  rw [h1, h2, if_neg (by omega), Int.toNat_natCast, Int.toNat_natCast]
  have e1 : l.take f = sc := by rw [← hsc]; simp
  have e2 : (l.take t).drop (f + 1) = id := by rw [← hid, List.drop_take]
  have e3 : l.drop (t + 1) = rest := by rw [← hrest, List.take_of_length_le (by simp)]
  rw [e1, e2, e3]
  cases permLoop 0 rest <;> rfl

def letIdx (b : UInt8) : Int := if b = 99 then 0 else if b = 100 then 1 else if b = 114 then 2 else if b = 119 then 3 else if b = 97 then 4 else -1
theorem letIdx_eq : ∀ b : Fin 128, Lib.indexByte [99, 100, 114, 119, 97] (UInt8.ofNat b.val) = letIdx (UInt8.ofNat b.val) := by decide
theorem indexRune_low (b : UInt8) (h : b.toNat < 128) (w : World) :
    Calls Tryz.prog 41 #[.string ⟨#[99, 100, 114, 119, 97]⟩, .int .i32 (b.toNat : Int)] w fun e w' => e = .returned (.int .i64 (letIdx b)) ∧ w = w' := by
  refine (Tryz.strings_IndexRune_ascii ⟨#[99, 100, 114, 119, 97]⟩ (b.toNat : Int) w (by omega) (by omega)).mono ?_
  rintro e w' ⟨rfl, rfl⟩
  refine ⟨?_, rfl⟩
  have h1 : (((b.toNat : Nat) : Int)).toNat.toUInt8 = b := by simp
  rw [h1]
  have h2 := letIdx_eq ⟨b.toNat, h⟩
  simp only [UInt8.ofNat_toNat] at h2
  show Ending.returned (.int .i64 (Lib.indexByte [99, 100, 114, 119, 97] b)) = _
  rw [h2]
theorem indexRune_hi (r : Nat) (h : 128 ≤ r) (hv : Utf8.valid (r : Int) = true) (w : World) :
    Calls Tryz.prog 41 #[.string ⟨#[99, 100, 114, 119, 97]⟩, .int .i32 r] w fun e w' => e = .returned (.int .i64 (-1)) ∧ Below w.heap.size w w' := by
  by_cases he : r = 65533
  · subst he
    exact indexRune_bad w
  · exact indexRune_high r h he hv w
theorem letIdx_cases (b : UInt8) : (letIdx b = -1 ∧ letterBit b = 0) ∨ (letIdx b = 0 ∧ letterBit b = 4) ∨ (letIdx b = 1 ∧ letterBit b = 8) ∨ (letIdx b = 2 ∧ letterBit b = 1) ∨ (letIdx b = 3 ∧ letterBit b = 2) ∨ (letIdx b = 4 ∧ letterBit b = 16) := by
  unfold letIdx letterBit
  by_cases h1 : b = 99
  · simp [h1]
  · by_cases h2 : b = 100
    · simp [h2]
    · by_cases h3 : b = 114
      · simp [h3]
      · by_cases h4 : b = 119
        · simp [h4]
        · by_cases h5 : b = 97
          · simp [h5]
          · simp [h1, h2, h3, h4, h5]
theorem letterBit_high (b : UInt8) (h : 128 ≤ b.toNat) : letterBit b = 0 := by
  have : ∀ k : Nat, k < 128 → b ≠ UInt8.ofNat k := fun k hk e => by
    subst e
    rw [UInt8.toNat_ofNat'] at h
    omega
  unfold letterBit
  rw [if_neg (show ¬ b = 99 from this 99 (by decide)), if_neg (show ¬ b = 100 from this 100 (by decide)), if_neg (show ¬ b = 114 from this 114 (by decide)), if_neg (show ¬ b = 119 from this 119 (by decide)), if_neg (show ¬ b = 97 from this 97 (by decide))]
theorem or_bit : ∀ p : Fin 32, ∀ b ∈ [4, 8, 1, 2, 16], bits .or .i32 (p.val : Int) ((b : Nat) : Int) = ((p.val ||| b : Nat) : Int) ∧ p.val ||| b ≤ 31 := by decide
theorem perm_bad (p : Nat) (b : UInt8) (r : List UInt8) (h : letterBit b = 0) : permLoop p (b :: r) = none := by
  rw [permLoop, if_pos h]
theorem perm_twice (p : Nat) (b : UInt8) (r : List UInt8) {x : Nat} (h : letterBit b = x) (h0 : x ≠ 0) (hp : (p &&& x != 0) = true) : permLoop p (b :: r) = none := by
  rw [permLoop, h, if_neg h0, if_pos hp]
theorem perm_step (p : Nat) (b : UInt8) (r : List UInt8) {x : Nat} (h : letterBit b = x) (h0 : x ≠ 0) (hp : (p &&& x != 0) = false) : permLoop p (b :: r) = permLoop (p ||| x) r := by
  rw [permLoop, h, if_neg h0, if_neg (by rw [hp]; decide)]

/-- One step of a range over a string: an ASCII byte, or a rune that is none. -/
theorem next_byte {P : Program} (wr : World) (k : Nat) (l : List UInt8) (pos : Nat) (hit : wr.heap[k]? = some (.stringIter (B l) pos)) (h : pos < l.length) :
    ∃ b, l.drop pos = b :: l.drop (pos + 1) ∧
      ((b.toNat < 128 ∧ ∀ ty, (Instr.next (.pointer (some ⟨k, 0, none⟩)) true ty).run P wr = .ok (.tuple #[.bool true, .int .i64 pos, .int .i32 (b.toNat : Int)]) (wr.iterAt k (B l) (pos + 1))) ∨
       (128 ≤ b.toNat ∧ ∃ r n : Nat, 128 ≤ r ∧ Utf8.valid (r : Int) = true ∧ ∀ ty, (Instr.next (.pointer (some ⟨k, 0, none⟩)) true ty).run P wr = .ok (.tuple #[.bool true, .int .i64 pos, .int .i32 (r : Int)]) (wr.iterAt k (B l) (pos + n)))) := by
  have hp' : pos < (B l).size := by rw [B_size]; exact h
  refine ⟨l[pos], List.drop_eq_getElem_cons h, ?_⟩
  have hnx := fun ty => Lib.run_next_any_at (P := P) wr k (B l) pos ty hit hp'
  by_cases ha : (l[pos]).toNat < 128
  · left
    refine ⟨ha, fun ty => ?_⟩
    rw [hnx ty, decode_ascii (B l) pos hp' ha]
    rfl
  · right
    obtain ⟨_, _, _, d4, d5⟩ := decode_spans (B l) pos hp' (by show 128 ≤ ((B l).get! pos).toNat; rw [B_get! l pos h]; omega)
    exact ⟨by omega, (Utf8.decode (B l) pos).1, (Utf8.decode (B l) pos).2, d4, d5, fun ty => hnx ty⟩

/-- Block g is just these cells. -/
def Blk (w : World) (g : Nat) (t : TypeId) (cs : Array Value) : Prop := w.heap[g]? = some (.cells cs t (0, 0))
section
variable {w w' : World} {g : Nat} {t : TypeId} {cs : Array Value}
theorem Blk.lt (h : Blk w g t cs) : g < w.heap.size := (Array.getElem?_eq_some_iff.1 h).1
theorem Blk.cell (h : Blk w g t cs) (i : Nat) : w.cell? ⟨g, i, none⟩ = cs[i]? := cell_of_row w g i cs t (0, 0) h
theorem Blk.free (h : Blk w g t cs) (i : Nat) : w.frozen? ⟨g, i, none⟩ = false := by
  unfold Blk at h
  simp [World.frozen?, h]
theorem Blk.below {b : Nat} (h : Blk w g t cs) (hb : Below b w w') (hg : g < b) : Blk w' g t cs := (hb.block g hg).trans h
theorem Blk.drew (h : Blk w g t cs) : Blk w.drew g t cs := h
theorem Blk.drewN (h : Blk w g t cs) (n : Nat) : Blk (w.drewN n) g t cs := h
theorem Blk.put (h : Blk w g t cs) (i : Nat) (u : Value) : Blk (w.setCell ⟨g, i, none⟩ u) g t (cs.setIfInBounds i u) := by
  unfold Blk at h ⊢
  simp [World.setCell, Array.getElem?_modify, h]
theorem Blk.far (h : Blk w g t cs) {p : Addr} (hp : g ≠ p.block) (u : Value) : Blk (w.setCell p u) g t cs := (Below.heap_setCell w p u g hp).trans h
theorem Blk.iter (h : Blk w g t cs) {k : Nat} {s : ByteArray} {pos pos' : Nat} (hk : w.heap[k]? = some (.stringIter s pos)) : Blk (w.iterAt k s pos') g t cs := by
  unfold Blk at h ⊢
  rw [Lib.iterAt_other w k g s pos' ?_]
  · exact h
  · rintro rfl
    rw [h] at hk
    cases hk
end

/-- The loop over the permissions' letters. -/
structure EntLoop (rest sc id : List UInt8) (w wr : World) (g : Nat) : Prop where
  st : ∃ p pos : Nat, p ≤ 31 ∧ pos ≤ rest.length ∧ permLoop 0 rest = permLoop p (rest.drop pos) ∧ Blk wr (w.heap.size + 1) 44 #[.int .i32 (p : Int), .string (B sc), .string (B id)] ∧ wr.heap[g + 1]? = some (.stringIter (B rest) pos)
  env : Env wr
  below : Below w.heap.size w wr
  bits : Blk wr g 38 #[.int .i32 4, .int .i32 8, .int .i32 1, .int .i32 2, .int .i32 16]
  res : Blk wr w.heap.size 44 #[.int .i32 0, .string ⟨#[]⟩, .string ⟨#[]⟩]
  low : w.heap.size + 1 < g

theorem ent_rel {rest sc id : List UInt8} {w wi : World} {g p pos : Nat} (he : Env w) (hb : Below w.heap.size w wi) (low : w.heap.size + 1 < g)
    (hent : Blk wi (w.heap.size + 1) 44 #[.int .i32 (p : Int), .string (B sc), .string (B id)]) (hit : wi.heap[g + 1]? = some (.stringIter (B rest) (pos + 1)))
    (hbits : Blk wi g 38 #[.int .i32 4, .int .i32 8, .int .i32 1, .int .i32 2, .int .i32 16]) (hres : Blk wi w.heap.size 44 #[.int .i32 0, .string ⟨#[]⟩, .string ⟨#[]⟩])
    (n x : Nat) (hx : p ||| x ≤ 31) (hp : pos + 1 ≤ rest.length) (hperm : permLoop 0 rest = permLoop (p ||| x) (rest.drop (pos + 1))) :
    EntLoop rest sc id w ((wi.drewN n).setCell ⟨w.heap.size + 1, 0, none⟩ (.int .i32 ((p ||| x : Nat) : Int))) g := by
  have hbb : Below w.heap.size w ((wi.drewN n).setCell ⟨w.heap.size + 1, 0, none⟩ (.int .i32 ((p ||| x : Nat) : Int))) := (below_drewN hb n).setCell (p := ⟨w.heap.size + 1, 0, none⟩) (Nat.le_succ _) _
  refine ⟨⟨p ||| x, pos + 1, hx, hp, hperm, (hent.drewN n).put 0 _, ?_⟩, he.below hbb, hbb, (hbits.drewN n).far (by show g ≠ w.heap.size + 1; omega) _, (hres.drewN n).far (by show w.heap.size ≠ w.heap.size + 1; omega) _, low⟩
  exact (Below.heap_setCell (wi.drewN n) ⟨w.heap.size + 1, 0, none⟩ _ (g + 1) (by show g + 1 ≠ w.heap.size + 1; omega)).trans hit
theorem ent_measure {rest : List UInt8} {wi wr : World} {g pos k : Nat} (hit : wi.heap[g + 1]? = some (.stringIter (B rest) (pos + 1))) (hit0 : wr.heap[g + 1]? = some (.stringIter (B rest) pos)) (n : Nat) (u : Value)
    (hk : g + 1 ≠ k) (hp : pos < rest.length) : rest.length - ((wi.drewN n).setCell ⟨k, 0, none⟩ u).iterPos (g + 1) < rest.length - wr.iterPos (g + 1) := by
  have h : ((wi.drewN n).setCell ⟨k, 0, none⟩ u).heap[g + 1]? = some (.stringIter (B rest) (pos + 1)) := (Below.heap_setCell (wi.drewN n) ⟨k, 0, none⟩ _ (g + 1) hk).trans hit
  simp only [World.iterPos, h, hit0]
  omega

set_option maxHeartbeats 3200000 in
set_option maxRecDepth 100000 in
theorem entry_calls (l : List UInt8) (hl : l.length ≤ 4294967280) (w : World) (he : Env w) :
    Calls Tryz.prog 21 #[.string (B l)] w fun e w' => EntEnds l e ∧ Below w.heap.size w w' := by
  have hsz : (B l).size = l.length := B_size l
  have hI := Lib.hid fun W hW => lib_index l 58 hl W hW
  have hL := Lib.hid fun W => lib_lastIndex l 58 hl W
  rcases first_last l 58 with ⟨h1, h2⟩ | ⟨f, t, h1, h2, hft, htl⟩
  · have hN : entOf l = none := by unfold entOf; rw [h1, h2, if_pos rfl]
    have H1 := Lib.hid h1
    have H2 := Lib.hid h2
    have HN := Lib.hid hN
    clear h1 h2 hN
    go_enter Tryz.func21, Tryz.ntmps21
    go_wp2_with (go_at_call 39; refine (hI.out _ (he.below ((Below.refl _ _).alloc (Nat.le_refl _) _))).mono ?_; rintro e w1 ⟨rfl, rfl⟩; rw [H1.out])
    go_wp2_with (go_at_call 40; refine (hL.out _).mono ?_; rintro e w1 ⟨rfl, rfl⟩; rw [H2.out])
    go_wp2
    refine bodyPost_ret (v := .tuple #[.agg #[.int .i32 0, .string ⟨#[]⟩, .string ⟨#[]⟩], .bool false]) (by simp [results, Tryz.results21, go_sem]) rfl ⟨ent_none HN.out _ _ _, ?_⟩
    exact (Below.refl _ _).alloc (Nat.le_refl _) _
  · have H1 := Lib.hid h1
    have H2 := Lib.hid h2
    by_cases hne : f = t
    · have hN : entOf l = none := by unfold entOf; rw [h1, h2, hne, if_pos rfl]
      have HN := Lib.hid hN
      have hft' : ((f : Int) == (t : Int)) = true := beq_iff_eq.2 (by omega)
      clear h1 h2 hN hne
      go_enter Tryz.func21, Tryz.ntmps21
      go_wp2_with (go_at_call 39; refine (hI.out _ (he.below ((Below.refl _ _).alloc (Nat.le_refl _) _))).mono ?_; rintro e w1 ⟨rfl, rfl⟩; rw [H1.out])
      go_wp2_with (go_at_call 40; refine (hL.out _).mono ?_; rintro e w1 ⟨rfl, rfl⟩; rw [H2.out])
      go_wp2
      refine bodyPost_ret (v := .tuple #[.agg #[.int .i32 0, .string ⟨#[]⟩, .string ⟨#[]⟩], .bool false]) (by simp [results, Tryz.results21, go_sem]) rfl ⟨ent_none HN.out _ _ _, ?_⟩
      exact (Below.refl _ _).alloc (Nat.le_refl _) _
    · have hft' : ((f : Int) == (t : Int)) = false := beq_eq_false_iff_ne.2 (by omega)
      have hlt : f < t := by omega
      clear hft hne h1 h2
      have hLe := Lib.hid fun W => letters_calls W
      go_enter Tryz.func21, Tryz.ntmps21
      go_wp2_with (go_at_call 39; refine (hI.out _ (he.below ((Below.refl _ _).alloc (Nat.le_refl _) _))).mono ?_; rintro e w1 ⟨rfl, rfl⟩; rw [H1.out])
      go_wp2_with (go_at_call 40; refine (hL.out _).mono ?_; rintro e w1 ⟨rfl, rfl⟩; rw [H2.out])
      go_wp2
      go_region
      go_wp2_with fail
      refine (hLe.out _).mono ?_
      rintro e w1 ⟨rfl, hb1⟩
      rw [B_extract l 0 f, B_extract l (f + 1) t] at hb1
      have hx := B_extract l (t + 1) l.length
      obtain ⟨sc, hsc⟩ : ∃ sc, (l.drop 0).take (f - 0) = sc := ⟨_, rfl⟩
      obtain ⟨id, hid⟩ : ∃ id, (l.drop (f + 1)).take (t - (f + 1)) = id := ⟨_, rfl⟩
      obtain ⟨rest, hrest⟩ : ∃ rest, (l.drop (t + 1)).take (l.length - (t + 1)) = rest := ⟨_, rfl⟩
      have hsz1 : w.heap.size + 1 < w1.heap.size := by have := hb1.size; simp at this; omega
      have hbw1 : Below w.heap.size w w1 := (((Below.refl _ _).alloc (Nat.le_refl _) _).alloc (by simp) _).drew.trans (hb1.mono (by simp; omega))
      have hres1 : Blk w1 w.heap.size 44 #[.int .i32 0, .string ⟨#[]⟩, .string ⟨#[]⟩] := by
        have h1 : Blk (w.alloc (.cells #[.int .i32 0, .string ⟨#[]⟩, .string ⟨#[]⟩] 44)) w.heap.size 44 #[.int .i32 0, .string ⟨#[]⟩, .string ⟨#[]⟩] := heap_alloc_new w _
        exact (h1.below ((Below.refl _ _).alloc (Nat.le_refl _) _) (by simp)).drew.below hb1 (by simp; omega)
      have hent1 : Blk w1 (w.heap.size + 1) 44 #[.int .i32 ((0 : Nat) : Int), .string (B sc), .string (B id)] := by
        rw [hsc, hid] at hb1
        have h1 : Blk ((w.alloc (.cells #[.int .i32 0, .string ⟨#[]⟩, .string ⟨#[]⟩] 44)).alloc (.cells #[.int .i32 0, .string (B sc), .string (B id)] 44)) (w.heap.size + 1) 44 #[.int .i32 0, .string (B sc), .string (B id)] := by
          have := heap_alloc_new (w.alloc (.cells #[.int .i32 0, .string ⟨#[]⟩, .string ⟨#[]⟩] 44)) (.cells #[.int .i32 0, .string (B sc), .string (B id)] 44)
          simp only [World.size_alloc] at this
          exact this
        exact h1.drew.below hb1 (by simp)
      have hE := entOf_parts l f t H1.out H2.out (by omega) sc id rest hsc hid hrest
      have HE := Lib.hid hE
      have Hx := Lib.hid (hx.trans (by rw [hrest]))
      have HLen := Lib.hid (show sc.length ≤ 4294967280 ∧ id.length ≤ 4294967280 from by
        rw [← hsc, ← hid]
        constructor
        · exact Nat.le_trans (List.length_take_le' _ _) (by simp; omega)
        · exact Nat.le_trans (List.length_take_le' _ _) (by simp; omega))
      clear hx hsc hid hrest hb1 hE
      have R1 := Lib.hid hres1
      have A1 := Lib.hid hent1
      clear hres1 hent1
      go_wp2
      rw [Hx.out]
      go_loopw [11] (fun _ wr => EntLoop rest sc id w wr w1.heap.size) (fun _ wr => rest.length - wr.iterPos (w1.heap.size + 1))
      case atStart =>
        refine ⟨⟨0, 0, by omega, by omega, rfl, ?_, ?_⟩, ?_, ?_, ?_, ?_, hsz1⟩
        · exact (A1.out.below ((Below.refl _ _).alloc (Nat.le_refl _) _) hsz1).below ((Below.refl _ _).alloc (Nat.le_refl _) _) (by simp; omega)
        · have := World.iter_heap (w1.alloc (.cells #[.int .i32 4, .int .i32 8, .int .i32 1, .int .i32 2, .int .i32 16] 38)) (B rest) 0
          simpa using this
        · exact he.below (below_iter (hbw1.alloc hbw1.size _) (by have := hbw1.size; simp; omega) _ _)
        · exact below_iter (hbw1.alloc hbw1.size _) (by have := hbw1.size; simp; omega) _ _
        · have h1 : Blk (w1.alloc (.cells #[.int .i32 4, .int .i32 8, .int .i32 1, .int .i32 2, .int .i32 16] 38)) w1.heap.size 38 #[.int .i32 4, .int .i32 8, .int .i32 1, .int .i32 2, .int .i32 16] := heap_alloc_new w1 _
          exact h1.below ((Below.refl _ _).alloc (Nat.le_refl _) _) (by simp)
        · exact (R1.out.below ((Below.refl _ _).alloc (Nat.le_refl _) _) (by omega)).below ((Below.refl _ _).alloc (Nat.le_refl _) _) (by simp; omega)
      case round =>
        obtain ⟨⟨p, pos, hp31, hpos, hperm, hent, hit⟩, hen, hbr, hbits, hres, hlow⟩ := hrel
        have hszr : w1.heap.size + 1 < wr.heap.size := (Array.getElem?_eq_some_iff.1 hit).1
        have HPm := Lib.hid hperm
        clear hperm
        by_cases hp : pos < rest.length
        · obtain ⟨b, hdrop, hcase⟩ := next_byte (P := Tryz.prog) wr (w1.heap.size + 1) rest pos hit hp
          have Hdrop := Lib.hid hdrop
          clear hdrop
          rcases hcase with ⟨ha, hnx⟩ | ⟨ha, r, n, hr1, hr2, hnx⟩
          · have hit2 := Lib.iterAt_heap wr (w1.heap.size + 1) (B rest) pos (pos + 1) hit
            have hent2 := hent.iter (pos' := pos + 1) hit
            have hbits2 := hbits.iter (pos' := pos + 1) hit
            have hres2 := hres.iter (pos' := pos + 1) hit
            have hbr2 := Lib.below_iterAt hbr (k := w1.heap.size + 1) (by omega) (B rest) (pos + 1)
            have hz2 := Lib.iterAt_size wr (w1.heap.size + 1) (B rest) (pos + 1)
            generalize wr.iterAt (w1.heap.size + 1) (B rest) (pos + 1) = wi at hnx hit2 hent2 hbits2 hres2 hbr2 hz2
            have c0 : wi.cell? ⟨w.heap.size + 1, 0, none⟩ = some (.int .i32 (p : Int)) := hent2.cell 0
            have f0 := hent2.free 0
            have b0 : wi.cell? ⟨w1.heap.size, 0, none⟩ = some (.int .i32 4) := hbits2.cell 0
            have b1 : wi.cell? ⟨w1.heap.size, 1, none⟩ = some (.int .i32 8) := hbits2.cell 1
            have b2 : wi.cell? ⟨w1.heap.size, 2, none⟩ = some (.int .i32 1) := hbits2.cell 2
            have b3 : wi.cell? ⟨w1.heap.size, 3, none⟩ = some (.int .i32 2) := hbits2.cell 3
            have b4 : wi.cell? ⟨w1.heap.size, 4, none⟩ = some (.int .i32 16) := hbits2.cell 4
            have r0 : wi.cell? ⟨w.heap.size, 0, none⟩ = some (.int .i32 0) := hres2.cell 0
            have r1 : wi.cell? ⟨w.heap.size, 1, none⟩ = some (.string ⟨#[]⟩) := hres2.cell 1
            have r2 : wi.cell? ⟨w.heap.size, 2, none⟩ = some (.string ⟨#[]⟩) := hres2.cell 2
            have g0 := hres2.free 0
            have g1 := hres2.free 1
            have g2 := hres2.free 2
            have RI := Lib.hid fun W => indexRune_low b ha W
            have HIt := Lib.hid hit2
            have HEn := Lib.hid hent2
            have HBi := Lib.hid hbits2
            have HRe := Lib.hid hres2
            have HZ := Lib.hid hz2
            have HIt0 := Lib.hid hit
            clear hit2 hent2 hbits2 hres2 hz2 hent hit hbits hres
            rcases letIdx_cases b with ⟨j1, j2⟩ | ⟨j1, j2⟩ | ⟨j1, j2⟩ | ⟨j1, j2⟩ | ⟨j1, j2⟩ | ⟨j1, j2⟩
            · have J1 := Lib.hid j1
              have hN : entOf l = none := by rw [HE.out, HPm.out, Hdrop.out, perm_bad p b _ j2]
              have HN := Lib.hid hN
              clear j1 j2 hN
              go_wp2_with (go_at_call 41; refine (RI.out _).mono ?_; rintro e w' ⟨rfl, rfl⟩; rw [J1.out])
              go_wp2
              go_quiet (fail)
              go_wp2
              refine bodyPost_ret (v := .tuple #[.agg #[.int .i32 0, .string ⟨#[]⟩, .string ⟨#[]⟩], .bool false]) (by simp [results, Tryz.results21, go_sem, r0, r1, r2]) rfl ⟨ent_none HN.out _ _ _, ?_⟩
              exact (((below_drewN hbr2 _).setCell (p := ⟨w.heap.size, 0, none⟩) (Nat.le_refl _) _).setCell (p := ⟨w.heap.size, 1, none⟩) (Nat.le_refl _) _).setCell (p := ⟨w.heap.size, 2, none⟩) (Nat.le_refl _) _
            · have J1 := Lib.hid j1
              have J2 := Lib.hid j2
              clear j1 j2
              cases ht : (p &&& 4 != 0)
              · obtain ⟨o1, o2⟩ := or_bit ⟨p, by omega⟩ 4 (by decide)
                have o1 : bits .or .i32 (p : Int) 4 = ((p ||| 4 : Nat) : Int) := o1
                have hk : (bits .and .i32 (p : Int) 4 != 0) = false := (and_bit ⟨p, by omega⟩ 4 (by decide)).trans ht
                have HP2 := Lib.hid ((HPm.out.trans (by rw [Hdrop.out])).trans (perm_step p b (rest.drop (pos + 1)) J2.out (by decide) ht))
                have O2 := Lib.hid o2
                clear ht o2
                go_wp2_with (go_at_call 41; refine (RI.out _).mono ?_; rintro e w' ⟨rfl, rfl⟩; rw [J1.out])
                go_wp2
                go_quiet (fail)
                go_wp2
                go_region
                go_wp2
                go_roundw
                case rel => exact ent_rel he hbr2 hlow HEn.out HIt.out HBi.out HRe.out _ 4 O2.out (by omega) HP2.out
                case measure => exact ent_measure HIt.out HIt0.out _ _ (by omega) hp
              · have hk : (bits .and .i32 (p : Int) 4 != 0) = true := (and_bit ⟨p, by omega⟩ 4 (by decide)).trans ht
                have hN : entOf l = none := by rw [HE.out, HPm.out, Hdrop.out, perm_twice p b _ J2.out (by decide) ht]
                have HN := Lib.hid hN
                clear ht hN
                go_wp2_with (go_at_call 41; refine (RI.out _).mono ?_; rintro e w' ⟨rfl, rfl⟩; rw [J1.out])
                go_wp2
                go_quiet (fail)
                go_wp2
                refine bodyPost_ret (v := .tuple #[.agg #[.int .i32 0, .string ⟨#[]⟩, .string ⟨#[]⟩], .bool false]) (by simp [results, Tryz.results21, go_sem, r0, r1, r2]) rfl ⟨ent_none HN.out _ _ _, ?_⟩
                exact (((below_drewN hbr2 _).setCell (p := ⟨w.heap.size, 0, none⟩) (Nat.le_refl _) _).setCell (p := ⟨w.heap.size, 1, none⟩) (Nat.le_refl _) _).setCell (p := ⟨w.heap.size, 2, none⟩) (Nat.le_refl _) _
            · have J1 := Lib.hid j1
              have J2 := Lib.hid j2
              clear j1 j2
              cases ht : (p &&& 8 != 0)
              · obtain ⟨o1, o2⟩ := or_bit ⟨p, by omega⟩ 8 (by decide)
                have o1 : bits .or .i32 (p : Int) 8 = ((p ||| 8 : Nat) : Int) := o1
                have hk : (bits .and .i32 (p : Int) 8 != 0) = false := (and_bit ⟨p, by omega⟩ 8 (by decide)).trans ht
                have HP2 := Lib.hid ((HPm.out.trans (by rw [Hdrop.out])).trans (perm_step p b (rest.drop (pos + 1)) J2.out (by decide) ht))
                have O2 := Lib.hid o2
                clear ht o2
                go_wp2_with (go_at_call 41; refine (RI.out _).mono ?_; rintro e w' ⟨rfl, rfl⟩; rw [J1.out])
                go_wp2
                go_quiet (fail)
                go_wp2
                go_region
                go_wp2
                go_roundw
                case rel => exact ent_rel he hbr2 hlow HEn.out HIt.out HBi.out HRe.out _ 8 O2.out (by omega) HP2.out
                case measure => exact ent_measure HIt.out HIt0.out _ _ (by omega) hp
              · have hk : (bits .and .i32 (p : Int) 8 != 0) = true := (and_bit ⟨p, by omega⟩ 8 (by decide)).trans ht
                have hN : entOf l = none := by rw [HE.out, HPm.out, Hdrop.out, perm_twice p b _ J2.out (by decide) ht]
                have HN := Lib.hid hN
                clear ht hN
                go_wp2_with (go_at_call 41; refine (RI.out _).mono ?_; rintro e w' ⟨rfl, rfl⟩; rw [J1.out])
                go_wp2
                go_quiet (fail)
                go_wp2
                refine bodyPost_ret (v := .tuple #[.agg #[.int .i32 0, .string ⟨#[]⟩, .string ⟨#[]⟩], .bool false]) (by simp [results, Tryz.results21, go_sem, r0, r1, r2]) rfl ⟨ent_none HN.out _ _ _, ?_⟩
                exact (((below_drewN hbr2 _).setCell (p := ⟨w.heap.size, 0, none⟩) (Nat.le_refl _) _).setCell (p := ⟨w.heap.size, 1, none⟩) (Nat.le_refl _) _).setCell (p := ⟨w.heap.size, 2, none⟩) (Nat.le_refl _) _
            · have J1 := Lib.hid j1
              have J2 := Lib.hid j2
              clear j1 j2
              cases ht : (p &&& 1 != 0)
              · obtain ⟨o1, o2⟩ := or_bit ⟨p, by omega⟩ 1 (by decide)
                have o1 : bits .or .i32 (p : Int) 1 = ((p ||| 1 : Nat) : Int) := o1
                have hk : (bits .and .i32 (p : Int) 1 != 0) = false := (and_bit ⟨p, by omega⟩ 1 (by decide)).trans ht
                have HP2 := Lib.hid ((HPm.out.trans (by rw [Hdrop.out])).trans (perm_step p b (rest.drop (pos + 1)) J2.out (by decide) ht))
                have O2 := Lib.hid o2
                clear ht o2
                go_wp2_with (go_at_call 41; refine (RI.out _).mono ?_; rintro e w' ⟨rfl, rfl⟩; rw [J1.out])
                go_wp2
                go_quiet (fail)
                go_wp2
                go_region
                go_wp2
                go_roundw
                case rel => exact ent_rel he hbr2 hlow HEn.out HIt.out HBi.out HRe.out _ 1 O2.out (by omega) HP2.out
                case measure => exact ent_measure HIt.out HIt0.out _ _ (by omega) hp
              · have hk : (bits .and .i32 (p : Int) 1 != 0) = true := (and_bit ⟨p, by omega⟩ 1 (by decide)).trans ht
                have hN : entOf l = none := by rw [HE.out, HPm.out, Hdrop.out, perm_twice p b _ J2.out (by decide) ht]
                have HN := Lib.hid hN
                clear ht hN
                go_wp2_with (go_at_call 41; refine (RI.out _).mono ?_; rintro e w' ⟨rfl, rfl⟩; rw [J1.out])
                go_wp2
                go_quiet (fail)
                go_wp2
                refine bodyPost_ret (v := .tuple #[.agg #[.int .i32 0, .string ⟨#[]⟩, .string ⟨#[]⟩], .bool false]) (by simp [results, Tryz.results21, go_sem, r0, r1, r2]) rfl ⟨ent_none HN.out _ _ _, ?_⟩
                exact (((below_drewN hbr2 _).setCell (p := ⟨w.heap.size, 0, none⟩) (Nat.le_refl _) _).setCell (p := ⟨w.heap.size, 1, none⟩) (Nat.le_refl _) _).setCell (p := ⟨w.heap.size, 2, none⟩) (Nat.le_refl _) _
            · have J1 := Lib.hid j1
              have J2 := Lib.hid j2
              clear j1 j2
              cases ht : (p &&& 2 != 0)
              · obtain ⟨o1, o2⟩ := or_bit ⟨p, by omega⟩ 2 (by decide)
                have o1 : bits .or .i32 (p : Int) 2 = ((p ||| 2 : Nat) : Int) := o1
                have hk : (bits .and .i32 (p : Int) 2 != 0) = false := (and_bit ⟨p, by omega⟩ 2 (by decide)).trans ht
                have HP2 := Lib.hid ((HPm.out.trans (by rw [Hdrop.out])).trans (perm_step p b (rest.drop (pos + 1)) J2.out (by decide) ht))
                have O2 := Lib.hid o2
                clear ht o2
                go_wp2_with (go_at_call 41; refine (RI.out _).mono ?_; rintro e w' ⟨rfl, rfl⟩; rw [J1.out])
                go_wp2
                go_quiet (fail)
                go_wp2
                go_region
                go_wp2
                go_roundw
                case rel => exact ent_rel he hbr2 hlow HEn.out HIt.out HBi.out HRe.out _ 2 O2.out (by omega) HP2.out
                case measure => exact ent_measure HIt.out HIt0.out _ _ (by omega) hp
              · have hk : (bits .and .i32 (p : Int) 2 != 0) = true := (and_bit ⟨p, by omega⟩ 2 (by decide)).trans ht
                have hN : entOf l = none := by rw [HE.out, HPm.out, Hdrop.out, perm_twice p b _ J2.out (by decide) ht]
                have HN := Lib.hid hN
                clear ht hN
                go_wp2_with (go_at_call 41; refine (RI.out _).mono ?_; rintro e w' ⟨rfl, rfl⟩; rw [J1.out])
                go_wp2
                go_quiet (fail)
                go_wp2
                refine bodyPost_ret (v := .tuple #[.agg #[.int .i32 0, .string ⟨#[]⟩, .string ⟨#[]⟩], .bool false]) (by simp [results, Tryz.results21, go_sem, r0, r1, r2]) rfl ⟨ent_none HN.out _ _ _, ?_⟩
                exact (((below_drewN hbr2 _).setCell (p := ⟨w.heap.size, 0, none⟩) (Nat.le_refl _) _).setCell (p := ⟨w.heap.size, 1, none⟩) (Nat.le_refl _) _).setCell (p := ⟨w.heap.size, 2, none⟩) (Nat.le_refl _) _
            · have J1 := Lib.hid j1
              have J2 := Lib.hid j2
              clear j1 j2
              cases ht : (p &&& 16 != 0)
              · obtain ⟨o1, o2⟩ := or_bit ⟨p, by omega⟩ 16 (by decide)
                have o1 : bits .or .i32 (p : Int) 16 = ((p ||| 16 : Nat) : Int) := o1
                have hk : (bits .and .i32 (p : Int) 16 != 0) = false := (and_bit ⟨p, by omega⟩ 16 (by decide)).trans ht
                have HP2 := Lib.hid ((HPm.out.trans (by rw [Hdrop.out])).trans (perm_step p b (rest.drop (pos + 1)) J2.out (by decide) ht))
                have O2 := Lib.hid o2
                clear ht o2
                go_wp2_with (go_at_call 41; refine (RI.out _).mono ?_; rintro e w' ⟨rfl, rfl⟩; rw [J1.out])
                go_wp2
                go_quiet (fail)
                go_wp2
                go_region
                go_wp2
                go_roundw
                case rel => exact ent_rel he hbr2 hlow HEn.out HIt.out HBi.out HRe.out _ 16 O2.out (by omega) HP2.out
                case measure => exact ent_measure HIt.out HIt0.out _ _ (by omega) hp
              · have hk : (bits .and .i32 (p : Int) 16 != 0) = true := (and_bit ⟨p, by omega⟩ 16 (by decide)).trans ht
                have hN : entOf l = none := by rw [HE.out, HPm.out, Hdrop.out, perm_twice p b _ J2.out (by decide) ht]
                have HN := Lib.hid hN
                clear ht hN
                go_wp2_with (go_at_call 41; refine (RI.out _).mono ?_; rintro e w' ⟨rfl, rfl⟩; rw [J1.out])
                go_wp2
                go_quiet (fail)
                go_wp2
                refine bodyPost_ret (v := .tuple #[.agg #[.int .i32 0, .string ⟨#[]⟩, .string ⟨#[]⟩], .bool false]) (by simp [results, Tryz.results21, go_sem, r0, r1, r2]) rfl ⟨ent_none HN.out _ _ _, ?_⟩
                exact (((below_drewN hbr2 _).setCell (p := ⟨w.heap.size, 0, none⟩) (Nat.le_refl _) _).setCell (p := ⟨w.heap.size, 1, none⟩) (Nat.le_refl _) _).setCell (p := ⟨w.heap.size, 2, none⟩) (Nat.le_refl _) _
          · have hres2 := hres.iter (pos' := pos + n) hit
            have hbr2 := Lib.below_iterAt hbr (k := w1.heap.size + 1) (by omega) (B rest) (pos + n)
            generalize wr.iterAt (w1.heap.size + 1) (B rest) (pos + n) = wi at hnx hres2 hbr2
            have RI := Lib.hid fun W => indexRune_hi r hr1 hr2 W
            have HRe := Lib.hid hres2
            have hN : entOf l = none := by rw [HE.out, HPm.out, Hdrop.out, perm_bad p b _ (letterBit_high b ha)]
            have HN := Lib.hid hN
            clear hN hres2 hit hent hbits hres hr2
            go_wp2_with fail
            refine (RI.out _).mono ?_
            rintro e wj ⟨rfl, hbj⟩
            have hlt := HRe.out.lt
            have hres3 := HRe.out.below hbj hlt
            have r0 : wj.cell? ⟨w.heap.size, 0, none⟩ = some (.int .i32 0) := hres3.cell 0
            have r1 : wj.cell? ⟨w.heap.size, 1, none⟩ = some (.string ⟨#[]⟩) := hres3.cell 1
            have r2 : wj.cell? ⟨w.heap.size, 2, none⟩ = some (.string ⟨#[]⟩) := hres3.cell 2
            have g0 := hres3.free 0
            have g1 := hres3.free 1
            have g2 := hres3.free 2
            have hbr3 := hbr2.trans (hbj.mono hbr2.size)
            clear hres3
            go_wp2
            go_quiet (fail)
            go_wp2
            refine bodyPost_ret (v := .tuple #[.agg #[.int .i32 0, .string ⟨#[]⟩, .string ⟨#[]⟩], .bool false]) (by simp [results, Tryz.results21, go_sem, r0, r1, r2]) rfl ⟨ent_none HN.out _ _ _, ?_⟩
            exact (((below_drewN hbr3 _).setCell (p := ⟨w.heap.size, 0, none⟩) (Nat.le_refl _) _).setCell (p := ⟨w.heap.size, 1, none⟩) (Nat.le_refl _) _).setCell (p := ⟨w.heap.size, 2, none⟩) (Nat.le_refl _) _
        · have hp' : ¬ pos < (B rest).size := by rw [B_size]; exact hp
          have hnx : ∀ ty, (Instr.next (.pointer (some ⟨w1.heap.size + 1, 0, none⟩)) true ty).run Tryz.prog wr = _ := fun ty => Lib.run_next_end_at wr (w1.heap.size + 1) (B rest) pos ty hit hp'
          have HIt := Lib.hid hit
          have c0 : wr.cell? ⟨w.heap.size + 1, 0, none⟩ = some (.int .i32 (p : Int)) := hent.cell 0
          have c1 : wr.cell? ⟨w.heap.size + 1, 1, none⟩ = some (.string (B sc)) := hent.cell 1
          have c2 : wr.cell? ⟨w.heap.size + 1, 2, none⟩ = some (.string (B id)) := hent.cell 2
          have HEn := Lib.hid hent
          have HRe := Lib.hid hres
          have ha1 := hent.lt
          obtain ⟨rb, hrb⟩ : ∃ rb, Ent.right ⟨(p : Int), sc, id⟩ = rb := ⟨_, rfl⟩
          have hdn : rest.drop pos = [] := List.drop_eq_nil_of_le (by omega)
          have HE2 : Hid (entOf l = if rb = true then some ⟨(p : Int), sc, id⟩ else none) := by
            rw [HE.out, HPm.out, hdn]
            show (if Ent.right ⟨(p : Int), sc, id⟩ = true then _ else _) = _
            rw [hrb]
          have hlsc : sc.length ≤ 4294967280 ∧ id.length ≤ 4294967280 := HLen.out
          have R := Lib.hid (fun W hW => right_calls ⟨(p : Int), sc, id⟩ hlsc.1 hlsc.2 W hW)
          simp only [hrb] at R
          clear hit hent hres hrb hdn hbits
          go_wp2
          go_region_with (refine (R.out _ hen.drew).mono ?_; rintro e w2 ⟨rfl, hb2⟩; have hres2 := HRe.out.drew.below hb2 (by show w.heap.size < wr.heap.size; omega); have hent2 := HEn.out.drew.below hb2 ha1; have r0 : w2.cell? ⟨w.heap.size, 0, none⟩ = some (.int .i32 0) := hres2.cell 0; have r1 : w2.cell? ⟨w.heap.size, 1, none⟩ = some (.string ⟨#[]⟩) := hres2.cell 1; have r2 : w2.cell? ⟨w.heap.size, 2, none⟩ = some (.string ⟨#[]⟩) := hres2.cell 2; have g0 := hres2.free 0; have g1 := hres2.free 1; have g2 := hres2.free 2; have d0 : w2.cell? ⟨w.heap.size + 1, 0, none⟩ = some (.int .i32 (p : Int)) := hent2.cell 0; have d1 : w2.cell? ⟨w.heap.size + 1, 1, none⟩ = some (.string (B sc)) := hent2.cell 1; have d2 : w2.cell? ⟨w.heap.size + 1, 2, none⟩ = some (.string (B id)) := hent2.cell 2; clear hres2 hent2)
          all_goals go_wp2
          all_goals have hb3 : Below w.heap.size w w2 := hbr.drew.trans (hb2.mono hbr.size)
          all_goals refine bodyPost_ret (v := .tuple #[.agg #[.int .i32 (p : Int), .string (B sc), .string (B id)], .bool rb]) (by simp [results, Tryz.results21, go_sem, r0, r1, r2]) rfl ⟨ent_end HE2.out, ?_⟩
          all_goals exact ((hb3.setCell (p := ⟨w.heap.size, 0, none⟩) (Nat.le_refl _) _).setCell (p := ⟨w.heap.size, 1, none⟩) (Nat.le_refl _) _).setCell (p := ⟨w.heap.size, 2, none⟩) (Nat.le_refl _) _
end Go.Proofs.YtepmkkeaidacmaaGreatDoor
