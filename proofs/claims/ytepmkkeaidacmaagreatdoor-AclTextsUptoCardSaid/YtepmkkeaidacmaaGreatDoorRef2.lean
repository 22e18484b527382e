/-
  The walks of the reference's cut, decimal, Address, Range, digest.
-/
import Derived.Test.YtepmkkeaidacmaaGreatDoorRef1
namespace Go.Proofs.YtepmkkeaidacmaaGreatDoor
open Go.RowKit

theorem reti {a b : Int} (h : a = b) : Ending.returned (.int .i64 a) = .returned (.int .i64 b) := by rw [h]
theorem B_piece (l : List UInt8) (a b : Nat) : (B l).extract a b = B ((l.drop a).take (b - a)) := by
  rw [← B_of ((B l).extract a b), Lib.extract_data, B_data]
theorem neq_byte {b c : UInt8} (h : b ≠ c) {n : Int} (hn : (c.toNat : Int) = n) : ((b.toNat : Int) != n) = true := by
  subst hn
  rw [bne_iff_ne]
  intro e
  exact h (UInt8.toNat_inj.1 (by omega))
theorem eq_byte {b c : UInt8} (h : b = c) {n : Int} (hn : (c.toNat : Int) = n) : ((b.toNat : Int) != n) = false := by
  subst hn h
  simp

/-! ### cut -/
def CutRel (l : List UInt8) (frm : Nat) (b : UInt8) (w wr : World) (i : Value) : Prop :=
  ∃ k q : Nat, frm ≤ k ∧ k ≤ l.length ∧ i = .int .i64 k ∧ (∀ j, frm ≤ j → j < k → l.getD j 0 ≠ b) ∧ wr = w.drewN q

set_option maxHeartbeats 800000 in
set_option maxRecDepth 100000 in
theorem cut_calls (l : List UInt8) (hl : l.length ≤ 4294967280) (frm : Nat) (hf : frm ≤ l.length) (b : UInt8) (n : Int) (hn : (b.toNat : Int) = n) (w : World) :
    Calls Tryz.prog 22 #[.string (B l), .int .i64 frm, .int .u8 n] w fun e w' => (∃ k : Nat, e = .returned (.int .i64 k) ∧ CutAt l frm b k) ∧ ∃ q, w' = w.drewN q := by
  have hsz : (B l).size = l.length := B_size l
  go_enter Tryz.func22, Tryz.ntmps22
  go_wp2_with fail
  go_loopw [1] (fun i wr => CutRel l frm b w wr i) (fun i _ => l.length - (intOf i).toNat)
  case atStart => exact ⟨frm, 0, by omega, hf, rfl, fun j _ _ => by omega, rfl⟩
  case round =>
    obtain ⟨k, q, h1, h2, rfl, hno, rfl⟩ := hrel
    have HO := Lib.hid hno
    clear hno
    by_cases hlt : k < l.length
    · have hp' : k < (B l).size := by rw [hsz]; exact hlt
      obtain ⟨c, hc⟩ : ∃ c, (B l)[k] = c := ⟨_, rfl⟩
      have HC := Lib.hid (show l.getD k 0 = c from by rw [← hc, B_at])
      by_cases he : c = b
      · have h3 := eq_byte he hn
        have HE := Lib.hid he
        clear he
        go_wp2_with fail
        go_ret
        exact ⟨⟨k, rfl, ⟨h1, h2, HO.out, fun _ => by rw [HC.out, HE.out]⟩⟩, _, rfl⟩
      · have h3 := neq_byte he hn
        have HE := Lib.hid he
        clear he
        go_wp2_with fail
        go_roundw
        case rel =>
          refine ⟨k + 1, _, by omega, by omega, by go_num, fun j hj1 hj2 => ?_, rfl⟩
          rcases Nat.lt_succ_iff_lt_or_eq.1 hj2 with h | rfl
          · exact HO.out j hj1 h
          · rw [HC.out]; exact HE.out
        case measure => simp [intOf]; omega
    · go_wp2_with fail
      go_ret
      exact ⟨⟨k, rfl, ⟨h1, h2, HO.out, fun h => absurd h hlt⟩⟩, _, rfl⟩

/-! ### decimal -/
theorem decimal_no {l : List UInt8} {most : Int} (hm : most ≤ 999) (h : l.length < 1 ∨ 3 < l.length ∨ (1 < l.length ∧ l.getD 0 0 = 48)) : decimalI l most = -1 := by
  apply Classical.byContradiction
  intro hc
  obtain ⟨h1, h2, h3, _⟩ := decimal_shape hm hc
  rcases h with h | h | h
  · omega
  · omega
  · exact h3 h
theorem decimal_no_digit {l : List UInt8} {most : Int} (hm : most ≤ 999) {k : Nat} (hk : k < l.length) (h : (l.getD k 0).toNat < 48 ∨ 57 < (l.getD k 0).toNat) : decimalI l most = -1 := by
  apply Classical.byContradiction
  intro hc
  obtain ⟨_, _, _, h4⟩ := decimal_shape hm hc
  have := h4 (l.getD k 0) (by rw [← getD_at l k hk]; exact List.getElem_mem hk)
  omega

def DecRel (l : List UInt8) (w wr : World) (n i : Value) : Prop :=
  ∃ k q : Nat, k ≤ l.length ∧ i = .int .i64 k ∧ n = .int .i64 ((val (l.take k) : Nat) : Int) ∧ (∀ j, j < k → 48 ≤ (l.getD j 0).toNat ∧ (l.getD j 0).toNat ≤ 57) ∧ wr = w.drewN q
theorem val_take (l : List UInt8) (k : Nat) (hk : k < l.length) : val (l.take (k + 1)) = 10 * val (l.take k) + ((l.getD k 0).toNat - 48) := by
  rw [List.take_succ_eq_append_getElem hk, val_snoc, getD_at l k hk]
theorem val_lt : ∀ (l : List UInt8), (∀ b ∈ l, b.toNat ≤ 57) → l.length ≤ 3 → val l ≤ 999
  | [], _, _ => by decide
  | [a], h, _ => by have := h a (by simp); simp only [val, List.foldl]; omega
  | [a, b], h, _ => by have := h a (by simp); have := h b (by simp); simp only [val, List.foldl]; omega
  | [a, b, c], h, _ => by have := h a (by simp); have := h b (by simp); have := h c (by simp); simp only [val, List.foldl]; omega
  | _ :: _ :: _ :: _ :: _, _, h => by simp at h
theorem dec_all {l : List UInt8} (h : ∀ j, j < l.length → 48 ≤ (l.getD j 0).toNat ∧ (l.getD j 0).toNat ≤ 57) : ∀ b ∈ l, 48 ≤ b.toNat ∧ b.toNat ≤ 57 := fun b hb => by
  obtain ⟨k, hk, rfl⟩ := List.mem_iff_getElem.1 hb
  rw [getD_at l k hk]
  exact h k hk
theorem take_digits {l : List UInt8} {k : Nat} (hk : k ≤ l.length) (h : ∀ j, j < k → 48 ≤ (l.getD j 0).toNat ∧ (l.getD j 0).toNat ≤ 57) : ∀ b ∈ l.take k, b.toNat ≤ 57 := fun b hb => by
  obtain ⟨j, hj, rfl⟩ := List.mem_iff_getElem.1 hb
  have hj' : j < k := by rw [List.length_take] at hj; omega
  have := h j hj'
  rw [← getD_at l j (by omega)] at this
  simpa using this.2

set_option maxHeartbeats 1600000 in
set_option maxRecDepth 100000 in
theorem refDecimal_calls (l : List UInt8) (hl : l.length ≤ 4294967280) (most : Int) (_h0 : 0 ≤ most) (hm : most ≤ 999) (w : World) :
    Calls Tryz.prog 50 #[.string (B l), .int .i64 most] w fun e w' => e = .returned (.int .i64 (decimalI l most)) ∧ ∃ q, w' = w.drewN q := by
  have hsz : (B l).size = l.length := B_size l
  by_cases h1 : l.length < 1
  · have HN := Lib.hid (decimal_no hm (l := l) (.inl h1))
    go_enter Tryz.func50, Tryz.ntmps50
    go_wp2_with fail
    go_ret
    exact ⟨reti HN.out.symm, 0, rfl⟩
  · by_cases h2 : 3 < l.length
    · have HN := Lib.hid (decimal_no hm (l := l) (.inr (.inl h2)))
      go_enter Tryz.func50, Tryz.ntmps50
      go_wp2_with fail
      go_ret
      exact ⟨reti HN.out.symm, 0, rfl⟩
    · have hp' : 0 < (B l).size := by rw [hsz]; omega
      obtain ⟨z, hz⟩ : ∃ c, (B l)[0] = c := ⟨_, rfl⟩
      have HZ := Lib.hid (show l.getD 0 0 = z from by rw [← hz, B_at])
      by_cases h3 : 1 < l.length ∧ z = 48
      · have HN := Lib.hid (decimal_no hm (l := l) (.inr (.inr ⟨h3.1, by rw [HZ.out]; exact h3.2⟩)))
        obtain ⟨h4, rfl⟩ := h3
        have h5 : (((48 : UInt8).toNat : Int) == 48) = true := by decide
        go_enter Tryz.func50, Tryz.ntmps50
        go_wp2_with fail
        go_ret
        exact ⟨reti HN.out.symm, 0, rfl⟩
      · have H3 := Lib.hid h3
        have hgo : ∀ (w1 : World) (q0 : Nat), w1 = w.drewN q0 → True := fun _ _ _ => trivial
        clear hgo
        have hlen : l.length = 1 ∨ (1 < l.length ∧ ((z.toNat : Int) == 48) = false) := by
          by_cases h5 : 1 < l.length
          · exact .inr ⟨h5, beq_eq_false_iff_ne.2 fun e => h3 ⟨h5, UInt8.toNat_inj.1 (by show z.toNat = 48; omega)⟩⟩
          · exact .inl (by omega)
        clear h3
        rcases hlen with h5 | ⟨h5, h6⟩ <;>
        · go_enter Tryz.func50, Tryz.ntmps50
          go_wp2_with fail
          go_loopw [5, 6] (fun n i wr => DecRel l w wr n i) (fun _ i _ => l.length - (intOf i).toNat)
          case atStart => exact ⟨0, 0, by omega, rfl, rfl, fun j hj => by omega, rfl⟩
          case round =>
            obtain ⟨k, q, hk, rfl, rfl, hd, rfl⟩ := hrel
            have hv3 := val_lt (l.take k) (take_digits hk hd) (by rw [List.length_take]; omega)
            have HD := Lib.hid hd
            clear hd
            by_cases hlt : k < l.length
            · have hpk : k < (B l).size := by rw [hsz]; exact hlt
              obtain ⟨c, hc⟩ : ∃ c, (B l)[k] = c := ⟨_, rfl⟩
              have HC := Lib.hid (show l.getD k 0 = c from by rw [← hc, B_at])
              have HV := Lib.hid (val_take l k hlt)
              obtain ⟨v, hv⟩ : ∃ v, val (l.take k) = v := ⟨_, rfl⟩
              rw [hv] at hv3 HV ⊢
              clear hv
              by_cases d1 : c.toNat < 48
              · have HN := Lib.hid (decimal_no_digit hm hlt (by rw [HC.out]; exact .inl d1))
                go_wp2_with fail
                go_ret
                exact ⟨reti HN.out.symm, _, rfl⟩
              · by_cases d2 : 57 < c.toNat
                · have HN := Lib.hid (decimal_no_digit hm hlt (by rw [HC.out]; exact .inr d2))
                  go_wp2_with fail
                  go_ret
                  exact ⟨reti HN.out.symm, _, rfl⟩
                · go_wp2_with fail
                  go_roundw
                  case rel =>
                    refine ⟨k + 1, _, by omega, by go_num, ?_, fun j hj => ?_, rfl⟩
                    · rw [HV.out, HC.out]
                      congr 1
                      omega
                    · rcases Nat.lt_succ_iff_lt_or_eq.1 hj with h | rfl
                      · exact HD.out j h
                      · rw [HC.out]; omega
                  case measure => simp [intOf]; omega
            · obtain rfl : k = l.length := by omega
              have HN := Lib.hid (decimal_good l most (by omega) (by omega) (fun h => H3.out ⟨h.1, by rw [← HZ.out]; exact h.2⟩) (dec_all HD.out))
              rw [List.take_length] at hv3 ⊢
              obtain ⟨v, hv⟩ : ∃ v, val l = v := ⟨_, rfl⟩
              rw [hv] at hv3 HN ⊢
              clear hv
              by_cases d : most < v
              · go_wp2_with fail
                go_ret
                exact ⟨reti (by rw [HN.out, if_pos d]), _, rfl⟩
              · go_wp2_with fail
                go_ret
                exact ⟨reti (by rw [HN.out, if_neg (by omega)]), _, rfl⟩

/-! ### Address -/
/-- An address's number, whichever, and whether it is one. -/
def AddrOut (l : List UInt8) (e : Ending) : Prop := ∃ x : Int, e = .returned (.tuple #[.int .u32 x, .bool (addrL l)])
theorem addr_out {l : List UInt8} (x : Int) {b : Bool} (h : addrL l = b) : AddrOut l (.returned (.tuple #[.int .u32 x, .bool b])) := ⟨x, by rw [h]⟩
theorem addr_no_len {l : List UInt8} (h : (Lib.split l [46]).length ≠ 4) : addrL l = false := by
  unfold addrL
  rw [decide_eq_false h]
  rfl
theorem addr_no_piece {l p : List UInt8} (hm : p ∈ Lib.split l [46]) (h : decimalI p 255 < 0) : addrL l = false := by
  unfold addrL
  cases hc : (Lib.split l [46]).all fun p => decide (0 ≤ decimalI p 255)
  · simp
  · have := of_decide_eq_true (List.all_eq_true.1 hc _ hm)
    omega
theorem addr_yes {l : List UInt8} (h4 : (Lib.split l [46]).length = 4) (h : ∀ p ∈ Lib.split l [46], 0 ≤ decimalI p 255) : addrL l = true := by
  unfold addrL
  rw [decide_eq_true h4, Bool.true_and, List.all_eq_true]
  intro p hp
  exact decide_eq_true (h p hp)

/-- The loop over the four numbers. -/
structure AddrLoop (l : List UInt8) (w wr : World) (x frm k : Value) : Prop where
  x : ∃ z : Int, x = .int .u32 z
  q : ∃ q, wr = w.drewN q
  k : ∃ n f : Nat, n ≤ 4 ∧ k = .int .i64 n ∧ frm = .int .i64 f ∧ (n = 4 → addrL l = true) ∧ (n < 4 → f ≤ l.length ∧ ∃ done : List (List UInt8), done.length = n ∧ (∀ p ∈ done, 0 ≤ decimalI p 255) ∧ Lib.split l [46] = done ++ Lib.split (l.drop f) [46])

theorem split_pos (s : List UInt8) (c : UInt8) : 1 ≤ (Lib.split s [c]).length := splitK_ne _ _ _ _

set_option maxHeartbeats 1600000 in
set_option maxRecDepth 100000 in
theorem refAddress_calls (l : List UInt8) (hl : l.length ≤ 4294967280) (w : World) :
    Calls Tryz.prog 49 #[.string (B l)] w fun e w' => AddrOut l e ∧ ∃ q, w' = w.drewN q := by
  have hsz : (B l).size = l.length := B_size l
  go_enter Tryz.func49, Tryz.ntmps49
  go_wp2_with fail
  go_loopw [4, 5, 6] (fun x frm k wr => AddrLoop l w wr x frm k) (fun _ _ k _ => 4 - (intOf k).toNat)
  case atStart => exact ⟨⟨0, rfl⟩, ⟨0, rfl⟩, 0, 0, by omega, rfl, rfl, fun h => by omega, fun _ => ⟨by omega, [], rfl, fun p hp => absurd hp (by simp), by rw [List.drop_zero]; rfl⟩⟩
  case round =>
    obtain ⟨⟨z, rfl⟩, ⟨q, rfl⟩, n, f, hn, rfl, rfl, hdone, hrest⟩ := hrel
    by_cases hlt : n < 4
    · obtain ⟨hf, done, hd1, hd2, hd3⟩ := hrest hlt
      have D1 := Lib.hid hd1
      have D2 := Lib.hid hd2
      have D3 := Lib.hid hd3
      clear hd1 hd2 hd3 hdone hrest
      have C := Lib.hid fun W => cut_calls l hl f hf 46 46 rfl W
      go_wp2_with fail
      refine (C.out _).mono ?_
      rintro e _ ⟨⟨k, rfl, hcut⟩, q1, rfl⟩
      have k1 := hcut.lo
      have k2 := hcut.hi
      have HS := Lib.hid hcut.split
      clear hcut
      obtain ⟨p, hp⟩ : ∃ p, (l.drop f).take (k - f) = p := ⟨_, rfl⟩
      have hex : (B l).extract f k = B p := by rw [B_piece, hp]
      have hpl : p.length ≤ 4294967280 := by rw [← hp, List.length_take, List.length_drop]; omega
      have HP := Lib.hid hp
      clear hp
      have D := Lib.hid fun W => refDecimal_calls p hpl 255 (by decide) (by decide) W
      go_wp2_with fail
      refine (D.out _).mono ?_
      rintro e _ ⟨rfl, q2, rfl⟩
      obtain ⟨d, hd⟩ : ∃ d, decimalI p 255 = d := ⟨_, rfl⟩
      rw [hd]
      have HD := Lib.hid hd
      clear hd
      have HM : Hid (p ∈ Lib.split l [46]) := by
        rw [D3.out, HS.out, HP.out]
        exact List.mem_append_right _ (by simp)
      by_cases hneg : d < 0
      · have HN := Lib.hid (addr_no_piece HM.out (by rw [HD.out]; exact hneg))
        go_wp2_with fail
        go_ret2
        exact ⟨addr_out 0 HN.out, _, rfl⟩
      · by_cases he : k = l.length
        · have hke : ((k : Int) == (l.length : Int)) = true := beq_iff_eq.2 (by omega)
          have HL := Lib.hid (show Lib.split l [46] = done ++ [p] from by rw [D3.out, HS.out, HP.out, if_pos he])
          by_cases hn3 : n = 3
          · have hne : ((n : Int) == 3) = true := beq_iff_eq.2 (by omega)
            have HN := Lib.hid (addr_yes (l := l) (by rw [HL.out, List.length_append, D1.out, hn3]; rfl) (fun x hx => by
              rw [HL.out] at hx
              rcases List.mem_append.1 hx with hx | hx
              · exact D2.out x hx
              · obtain rfl : x = p := by simpa using hx
                rw [HD.out]; omega))
            clear he
            go_wp2_with fail
            go_roundw
            case rel => exact ⟨⟨_, rfl⟩, ⟨_, rfl⟩, n + 1, k + 1, by omega, by go_num, by go_num, fun _ => HN.out, fun h => by omega⟩
            case measure => simp [intOf]; omega
          · have hne : ((n : Int) == 3) = false := beq_eq_false_iff_ne.2 (by omega)
            have HN := Lib.hid (addr_no_len (l := l) (by rw [HL.out, List.length_append, D1.out, List.length_singleton]; omega))
            clear he
            go_wp2_with fail
            go_ret2
            exact ⟨addr_out 0 HN.out, _, rfl⟩
        · have hke : ((k : Int) == (l.length : Int)) = false := beq_eq_false_iff_ne.2 (by omega)
          have HL := Lib.hid (show Lib.split l [46] = (done ++ [p]) ++ Lib.split (l.drop (k + 1)) [46] from by rw [D3.out, HS.out, HP.out, if_neg he, List.append_assoc]; rfl)
          by_cases hn3 : n = 3
          · have hne : ((n : Int) == 3) = true := beq_iff_eq.2 (by omega)
            have HN := Lib.hid (addr_no_len (l := l) (by have := split_pos (l.drop (k + 1)) 46; rw [HL.out, List.length_append, List.length_append, D1.out, List.length_singleton]; omega))
            go_wp2_with fail
            go_ret2
            exact ⟨addr_out 0 HN.out, _, rfl⟩
          · have hne : ((n : Int) == 3) = false := beq_eq_false_iff_ne.2 (by omega)
            go_wp2_with fail
            go_roundw
            case rel => exact ⟨⟨_, rfl⟩, ⟨_, rfl⟩, n + 1, k + 1, by omega, by go_num, by go_num, fun h => by omega, fun _ => ⟨by omega, done ++ [p], by rw [List.length_append, D1.out]; rfl, fun x hx => by
              rcases List.mem_append.1 hx with hx | hx
              · exact D2.out x hx
              · obtain rfl : x = p := by simpa using hx
                rw [HD.out]; omega, HL.out⟩⟩
            case measure => simp [intOf]; omega
    · have HN := Lib.hid (hdone (by omega))
      clear hdone hrest
      go_wp2_with fail
      go_ret2
      exact ⟨addr_out z HN.out, _, rfl⟩

/-! ### Range -/
def RangeOut (l : List UInt8) (e : Ending) : Prop := ∃ x n : Int, e = .returned (.tuple #[.int .u32 x, .int .i64 n, .bool (netL l)])
theorem range_out {l : List UInt8} (x n : Int) {b : Bool} (h : netL l = b) : RangeOut l (.returned (.tuple #[.int .u32 x, .int .i64 n, .bool b])) := ⟨x, n, by rw [h]⟩

set_option maxHeartbeats 1600000 in
set_option maxRecDepth 100000 in
theorem refRange_calls (l : List UInt8) (hl : l.length ≤ 4294967280) (w : World) :
    Calls Tryz.prog 31 #[.string (B l)] w fun e w' => RangeOut l e ∧ ∃ q, w' = w.drewN q := by
  have hsz : (B l).size = l.length := B_size l
  have C := Lib.hid fun W => cut_calls l hl 0 (by omega) 47 47 rfl W
  go_enter Tryz.func31, Tryz.ntmps31
  go_wp2_with fail
  refine (C.out _).mono ?_
  rintro e _ ⟨⟨k, rfl, hcut⟩, q1, rfl⟩
  have k2 := hcut.hi
  have HC := Lib.hid hcut.cut
  clear hcut
  obtain ⟨p, hp⟩ : ∃ p, l.take k = p := ⟨_, rfl⟩
  have hex : (B l).extract 0 k = B p := by rw [B_piece, List.drop_zero, Nat.sub_zero, hp]
  have hpl : p.length ≤ 4294967280 := by rw [← hp, List.length_take]; omega
  have HP := Lib.hid hp
  clear hp
  have A := Lib.hid fun W => refAddress_calls p hpl W
  go_wp2_with fail
  refine (A.out _).mono ?_
  rintro e _ ⟨⟨x, rfl⟩, q2, rfl⟩
  have HL : Hid ((Lib.cut l [47]).1 = p) := by
    show _ = _
    rw [HC.out]
    by_cases he : k = l.length
    · rw [if_pos he, ← HP.out, he, List.take_length]
    · rw [if_neg he]; exact HP.out
  cases ha : addrL p with
  | false =>
    have HN := Lib.hid (show netL l = false from by unfold netL; rw [HL.out, ha]; rfl)
    go_wp2_with fail
    refine bodyPost_ret (v := .tuple #[.int .u32 0, .int .i64 0, .bool false]) (by simp [results, Tryz.results31, go_sem]) rfl ⟨range_out 0 0 HN.out, _, rfl⟩
  | true =>
    have HA := Lib.hid ha
    clear ha
    by_cases he : k = l.length
    · have hke : ((k : Int) == (l.length : Int)) = true := beq_iff_eq.2 (by omega)
      have HN := Lib.hid (show netL l = true from by unfold netL bitsL; rw [HL.out, HA.out, HC.out, if_pos he]; rfl)
      clear he
      go_wp2_with fail
      refine bodyPost_ret (v := .tuple #[.int .u32 x, .int .i64 32, .bool true]) (by simp [results, Tryz.results31, go_sem]) rfl ⟨range_out x 32 HN.out, _, rfl⟩
    · have hke : ((k : Int) == (l.length : Int)) = false := beq_eq_false_iff_ne.2 (by omega)
      obtain ⟨t, ht⟩ : ∃ t, l.drop (k + 1) = t := ⟨_, rfl⟩
      have hex2 : (B l).extract (k + 1) l.length = B t := by rw [B_piece, List.take_of_length_le (by rw [List.length_drop]; omega), ht]
      have htl : t.length ≤ 4294967280 := by rw [← ht, List.length_drop]; omega
      have D := Lib.hid fun W => refDecimal_calls t htl 32 (by decide) (by decide) W
      obtain ⟨d, hd⟩ : ∃ d, decimalI t 32 = d := ⟨_, rfl⟩
      have HN := Lib.hid (show netL l = decide (0 ≤ d) from by unfold netL bitsL; rw [HL.out, HA.out, HC.out, if_neg he, if_pos rfl, ht, hd]; rfl)
      rw [hd] at D
      clear hd ht
      go_wp2_with fail
      refine (D.out _).mono ?_
      rintro e _ ⟨rfl, q3, rfl⟩
      go_wp2_with fail
      refine bodyPost_ret (v := .tuple #[.int .u32 x, .int .i64 d, .bool (decide (0 ≤ d))]) (by simp [results, Tryz.results31, go_sem]) rfl ⟨range_out x d HN.out, _, rfl⟩

/-! ### digest -/
theorem dig_at {l : List UInt8} {k : Nat} (h : CutAt l 0 58 k) : digL l = (decide (0 < k) && decide (k < l.length)) := by
  have := h.hi
  unfold digL
  rw [h.index]
  by_cases he : k = l.length
  · rw [if_pos he, decide_eq_false (by omega : ¬ k < l.length), Bool.and_false]
    rfl
  · rw [if_neg he, decide_eq_true (by omega : k < l.length), Bool.and_true]
    exact decide_eq_decide.2 (by omega)

set_option maxHeartbeats 1600000 in
set_option maxRecDepth 100000 in
theorem refDigest_calls (l : List UInt8) (hl : l.length ≤ 4294967280) (w : World) :
    Calls Tryz.prog 30 #[.string (B l)] w fun e w' => e = .returned (.bool (textL l && digL l)) ∧ ∃ q, w' = w.drewN q := by
  have hsz : (B l).size = l.length := B_size l
  have C := Lib.hid fun W => cut_calls l hl 0 (by omega) 58 58 rfl W
  have T := Lib.hid fun W => refText_calls l hl W
  obtain ⟨r, hr⟩ : ∃ r, (textL l && digL l) = r := ⟨_, rfl⟩
  rw [hr]
  go_enter Tryz.func30, Tryz.ntmps30
  go_wp2_with fail
  refine (C.out _).mono ?_
  rintro e _ ⟨⟨k, rfl, hcut⟩, q1, rfl⟩
  have k2 := hcut.hi
  have HC := Lib.hid (dig_at hcut)
  clear hcut
  cases ht : textL l with
  | false =>
    rw [ht] at T hr
    have HR := Lib.hid (show false = r from by rw [← hr]; rfl)
    clear ht hr
    go_wp2_with fail
    refine (T.out _).mono ?_
    rintro e _ ⟨rfl, q2, rfl⟩
    go_wp2_with fail
    go_ret
    exact ⟨retb HR.out, _, rfl⟩
  | true =>
    rw [ht] at T hr
    clear ht
    by_cases h0 : 0 < k
    · have HN := Lib.hid (show decide (k < l.length) = r from by rw [← hr, HC.out, decide_eq_true h0]; rfl)
      go_wp2_with fail
      refine (T.out _).mono ?_
      rintro e _ ⟨rfl, q2, rfl⟩
      by_cases h1 : k < l.length
      · have HN2 := Lib.hid (show true = r from by rw [← HN.out, decide_eq_true h1])
        go_wp2_with fail
        go_ret
        exact ⟨retb HN2.out, _, rfl⟩
      · have HN2 := Lib.hid (show false = r from by rw [← HN.out, decide_eq_false h1])
        go_wp2_with fail
        go_ret
        exact ⟨retb HN2.out, _, rfl⟩
    · have HN := Lib.hid (show false = r from by rw [← hr, HC.out, decide_eq_false h0]; rfl)
      go_wp2_with fail
      refine (T.out _).mono ?_
      rintro e _ ⟨rfl, q2, rfl⟩
      go_wp2_with fail
      go_ret
      exact ⟨retb HN.out, _, rfl⟩
end Go.Proofs.YtepmkkeaidacmaaGreatDoor
