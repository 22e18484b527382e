/-
  The walks of digest, decimal, address, network.
-/
import Derived.Test.YtepmkkeaidacmaaGreatDoorWalk1
namespace Go.Proofs.YtepmkkeaidacmaaGreatDoor
open Go.RowKit

theorem ret_i64 {a b : Int} (h : a = b) : Ending.returned (.int .i64 a) = .returned (.int .i64 b) := by rw [h]

theorem digest_calls (l : List UInt8) (hl : l.length ≤ 4294967280) (w : World) (he : Env w) :
    Calls Tryz.prog 25 #[.string (B l)] w fun e w' => e = .returned (.bool (digL l)) ∧ w = w' := by
  have hc := Lib.hid (lib_index l 58 hl w he)
  go_enter Tryz.func25, Tryz.ntmps25
  go_wp2_with (go_at_call 39; refine hc.out.mono ?_; rintro e w1 ⟨rfl, rfl⟩)
  go_ret
  exact ⟨rfl, rfl⟩

theorem decimalI_bad (l : List UInt8) (most : Int) (h : ∀ n, Lib.atoiAll l ≠ .ok n) : decimalI l most = -1 := by
  unfold decimalI
  cases hh : Lib.atoiAll l with
  | ok n => exact absurd hh (h n)
  | range => rfl
  | _ => rfl
theorem decimalI_ok (l : List UInt8) (most n : Int) (h : Lib.atoiAll l = .ok n) : decimalI l most = if n < 0 then -1 else if most < n then -1 else if Lib.itoa n = l then n else -1 := by
  unfold decimalI
  rw [h]

set_option maxHeartbeats 800000 in
theorem decimal_calls (l : List UInt8) (hl : l.length ≤ 4294967280) (most : Int) (h0 : 0 ≤ most) (h1 : most ≤ 1000) (w : World) (he : Env w) :
    Calls Tryz.prog 44 #[.string (B l), .int .i64 most] w fun e w' => e = .returned (.int .i64 (decimalI l most)) ∧ Below w.heap.size w w' := by
  by_cases hb : ∀ n, Lib.atoiAll l ≠ .ok n
  · have hc := Lib.hid (lib_atoi_bad l hl hb w he)
    have HD := Lib.hid (decimalI_bad l most hb)
    clear hb
    go_enter Tryz.func44, Tryz.ntmps44
    go_wp2_with (go_at_call 66; refine hc.out.mono ?_; rintro e w1 ⟨⟨x, t, p, rfl⟩, hb1⟩)
    go_wp2
    go_ret
    exact ⟨ret_i64 HD.out.symm, hb1⟩
  · obtain ⟨n, hn⟩ : ∃ n, Lib.atoiAll l = .ok n := by
      rcases Classical.not_forall.1 hb with ⟨n, h⟩
      exact ⟨n, Classical.not_not.1 h⟩
    have hc := Lib.hid (lib_atoi_ok l hl n hn w he)
    have HD := Lib.hid (decimalI_ok l most n hn)
    clear hb hn
    by_cases c1 : n < 0
    · go_enter Tryz.func44, Tryz.ntmps44
      go_wp2_with (go_at_call 66; refine hc.out.mono ?_; rintro e w1 ⟨rfl, hb1⟩)
      go_wp2
      go_ret
      exact ⟨ret_i64 (by rw [HD.out, if_pos c1]), hb1⟩
    · by_cases c2 : most < n
      · go_enter Tryz.func44, Tryz.ntmps44
        go_wp2_with (go_at_call 66; refine hc.out.mono ?_; rintro e w1 ⟨rfl, hb1⟩)
        go_wp2
        go_ret
        exact ⟨ret_i64 (by rw [HD.out, if_neg (by omega), if_pos c2]), hb1⟩
      · have hi : ∀ W, Env W → Calls Tryz.prog 67 #[.int .i64 n] W fun e w' => e = .returned (.string (B (Lib.itoa n))) ∧ Below W.heap.size W w' := fun W hW => lib_itoa n (by omega) (by omega) W hW
        have HI := Lib.hid hi
        clear hi
        by_cases c3 : Lib.itoa n = l
        · have e3 : ((B (Lib.itoa n)).toList == (B l).toList) = true := by rw [beq_B]; exact beq_iff_eq.2 c3
          have HC := Lib.hid c3
          clear c3
          go_enter Tryz.func44, Tryz.ntmps44
          go_wp2_with (go_at_call 66; refine hc.out.mono ?_; rintro e w1 ⟨rfl, hb1⟩)
          go_wp2_with (go_at_call 67; refine (HI.out w1 (he.below hb1)).mono ?_; rintro e w2 ⟨rfl, hb2⟩)
          go_wp2
          go_ret
          exact ⟨ret_i64 (by rw [HD.out, if_neg (by omega), if_neg (by omega), if_pos HC.out]), hb1.trans (hb2.mono hb1.size)⟩
        · have e3 : ((B (Lib.itoa n)).toList == (B l).toList) = false := by rw [beq_B]; exact beq_eq_false_iff_ne.2 c3
          go_enter Tryz.func44, Tryz.ntmps44
          go_wp2_with (go_at_call 66; refine hc.out.mono ?_; rintro e w1 ⟨rfl, hb1⟩)
          go_wp2_with (go_at_call 67; refine (HI.out w1 (he.below hb1)).mono ?_; rintro e w2 ⟨rfl, hb2⟩)
          go_wp2
          go_ret
          exact ⟨ret_i64 (by rw [HD.out, if_neg (by omega), if_neg (by omega), if_neg c3]), hb1.trans (hb2.mono hb1.size)⟩

/-! ### address -/
/-- An address's number, whichever, and whether it is one. -/
def AddrEnds (l : List UInt8) (e : Ending) : Prop := ∃ x : Int, e = .returned (.tuple #[.int .u32 x, .bool (addrL l)])

theorem addr_end {l : List UInt8} (x : Int) {b : Bool} (h : addrL l = b) : AddrEnds l (.returned (.tuple #[.int .u32 x, .bool b])) := ⟨x, by rw [h]⟩
theorem addrL_len (l : List UInt8) (h : (Lib.split l [46]).length ≠ 4) : addrL l = false := by
  unfold addrL
  rw [decide_eq_false h]
  rfl
theorem addrL_bad (l : List UInt8) (k : Nat) (hk : k < (Lib.split l [46]).length) (h : decimalI (Lib.split l [46])[k] 255 < 0) : addrL l = false := by
  unfold addrL
  cases hc : (Lib.split l [46]).all fun p => decide (0 ≤ decimalI p 255)
  · simp
  · have := List.all_eq_true.1 hc _ (List.getElem_mem hk)
    have := of_decide_eq_true this
    omega
theorem addrL_good (l : List UInt8) (h4 : (Lib.split l [46]).length = 4) (h : ∀ k (hk : k < (Lib.split l [46]).length), 0 ≤ decimalI (Lib.split l [46])[k] 255) : addrL l = true := by
  unfold addrL
  rw [decide_eq_true h4, Bool.true_and, List.all_eq_true]
  intro p hp
  obtain ⟨k, hk, rfl⟩ := List.mem_iff_getElem.1 hp
  exact decide_eq_true (h k hk)
theorem split_le : ∀ (k : Nat) (s sep : List UInt8), ∀ p ∈ Lib.splitK sep 0 k s, p.length ≤ s.length
  | 0, s, sep, p, hp => by
    simp only [Lib.splitK, List.mem_singleton] at hp
    subst hp
    exact Nat.le_refl _
  | k + 1, s, sep, p, hp => by
    unfold Lib.splitK at hp
    split at hp
    · simp only [List.mem_singleton] at hp
      subst hp
      exact Nat.le_refl _
    · rcases List.mem_cons.1 hp with rfl | hp
      · exact List.length_take_le' _ _
      · have := split_le k _ sep p hp
        have h2 := List.length_drop (l := s) (i := (Lib.index s sep).toNat + sep.length)
        omega
theorem split_piece (l : List UInt8) (c : UInt8) (k : Nat) (hk : k < (Lib.split l [c]).length) : ((Lib.split l [c])[k]).length ≤ l.length :=
  split_le _ _ _ _ (List.getElem_mem hk)

/-- The loop over an address's four parts. -/
structure AddrRel (l : List UInt8) (w wr : World) (a i : Value) : Prop where
  k : ∃ k : Nat, k ≤ 4 ∧ i = .int .i64 k ∧ ∀ j (hj : j < (Lib.split l [46]).length), j < k → 0 ≤ decimalI (Lib.split l [46])[j] 255
  x : ∃ x : Int, a = .int .u32 x
  env : Env wr
  below : Below w.heap.size w wr
  room : w.heap.size < wr.heap.size
  cells : ∀ j (hj : j < (Lib.split l [46]).length), wr.cell? ⟨w.heap.size, j, none⟩ = some (.string (B (Lib.split l [46])[j]))

set_option maxHeartbeats 800000 in
theorem address_calls (l : List UInt8) (hl : l.length ≤ 4294967280) (w : World) (he : Env w) :
    Calls Tryz.prog 45 #[.string (B l)] w fun e w' => AddrEnds l e ∧ Below w.heap.size w w' := by
  have hc := Lib.hid (lib_split l 46 hl w he)
  by_cases h4 : (Lib.split l [46]).length = 4
  · have H4 := Lib.hid h4
    clear h4
    go_enter Tryz.func45, Tryz.ntmps45
    go_wp2_with (go_at_call 20; refine hc.out.mono ?_; rintro e w1 ⟨rfl, hb, hr, hcell⟩; rw [H4.out])
    have hen := he.below hb
    have HC := Lib.hid hcell
    clear hcell
    go_wp2
    go_loopw [5, 16] (fun a i wr => AddrRel l w wr a i) (fun _ i _ => 4 - (intOf i).toNat)
    case atStart => exact ⟨⟨0, by omega, rfl, fun j _ h => by omega⟩, ⟨0, rfl⟩, hen, hb, hr, HC.out⟩
    case round =>
      obtain ⟨⟨k, hk, rfl, hgood⟩, ⟨x, rfl⟩, hen', hb', hr', hcell⟩ := hrel
      have HG := Lib.hid hgood
      have HC' := Lib.hid hcell
      clear hgood hcell
      by_cases hlt : k < 4
      · have hk4 : k < (Lib.split l [46]).length := by rw [H4.out]; exact hlt
        have hpl := split_piece l 46 k hk4
        obtain ⟨p, hpe⟩ : ∃ p, (Lib.split l [46])[k] = p := ⟨_, rfl⟩
        rw [hpe] at hpl
        have hck : wr.cell? ⟨w.heap.size, k, none⟩ = some (.string (B p)) := by rw [← hpe]; exact HC'.out k hk4
        have HPE := Lib.hid hpe
        clear hpe
        have hdec := Lib.hid (decimal_calls p (by omega) 255 (by decide) (by decide) wr hen')
        by_cases hneg : decimalI p 255 < 0
        · go_wp2_with (go_at_call 44; refine hdec.out.mono ?_; rintro e w2 ⟨rfl, hb2⟩)
          go_wp2
          go_ret2
          exact ⟨addr_end 0 (addrL_bad l k hk4 (by rw [HPE.out]; exact hneg)), hb'.trans (hb2.mono hb'.size)⟩
        · go_wp2_with (go_at_call 44; refine hdec.out.mono ?_; rintro e w2 ⟨rfl, hb2⟩)
          go_wp2
          go_roundw
          case rel =>
            refine ⟨⟨k + 1, by omega, by go_num, fun j hj hjk => ?_⟩, ⟨_, rfl⟩, hen'.below hb2, hb'.trans (hb2.mono hb'.size), Nat.lt_of_lt_of_le hr' hb2.size, fun j hj => ?_⟩
            · rcases Nat.lt_succ_iff_lt_or_eq.1 hjk with h | rfl
              · exact HG.out j hj h
              · rw [HPE.out]; omega
            · rw [← HC'.out j hj]; exact hb2.cell (p := ⟨w.heap.size, j, none⟩) hr'
          case measure => simp [intOf]; omega
      · go_wp2
        go_ret2
        exact ⟨addr_end x (addrL_good l H4.out fun j hj => HG.out j hj (by rw [H4.out] at hj; omega)), hb'⟩
  · have H4 := Lib.hid h4
    have h4' : ((((Lib.split l [46]).length : Nat) : Int) != 4) = true := by rw [bne_iff_ne]; omega
    go_enter Tryz.func45, Tryz.ntmps45
    go_wp2_with (go_at_call 20; refine hc.out.mono ?_; rintro e w1 ⟨rfl, hb, hr, hcell⟩)
    go_wp2
    go_ret2
    exact ⟨addr_end 0 (addrL_len l H4.out), hb⟩

/-! ### network -/
def NetEnds (l : List UInt8) (e : Ending) : Prop := ∃ x n : Int, e = .returned (.tuple #[.int .u32 x, .int .i64 n, .bool (netL l)])

theorem net_end {l : List UInt8} (x n : Int) {b : Bool} (h : netL l = b) : NetEnds l (.returned (.tuple #[.int .u32 x, .int .i64 n, .bool b])) := ⟨x, n, by rw [h]⟩
theorem cut_le (l sep : List UInt8) : (Lib.cut l sep).1.length ≤ l.length ∧ (Lib.cut l sep).2.1.length ≤ l.length := by
  unfold Lib.cut
  split
  · exact ⟨List.length_take_le' _ _, by simp⟩
  · simp

set_option maxHeartbeats 800000 in
theorem network_calls (l : List UInt8) (hl : l.length ≤ 4294967280) (w : World) (he : Env w) :
    Calls Tryz.prog 26 #[.string (B l)] w fun e w' => NetEnds l e ∧ Below w.heap.size w w' := by
  obtain ⟨l1, l2⟩ := cut_le l [47]
  obtain ⟨h, hh⟩ : ∃ h, (Lib.cut l [47]).1 = h := ⟨_, rfl⟩
  obtain ⟨t, ht⟩ : ∃ t, (Lib.cut l [47]).2.1 = t := ⟨_, rfl⟩
  obtain ⟨f, hf⟩ : ∃ f, (Lib.cut l [47]).2.2 = f := ⟨_, rfl⟩
  have hc := lib_cut l 47 hl w he
  rw [hh, ht, hf] at hc
  rw [hh] at l1
  rw [ht] at l2
  have HN : Hid (netL l = (addrL h && decide (0 ≤ if f = true then decimalI t 32 else 32))) := by
    unfold netL bitsL
    rw [hh, ht, hf]
    exact rfl
  have HC := Lib.hid hc
  clear hc hh ht hf
  have ha : ∀ W, Env W → Calls Tryz.prog 45 #[.string (B h)] W fun e w' => AddrEnds h e ∧ Below W.heap.size W w' := fun W hW => address_calls h (by omega) W hW
  have hd : ∀ W, Env W → Calls Tryz.prog 44 #[.string (B t), .int .i64 32] W fun e w' => e = .returned (.int .i64 (decimalI t 32)) ∧ Below W.heap.size W w' := fun W hW => decimal_calls t (by omega) 32 (by decide) (by decide) W hW
  have HA := Lib.hid ha
  have HD := Lib.hid hd
  clear ha hd
  obtain ⟨d, hd⟩ : ∃ d, decimalI t 32 = d := ⟨_, rfl⟩
  obtain ⟨a, ha⟩ : ∃ a, addrL h = a := ⟨_, rfl⟩
  rw [hd] at HN HD
  rw [ha] at HN
  have HAA := Lib.hid ha
  clear ha hd
  cases f with
  | false =>
    cases a <;>
    · go_enter Tryz.func26, Tryz.ntmps26
      go_wp2_with (go_at_call 43; refine HC.out.mono ?_; rintro e w1 ⟨rfl, n, rfl⟩)
      go_wp2_with (go_at_call 45; refine (HA.out _ (he.below (below_drewN (Below.refl _ _) n))).mono ?_; rintro e w2 ⟨⟨x, rfl⟩, hb2⟩; rw [HAA.out])
      go_wp2
      go_ret3
      exact ⟨net_end x 32 (by rw [HN.out]; rfl), (below_drewN (Below.refl _ _) n).trans hb2⟩
  | true =>
    by_cases hneg : d < 0
    · cases a <;>
      · go_enter Tryz.func26, Tryz.ntmps26
        go_wp2_with (go_at_call 43; refine HC.out.mono ?_; rintro e w1 ⟨rfl, n, rfl⟩)
        go_wp2_with (go_at_call 44; refine (HD.out _ (he.below (below_drewN (Below.refl _ _) n))).mono ?_; rintro e w2 ⟨rfl, hb2⟩)
        have hbw : Below w.heap.size w w2 := (below_drewN (Below.refl _ _) n).trans hb2
        go_wp2_with (go_at_call 45; refine (HA.out _ (he.below hbw)).mono ?_; rintro e w3 ⟨⟨x, rfl⟩, hb3⟩; rw [HAA.out])
        go_wp2
        go_ret3
        exact ⟨net_end x d (by rw [HN.out]; simp), hbw.trans (hb3.mono hbw.size)⟩
    · have hd0 : decide (0 ≤ d) = true := decide_eq_true (by omega)
      cases a <;>
      · go_enter Tryz.func26, Tryz.ntmps26
        go_wp2_with (go_at_call 43; refine HC.out.mono ?_; rintro e w1 ⟨rfl, n, rfl⟩)
        go_wp2_with (go_at_call 44; refine (HD.out _ (he.below (below_drewN (Below.refl _ _) n))).mono ?_; rintro e w2 ⟨rfl, hb2⟩)
        have hbw : Below w.heap.size w w2 := (below_drewN (Below.refl _ _) n).trans hb2
        go_wp2_with (go_at_call 45; refine (HA.out _ (he.below hbw)).mono ?_; rintro e w3 ⟨⟨x, rfl⟩, hb3⟩; rw [HAA.out])
        go_wp2
        go_ret3
        exact ⟨net_end x d (by rw [HN.out]; simp [hneg]), hbw.trans (hb3.mono hbw.size)⟩
end Go.Proofs.YtepmkkeaidacmaaGreatDoor
