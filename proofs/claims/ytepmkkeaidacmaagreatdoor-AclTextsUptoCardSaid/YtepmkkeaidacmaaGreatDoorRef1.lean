/-
  The walks of the reference's UTF-8: more, Utf8; and of right: may a text stand as an id?
-/
import Derived.Test.YtepmkkeaidacmaaGreatDoorBase
import Derived.Test.YtepmkkeaidacmaaGreatDoorRefSpec
import Derived.Deep.QuietTactic
import Derived.BigQuiet
namespace Go.Proofs.YtepmkkeaidacmaaGreatDoor
open Go.RowKit

/-- What more ends with. -/
def MoreEnds (b : Nat) (e : Ending) : Prop :=
  (Lib.firstT b = 240 ∧ e = .returned (.tuple #[.int .i64 0, .int .u8 0, .int .u8 0])) ∨
  (Lib.firstT b = 241 ∧ e = .returned (.tuple #[.int .i64 (-1), .int .u8 0, .int .u8 0])) ∨
  (Lib.firstT b < 240 ∧ e = .returned (.tuple #[.int .i64 ((Lib.firstT b % 8 - 1 : Nat) : Int), .int .u8 ((Lib.accLo (Lib.firstT b / 16) : Nat) : Int), .int .u8 ((Lib.accHi (Lib.firstT b / 16) : Nat) : Int)]))

theorem more_low {b x : Nat} (h : Lib.firstT b = x) (hx : x < 240) {n lo hi : Int} (h1 : ((x % 8 - 1 : Nat) : Int) = n) (h2 : ((Lib.accLo (x / 16) : Nat) : Int) = lo) (h3 : ((Lib.accHi (x / 16) : Nat) : Int) = hi) :
    MoreEnds b (.returned (.tuple #[.int .i64 n, .int .u8 lo, .int .u8 hi])) := by
  subst h h1 h2 h3
  exact .inr (.inr ⟨hx, rfl⟩)
theorem firstT_none {b : Nat} (h : (128 ≤ b ∧ b < 194) ∨ 244 < b) : Lib.firstT b = 241 := by
  unfold Lib.firstT
  repeat' split
  all_goals omega
theorem firstT_ascii {b : Nat} (h : b < 128) : Lib.firstT b = 240 := by
  unfold Lib.firstT
  rw [if_pos h]

set_option maxHeartbeats 1600000 in
set_option maxRecDepth 100000 in
theorem more_calls (b : Nat) (w : World) : Calls Tryz.prog 81 #[.int .u8 (b : Int)] w fun e w' => MoreEnds b e ∧ w = w' := by
  have ne : ∀ k : Nat, b ≠ k → ((b : Int) == (k : Int)) = false := fun k h => beq_eq_false_iff_ne.2 (by omega)
  by_cases c1 : b < 128
  · have H := Lib.hid c1
    go_enter Tryz.func81, Tryz.ntmps81
    go_wp2
    refine bodyPost_ret (v := .tuple #[.int .i64 0, .int .u8 0, .int .u8 0]) (by simp [results, Tryz.results81, go_sem]) rfl ⟨.inl ⟨firstT_ascii H.out, rfl⟩, rfl⟩
  · by_cases c2 : b < 194
    · have H := Lib.hid (firstT_none (.inl ⟨by omega, c2⟩))
      have n1 : ((b : Int) == 224) = false := ne 224 (by omega)
      have n2 : ((b : Int) == 237) = false := ne 237 (by omega)
      have n3 : ((b : Int) == 240) = false := ne 240 (by omega)
      have n4 : ((b : Int) == 244) = false := ne 244 (by omega)
      clear ne
      go_enter Tryz.func81, Tryz.ntmps81
      go_wp2
      refine bodyPost_ret (v := .tuple #[.int .i64 (-1), .int .u8 0, .int .u8 0]) (by simp [results, Tryz.results81, go_sem]) rfl ⟨.inr (.inl ⟨H.out, rfl⟩), rfl⟩
    · by_cases c3 : b < 224
      · have H := Lib.hid (Lib.firstT_C2 (b := b) ⟨by omega, c3⟩)
        clear ne
        go_enter Tryz.func81, Tryz.ntmps81
        go_wp2
        refine bodyPost_ret (v := .tuple #[.int .i64 1, .int .u8 128, .int .u8 191]) (by simp [results, Tryz.results81, go_sem]) rfl ⟨more_low H.out (by decide) rfl rfl rfl, rfl⟩
      · by_cases c4 : b = 224
        · subst c4
          clear ne
          go_enter Tryz.func81, Tryz.ntmps81
          go_wp2
          refine bodyPost_ret (v := .tuple #[.int .i64 2, .int .u8 160, .int .u8 191]) (by simp [results, Tryz.results81, go_sem]) rfl ⟨more_low (Lib.firstT_E0 rfl) (by decide) rfl rfl rfl, rfl⟩
        · have n1 : ((b : Int) == 224) = false := ne 224 c4
          by_cases c5 : b = 237
          · subst c5
            clear ne n1
            go_enter Tryz.func81, Tryz.ntmps81
            go_wp2
            refine bodyPost_ret (v := .tuple #[.int .i64 2, .int .u8 128, .int .u8 159]) (by simp [results, Tryz.results81, go_sem]) rfl ⟨more_low (Lib.firstT_ED rfl) (by decide) rfl rfl rfl, rfl⟩
          · have n2 : ((b : Int) == 237) = false := ne 237 c5
            by_cases c6 : b < 240
            · have H := Lib.hid (Lib.firstT_E1 (b := b) (by omega))
              clear ne
              go_enter Tryz.func81, Tryz.ntmps81
              go_wp2
              refine bodyPost_ret (v := .tuple #[.int .i64 2, .int .u8 128, .int .u8 191]) (by simp [results, Tryz.results81, go_sem]) rfl ⟨more_low H.out (by decide) rfl rfl rfl, rfl⟩
            · by_cases c7 : b = 240
              · subst c7
                clear ne n1 n2
                go_enter Tryz.func81, Tryz.ntmps81
                go_wp2
                refine bodyPost_ret (v := .tuple #[.int .i64 3, .int .u8 144, .int .u8 191]) (by simp [results, Tryz.results81, go_sem]) rfl ⟨more_low (Lib.firstT_F0 rfl) (by decide) rfl rfl rfl, rfl⟩
              · have n3 : ((b : Int) == 240) = false := ne 240 c7
                by_cases c8 : b = 244
                · subst c8
                  clear ne n1 n2 n3
                  go_enter Tryz.func81, Tryz.ntmps81
                  go_wp2
                  refine bodyPost_ret (v := .tuple #[.int .i64 3, .int .u8 128, .int .u8 143]) (by simp [results, Tryz.results81, go_sem]) rfl ⟨more_low (Lib.firstT_F4 rfl) (by decide) rfl rfl rfl, rfl⟩
                · have n4 : ((b : Int) == 244) = false := ne 244 c8
                  by_cases c9 : b < 244
                  · have H := Lib.hid (Lib.firstT_F1 (b := b) ⟨by omega, c9⟩)
                    clear ne
                    go_enter Tryz.func81, Tryz.ntmps81
                    go_wp2
                    refine bodyPost_ret (v := .tuple #[.int .i64 3, .int .u8 128, .int .u8 191]) (by simp [results, Tryz.results81, go_sem]) rfl ⟨more_low H.out (by decide) rfl rfl rfl, rfl⟩
                  · have H := Lib.hid (firstT_none (b := b) (.inr (by omega)))
                    clear ne
                    go_enter Tryz.func81, Tryz.ntmps81
                    go_wp2
                    refine bodyPost_ret (v := .tuple #[.int .i64 (-1), .int .u8 0, .int .u8 0]) (by simp [results, Tryz.results81, go_sem]) rfl ⟨.inr (.inl ⟨H.out, rfl⟩), rfl⟩

/-! ### Utf8 -/
theorem retb {a b : Bool} (h : a = b) : Ending.returned (.bool a) = .returned (.bool b) := by rw [h]
theorem getD_at (l : List UInt8) (i : Nat) (h : i < l.length) : l[i] = l.getD i 0 := by simp [List.getD, List.getElem?_eq_getElem h]
theorem B_at (l : List UInt8) (i : Nat) (h : i < (B l).size) : (B l)[i] = l.getD i 0 := getD_at l i (by rw [B_size] at h; exact h)
theorem more_ascii {b : Nat} {e : Ending} (h : Lib.firstT b = 240) (hm : MoreEnds b e) : e = .returned (.tuple #[.int .i64 0, .int .u8 0, .int .u8 0]) := by
  rcases hm with ⟨_, h2⟩ | ⟨h1, _⟩ | ⟨h1, _⟩
  · exact h2
  · omega
  · omega
theorem more_none {b : Nat} {e : Ending} (h : Lib.firstT b = 241) (hm : MoreEnds b e) : e = .returned (.tuple #[.int .i64 (-1), .int .u8 0, .int .u8 0]) := by
  rcases hm with ⟨h1, _⟩ | ⟨_, h2⟩ | ⟨h1, _⟩
  · omega
  · exact h2
  · omega
theorem more_some {b n lo hi : Nat} {e : Ending} (h : Lib.firstT b < 240) (hm : MoreEnds b e) (h1 : Lib.firstT b % 8 - 1 = n) (h2 : Lib.accLo (Lib.firstT b / 16) = lo) (h3 : Lib.accHi (Lib.firstT b / 16) = hi) : e = .returned (.tuple #[.int .i64 (n : Int), .int .u8 (lo : Int), .int .u8 (hi : Int)]) := by
  subst h1 h2 h3
  rcases hm with ⟨h1, _⟩ | ⟨h1, _⟩ | ⟨_, h2⟩
  · omega
  · omega
  · exact h2
theorem firstT_cases (b : Nat) : Lib.firstT b = 240 ∨ Lib.firstT b = 241 ∨ Lib.firstT b < 240 := by
  unfold Lib.firstT
  repeat' split
  all_goals omega

/-- The bytes behind a first byte, up to place k, are within their bounds. -/
def TailOk (l : List UInt8) (pos k : Nat) : Prop := ∀ j, 1 ≤ j → j < k → loAt (l.getD pos 0).toNat j ≤ (l.getD (pos + j) 0).toNat ∧ (l.getD (pos + j) 0).toNat ≤ hiAt (l.getD pos 0).toNat j

/-- The loop over the first bytes: what is behind pos decides. -/
def UtfRel (l : List UInt8) (w wr : World) (i : Value) : Prop :=
  ∃ pos q : Nat, pos ≤ l.length ∧ i = .int .i64 pos ∧ Lib.validD l = Lib.validD (l.drop pos) ∧ wr = w.drewN q
/-- The loop over the bytes behind a first one. -/
def TailRel (l : List UInt8) (pos n : Nat) (w wr : World) (lo hi k : Value) : Prop :=
  ∃ j q : Nat, 1 ≤ j ∧ j ≤ n + 1 ∧ k = .int .i64 j ∧ lo = .int .u8 ((loAt (l.getD pos 0).toNat j : Nat) : Int) ∧ hi = .int .u8 ((hiAt (l.getD pos 0).toNat j : Nat) : Int) ∧ TailOk l pos j ∧ wr = w.drewN q

set_option maxHeartbeats 1600000 in
set_option maxRecDepth 100000 in
theorem utf8_calls (l : List UInt8) (hl : l.length ≤ 4294967280) (w : World) :
    Calls Tryz.prog 70 #[.string (B l)] w fun e w' => e = .returned (.bool (Lib.validD l)) ∧ ∃ q, w' = w.drewN q := by
  have hsz : (B l).size = l.length := B_size l
  have M := Lib.hid fun b W => more_calls b W
  go_enter Tryz.func70, Tryz.ntmps70
  go_wp2
  go_loopw [3] (fun i wr => UtfRel l w wr i) (fun i _ => l.length - (intOf i).toNat)
  case atStart => exact ⟨0, 0, by omega, rfl, by rw [List.drop_zero], rfl⟩
  case round =>
    obtain ⟨pos, q, hpos, rfl, hv, rfl⟩ := hrel
    by_cases hp : pos < l.length
    · have hp' : pos < (B l).size := by rw [hsz]; exact hp
      have HV := Lib.hid hv
      clear hv
      obtain ⟨b, hb⟩ : ∃ b, (B l)[pos] = b := ⟨_, rfl⟩
      have hg : l.getD pos 0 = b := by rw [← hb, B_at]
      have HG := Lib.hid hg
      clear hg
      rcases firstT_cases b.toNat with hf | hf | hf
      · have HN := Lib.hid (show Lib.validD l = Lib.validD (l.drop (pos + 1)) from by rw [HV.out]; exact utf_ascii hp (by rw [HG.out]; exact hf))
        go_wp2_with fail
        refine (M.out b.toNat _).mono ?_
        rintro e _ ⟨he, rfl⟩
        obtain rfl := more_ascii hf he
        clear he hf
        go_wp2_with fail
        go_loopw [7] (fun k wr => k = .int .i64 1 ∧ ∃ q, wr = w.drewN q) (fun _ _ => 0)
        case atStart => exact ⟨rfl, _, rfl⟩
        case round =>
          obtain ⟨rfl, q1, rfl⟩ := hrel
          go_wp2_with fail
          go_roundw
          case rel => exact ⟨pos + 1, _, by omega, rfl, HN.out, rfl⟩
          case measure => simp [intOf]; omega
      · have HN := Lib.hid (show Lib.validD l = false from by rw [HV.out]; exact utf_none hp (by rw [HG.out]; exact hf))
        go_wp2_with fail
        refine (M.out b.toNat _).mono ?_
        rintro e _ ⟨he, rfl⟩
        obtain rfl := more_none hf he
        clear he hf
        go_wp2_with fail
        go_ret
        exact ⟨retb HN.out.symm, _, rfl⟩
      · obtain ⟨n, hn⟩ : ∃ n, Lib.firstT b.toNat % 8 - 1 = n := ⟨_, rfl⟩
        obtain ⟨lo, hlo⟩ : ∃ n, Lib.accLo (Lib.firstT b.toNat / 16) = n := ⟨_, rfl⟩
        obtain ⟨hi, hhi⟩ : ∃ n, Lib.accHi (Lib.firstT b.toNat / 16) = n := ⟨_, rfl⟩
        have hz := firstT_sz hf
        have hn1 : 1 ≤ n ∧ n ≤ 3 := by omega
        have HF := Lib.hid hf
        have HNn := Lib.hid hn
        have HLo := Lib.hid hlo
        have HHi := Lib.hid hhi
        clear hf hn hlo hhi hz
        go_wp2_with fail
        refine (M.out b.toNat _).mono ?_
        rintro e _ ⟨he, rfl⟩
        obtain rfl := more_some HF.out he HNn.out HLo.out HHi.out
        clear he
        by_cases hr : pos + n < l.length
        · go_wp2_with fail
          go_loopw [5, 6, 7] (fun lo hi k wr => TailRel l pos n w wr lo hi k) (fun _ _ k _ => n + 1 - (intOf k).toNat)
          case atStart => exact ⟨1, _, by omega, by omega, rfl, by rw [HG.out, loAt, if_pos rfl, HLo.out], by rw [HG.out, hiAt, if_pos rfl, HHi.out], fun j h1 h2 => by omega, rfl⟩
          case round =>
            obtain ⟨j, q1, hj1, hj2, rfl, rfl, rfl, ht, rfl⟩ := hrel
            have HT := Lib.hid ht
            clear ht
            by_cases hjn : j ≤ n
            · have hpj : pos + j < (B l).size := by rw [hsz]; omega
              obtain ⟨c, hc⟩ : ∃ c, (B l)[pos + j] = c := ⟨_, rfl⟩
              have HC := Lib.hid (show l.getD (pos + j) 0 = c from by rw [← hc, B_at])
              have e8 : loAt (l.getD pos 0).toNat (j + 1) = 128 := by rw [loAt, if_neg (by omega)]
              have e9 : hiAt (l.getD pos 0).toNat (j + 1) = 191 := by rw [hiAt, if_neg (by omega)]
              have E8 := Lib.hid e8
              have E9 := Lib.hid e9
              clear e8 e9
              obtain ⟨x, hx⟩ : ∃ x, loAt (l.getD pos 0).toNat j = x := ⟨_, rfl⟩
              obtain ⟨y, hy⟩ : ∃ y, hiAt (l.getD pos 0).toNat j = y := ⟨_, rfl⟩
              rw [hx, hy]
              have HX := Lib.hid hx
              have HY := Lib.hid hy
              clear hx hy
              by_cases hbad : c.toNat < x ∨ y < c.toNat
              · have HN := Lib.hid (show Lib.validD l = false from by rw [HV.out]; exact utf_bad hp (by rw [HG.out]; exact HF.out) j hj1 (by rw [HG.out]; have := HNn.out; omega) (by rw [HC.out, HX.out, HY.out]; exact hbad))
                rcases Nat.lt_or_ge c.toNat x with h1 | h1
                · clear hbad
                  go_wp2_with fail
                  go_ret
                  exact ⟨retb HN.out.symm, _, rfl⟩
                · have h2 : y < c.toNat := by omega
                  clear hbad
                  go_wp2_with fail
                  go_ret
                  exact ⟨retb HN.out.symm, _, rfl⟩
              · have h1 : ¬ c.toNat < x := fun h => hbad (.inl h)
                have h2 : ¬ y < c.toNat := fun h => hbad (.inr h)
                clear hbad
                go_wp2_with fail
                go_roundw
                case rel =>
                  refine ⟨j + 1, _, by omega, by omega, by go_num, by rw [E8.out]; rfl, by rw [E9.out]; rfl, fun i hi1 hi2 => ?_, rfl⟩
                  rcases Nat.lt_succ_iff_lt_or_eq.1 hi2 with h | rfl
                  · exact HT.out i hi1 h
                  · rw [HC.out, HX.out, HY.out]; omega
                case measure => simp [intOf]; omega
            · obtain rfl : j = n + 1 := by omega
              have HN := Lib.hid (show Lib.validD l = Lib.validD (l.drop (pos + 1 + n)) from by
                rw [HV.out, utf_good hp (by rw [HG.out]; exact HF.out) (by rw [HG.out]; have := HNn.out; omega) (fun k hk1 hk2 => HT.out k hk1 (by rw [HG.out] at hk2; have := HNn.out; omega))]
                rw [HG.out, show pos + Lib.firstT b.toNat % 8 = pos + 1 + n by have := HNn.out; have := firstT_sz HF.out; omega])
              go_wp2_with fail
              go_roundw
              case rel => exact ⟨pos + 1 + n, _, by omega, by go_num, HN.out, rfl⟩
              case measure => simp [intOf]; omega
        · have HN := Lib.hid (show Lib.validD l = false from by rw [HV.out]; exact utf_short hp (by rw [HG.out]; exact HF.out) (by rw [HG.out]; have := HNn.out; omega))
          go_wp2_with fail
          go_ret
          exact ⟨retb HN.out.symm, _, rfl⟩
    · have HN := Lib.hid (show Lib.validD l = true from by rw [hv, List.drop_eq_nil_of_le (by omega)]; rfl)
      go_wp2
      go_ret
      exact ⟨retb HN.out.symm, _, rfl⟩

/-! ### right -/
theorem ok_cases (b : UInt8) : (okByte b = false ∧ ((b.toNat : Int) < 33 ∨ b.toNat = 127 ∨ b.toNat = 44)) ∨
    (okByte b = true ∧ ¬ (b.toNat : Int) < 33 ∧ ((b.toNat : Int) == 127) = false ∧ ((b.toNat : Int) == 44) = false) := by
  unfold okByte
  by_cases h1 : b.toNat < 33
  · exact .inl ⟨by simp [h1], .inl (by omega)⟩
  · by_cases h2 : b.toNat = 127
    · exact .inl ⟨by simp [h2], .inr (.inl h2)⟩
    · by_cases h3 : b.toNat = 44
      · exact .inl ⟨by simp [h3], .inr (.inr h3)⟩
      · exact .inr ⟨by simp [h1, h2, h3], by omega, beq_eq_false_iff_ne.2 (by omega), beq_eq_false_iff_ne.2 (by omega)⟩
theorem text_no_len {l : List UInt8} (h : l.length < 1 ∨ 256 < l.length) : textL l = false := by
  unfold textL
  rcases h with h | h
  · obtain rfl : l = [] := List.eq_nil_of_length_eq_zero (by omega)
    rfl
  · rw [decide_eq_false (by omega : ¬ l.length ≤ 256)]
    simp
theorem text_no_utf {l : List UInt8} (h : Lib.validD l = false) : textL l = false := by
  unfold textL
  rw [h]
  simp
theorem text_no_byte {l : List UInt8} {k : Nat} (hk : k < l.length) (h : okByte (l.getD k 0) = false) : textL l = false := by
  have hm : l.getD k 0 ∈ l := by rw [← getD_at l k hk]; exact List.getElem_mem hk
  have ha : l.all okByte = false := by
    cases hh : l.all okByte with
    | false => rfl
    | true => rw [List.all_eq_true.1 hh _ hm] at h; cases h
  unfold textL
  rw [ha, Bool.and_false]
theorem text_yes {l : List UInt8} (h1 : 1 ≤ l.length) (h2 : l.length ≤ 256) (h3 : Lib.validD l = true) (h4 : ∀ k, k < l.length → okByte (l.getD k 0) = true) : textL l = true := by
  have ha : l.all okByte = true := List.all_eq_true.2 fun b hb => by
    obtain ⟨k, hk, rfl⟩ := List.mem_iff_getElem.1 hb
    rw [getD_at l k hk]
    exact h4 k hk
  unfold textL
  rw [h3, ha, decide_eq_true h2]
  cases l with
  | nil => simp at h1
  | cons a l => rfl

def OkRel (l : List UInt8) (w wr : World) (i : Value) : Prop :=
  ∃ k q : Nat, k ≤ l.length ∧ i = .int .i64 k ∧ (∀ j, j < k → okByte (l.getD j 0) = true) ∧ wr = w.drewN q

set_option maxHeartbeats 1600000 in
set_option maxRecDepth 100000 in
theorem refText_calls (l : List UInt8) (hl : l.length ≤ 4294967280) (w : World) :
    Calls Tryz.prog 48 #[.string (B l)] w fun e w' => e = .returned (.bool (textL l)) ∧ ∃ q, w' = w.drewN q := by
  have hsz : (B l).size = l.length := B_size l
  have U := Lib.hid fun W => utf8_calls l hl W
  by_cases h1 : l.length < 1
  · have HN := Lib.hid (text_no_len (l := l) (.inl h1))
    go_enter Tryz.func48, Tryz.ntmps48
    go_wp2_with fail
    go_ret
    exact ⟨retb HN.out.symm, 0, rfl⟩
  · by_cases h2 : 256 < l.length
    · have HN := Lib.hid (text_no_len (l := l) (.inr h2))
      go_enter Tryz.func48, Tryz.ntmps48
      go_wp2_with fail
      go_ret
      exact ⟨retb HN.out.symm, 0, rfl⟩
    · cases hv : Lib.validD l with
      | false =>
        rw [hv] at U
        have HN := Lib.hid (text_no_utf hv)
        clear hv
        go_enter Tryz.func48, Tryz.ntmps48
        go_wp2_with fail
        refine (U.out _).mono ?_
        rintro e _ ⟨rfl, q, rfl⟩
        go_wp2_with fail
        go_ret
        exact ⟨retb HN.out.symm, _, rfl⟩
      | true =>
        rw [hv] at U
        have HV := Lib.hid hv
        clear hv
        go_enter Tryz.func48, Tryz.ntmps48
        go_wp2_with fail
        refine (U.out _).mono ?_
        rintro e _ ⟨rfl, q, rfl⟩
        go_wp2_with fail
        go_loopw [3] (fun i wr => OkRel l w wr i) (fun i _ => l.length - (intOf i).toNat)
        case atStart => exact ⟨0, _, by omega, rfl, fun j hj => by omega, rfl⟩
        case round =>
          obtain ⟨k, q1, hk, rfl, hok, rfl⟩ := hrel
          have HO := Lib.hid hok
          clear hok
          by_cases hlt : k < l.length
          · have hp' : k < (B l).size := by rw [hsz]; exact hlt
            obtain ⟨c, hc⟩ : ∃ c, (B l)[k] = c := ⟨_, rfl⟩
            have HC := Lib.hid (show l.getD k 0 = c from by rw [← hc, B_at])
            rcases ok_cases c with ⟨o1, o2⟩ | ⟨o1, o2, o3, o4⟩
            · have HN := Lib.hid (text_no_byte hlt (by rw [HC.out]; exact o1))
              clear o1
              by_cases b1 : (c.toNat : Int) < 33
              · clear o2
                go_wp2_with fail
                go_ret
                exact ⟨retb HN.out.symm, _, rfl⟩
              · by_cases b2 : c.toNat = 127
                · have b3 : ((c.toNat : Int) == 127) = true := beq_iff_eq.2 (by omega)
                  clear o2
                  go_wp2_with fail
                  go_ret
                  exact ⟨retb HN.out.symm, _, rfl⟩
                · have b3 : ((c.toNat : Int) == 127) = false := beq_eq_false_iff_ne.2 (by omega)
                  have b4 : ((c.toNat : Int) == 44) = true := beq_iff_eq.2 (by omega)
                  clear o2
                  go_wp2_with fail
                  go_ret
                  exact ⟨retb HN.out.symm, _, rfl⟩
            · have H1 := Lib.hid o1
              clear o1
              go_wp2_with fail
              go_roundw
              case rel =>
                refine ⟨k + 1, _, by omega, by go_num, fun j hj => ?_, rfl⟩
                rcases Nat.lt_succ_iff_lt_or_eq.1 hj with h | rfl
                · exact HO.out j h
                · rw [HC.out]; exact H1.out
              case measure => simp [intOf]; omega
          · have HN := Lib.hid (text_yes (by omega) (by omega) HV.out fun j hj => HO.out j (by omega))
            go_wp2_with fail
            go_ret
            exact ⟨retb HN.out.symm, _, rfl⟩
end Go.Proofs.YtepmkkeaidacmaaGreatDoor
