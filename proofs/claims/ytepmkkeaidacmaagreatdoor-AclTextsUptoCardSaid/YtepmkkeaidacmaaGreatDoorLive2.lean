/-
  The walk of Fix on the chapter's example.
-/
import Derived.Test.YtepmkkeaidacmaaGreatDoorLive1
namespace Go.Proofs.YtepmkkeaidacmaaGreatDoor
open Go.RowKit Go.Maps Go.WideMaps

def bAuth : List UInt8 := [97, 117, 116, 104]
def bUp : List UInt8 := [117, 58, 112]
def eW : Ent := ⟨31, bWorld, bAnyone⟩
def eA : Ent := ⟨1, bAuth, []⟩
def eD : Ent := ⟨1, bDigest, bUp⟩
theorem eW_right : eW.right = true := by decide +kernel
theorem eA_right : eA.right = false := by decide +kernel
theorem eD_right : eD.right = true := by decide +kernel

noncomputable def klW : Lit := (keyOf Tryz.prog 44 (.agg #[.int .i32 31, .string (B bWorld), .string (B bAnyone)])).getD (.bool false)
noncomputable def klD : Lit := (keyOf Tryz.prog 44 (.agg #[.int .i32 1, .string (B bDigest), .string (B bUp)])).getD (.bool false)
theorem keyW : keyOf Tryz.prog 44 (.agg #[.int .i32 31, .string (B bWorld), .string (B bAnyone)]) = some klW := by kernel_rfl
theorem keyD : keyOf Tryz.prog 44 (.agg #[.int .i32 1, .string (B bDigest), .string (B bUp)]) = some klD := by kernel_rfl
noncomputable def dm0 : DataW Unit := .map []
noncomputable def dm1 : DataW Unit := dm0.put klW (.lit (.int .i64 0))
noncomputable def dm2 : DataW Unit := dm1.put klD (.lit (.int .i64 1))
theorem has0 : Maps.has dm0 klW = false := by kernel_rfl
theorem has1 : Maps.has dm1 klD = false := by kernel_rfl
theorem has2 : Maps.has dm2 klW = true := by kernel_rfl

theorem rightW (w : World) (he : Env w) : Calls Tryz.prog 13 #[.agg #[.int .i32 31, .string (B bWorld), .string (B bAnyone)]] w fun e w' => e = .returned (.bool true) ∧ Below w.heap.size w w' := by
  have := right_calls eW (by decide) (by decide) w he
  rw [eW_right] at this
  exact this
theorem rightA (w : World) (he : Env w) : Calls Tryz.prog 13 #[.agg #[.int .i32 1, .string (B bAuth), .string (B [])]] w fun e w' => e = .returned (.bool false) ∧ Below w.heap.size w w' := by
  have := right_calls eA (by decide) (by decide) w he
  rw [eA_right] at this
  exact this

/-- The lists that Fix is handed. -/
structure FixIn (lb ib : Nat) (w : World) : Prop where
  l : Blk w lb 44 #[.int .i32 31, .string (B bWorld), .string (B bAnyone), .int .i32 1, .string (B bAuth), .string (B []), .int .i32 31, .string (B bWorld), .string (B bAnyone)]
  ids : Blk w ib 42 #[.string (B bDigest), .string (B bUp)]
theorem FixIn.below {lb ib b : Nat} {w w' : World} (h : FixIn lb ib w) (hb : Below b w w') (h1 : lb < b) (h2 : ib < b) : FixIn lb ib w' := ⟨h.l.below hb h1, h.ids.below hb h2⟩

structure FixRel (lb ib : Nat) (w wr : World) (i : Value) : Prop where
  st : (i = .int .i64 0 ∧ ListAt w.heap.size (w.heap.size + 1) w.heap.size [] 0 dm0 wr) ∨ (i = .int .i64 1 ∧ ListAt w.heap.size (w.heap.size + 1) w.heap.size [eW] 1 dm1 wr) ∨
    (i = .int .i64 2 ∧ ListAt w.heap.size (w.heap.size + 1) w.heap.size [eW, eD] 2 dm2 wr) ∨ (i = .int .i64 3 ∧ ListAt w.heap.size (w.heap.size + 1) w.heap.size [eW, eD] 2 dm2 wr)
  env : Env wr
  below : Below w.heap.size w wr
  inn : FixIn lb ib wr

theorem eqIdB (a b c d : List UInt8) (w : World) (r : Bool) (hr : (decide (a = c) && decide (b = d)) = r) : (binOp .eql 42 (.agg #[.string (B a), .string (B b)]) (.agg #[.string (B c), .string (B d)])).run Tryz.prog w = .ok (.bool r) w := by
  rw [run_eql_struct, show (10000 : Nat) = 9998 + 2 from rfl, eqId, beq_B, beq_B, Result.andThen_ok, ← hr]
  by_cases h1 : a = c <;> by_cases h2 : b = d <;> simp [h1, h2]

theorem blk2 (w : World) (o : Obj) (cs : Array Value) (t : TypeId) : Blk ((w.alloc o).alloc (.cells cs t)) (w.heap.size + 1) t cs := by
  have := heap_alloc_new (w.alloc o) (.cells cs t)
  simp only [World.size_alloc] at this
  exact this

set_option maxHeartbeats 3200000 in
set_option maxRecDepth 100000 in
theorem fix_calls (lb ib : Nat) (w : World) (he : Env w) (hin : FixIn lb ib w) :
    Calls Tryz.prog 17 #[.slice (some ⟨lb, 0, none⟩) 3 3, .slice (some ⟨ib, 0, none⟩) 1 1] w fun e w' => (∃ A c, e = .returned (.tuple #[.slice A 2 c, .int .i64 0]) ∧ Acls w' w'.heap.size A [eW, eD]) ∧ Below w.heap.size w w' := by
  have hmm := @run_makeMap Tryz.prog
  have hlb := hin.l.lt
  have hib := hin.ids.lt
  go_enter Tryz.func17, Tryz.ntmps17
  go_wp2
  have hmade : ((w.alloc (.map #[] 0)).ownsMap Tryz.prog 44 Re w.heap.size 0 dm0) := World.ownsMap_made _ _ _ _
  go_loopw [25] (fun i wr => FixRel lb ib w wr i) (fun i _ => 3 - (intOf i).toNat)
  case atStart =>
    have hb0 : Below w.heap.size w ((w.alloc (.map #[] 0)).alloc (.cells #[.slice none 0 0, .map (some w.heap.size)] 73)) := ((Below.refl _ _).alloc (Nat.le_refl _) _).alloc (by simp) _
    exact ⟨.inl ⟨rfl, ⟨⟨_, blk2 w _ _ _, ⟨rfl, .inl ⟨rfl, rfl⟩⟩⟩, hmade.kept (row := none) ⟨rfl, rfl, rfl, by simp, fun i hi _ => Below.heap_alloc _ _ i hi⟩ (by simp)⟩⟩, he.below hb0, hb0, hin.below hb0 hlb hib⟩
  case round =>
    obtain ⟨hst, hen, hbr, hinn⟩ := hrel
    have HIn := Lib.hid hinn
    have hbs := hbr.size
    have hen2 : ∀ o, Env (wr.alloc o) := fun o => hen.below ((Below.refl _ _).alloc (Nat.le_refl _) _)
    rcases hst with ⟨rfl, hlist⟩ | ⟨rfl, hlist⟩ | ⟨rfl, hlist⟩ | ⟨rfl, hlist⟩
    · have HL := Lib.hid hlist
      have hsl := hlist.size
      have l0 : wr.cell? ⟨lb, 0, none⟩ = some (.int .i32 31) := hinn.l.cell 0
      have l1 : wr.cell? ⟨lb, 1, none⟩ = some (.string (B bWorld)) := hinn.l.cell 1
      have l2 : wr.cell? ⟨lb, 2, none⟩ = some (.string (B bAnyone)) := hinn.l.cell 2
      clear hlist hinn hmade
      go_wp2_with fail
      refine (rightW _ (hen2 _)).mono ?_
      rintro e w2 ⟨rfl, hb2⟩
      have hs2 : wr.heap.size < w2.heap.size := by have := hb2.size; simp at this; omega
      have hb2' : Below wr.heap.size wr w2 := ((Below.refl _ _).alloc (Nat.le_refl _) _).trans (hb2.mono (by simp))
      have c0 : w2.cell? ⟨wr.heap.size, 0, none⟩ = some (.int .i32 31) := (hb2.cell (p := ⟨wr.heap.size, 0, none⟩) (by simp)).trans (by simp)
      have c1 : w2.cell? ⟨wr.heap.size, 1, none⟩ = some (.string (B bWorld)) := (hb2.cell (p := ⟨wr.heap.size, 1, none⟩) (by simp)).trans (by simp)
      have c2 : w2.cell? ⟨wr.heap.size, 2, none⟩ = some (.string (B bAnyone)) := (hb2.cell (p := ⟨wr.heap.size, 2, none⟩) (by simp)).trans (by simp)
      have hL2 := Lib.hid (HL.out.below hb2')
      go_wp2_with fail
      refine (put_new eW klW keyW w.heap.size (w.heap.size + 1) w.heap.size 0 [] dm0 has0 (by decide) (by decide) w2 hL2.out (Nat.le_succ _) (Nat.le_refl _) (by omega)).mono ?_
      rintro e w3 ⟨rfl, hb3, hL3⟩
      have hb3' : Below w.heap.size w w3 := (hbr.trans (hb2'.mono hbs)).trans hb3
      have HL3 := Lib.hid hL3
      clear hL3
      go_wp2
      go_roundw
      case rel => exact ⟨.inr (.inl ⟨rfl, HL3.out⟩), he.below hb3', hb3', hin.below hb3' hlb hib⟩
      case measure => simp [intOf]
    · have HL := Lib.hid hlist
      have hsl := hlist.size
      have l0 : wr.cell? ⟨lb, 3, none⟩ = some (.int .i32 1) := hinn.l.cell 3
      have l1 : wr.cell? ⟨lb, 4, none⟩ = some (.string (B bAuth)) := hinn.l.cell 4
      have l2 : wr.cell? ⟨lb, 5, none⟩ = some (.string (B [])) := hinn.l.cell 5
      clear hlist hinn hmade
      go_wp2_with fail
      refine (rightA _ (hen2 _)).mono ?_
      rintro e w2 ⟨rfl, hb2⟩
      have hs2 : wr.heap.size < w2.heap.size := by have := hb2.size; simp at this; omega
      have hb2' : Below wr.heap.size wr w2 := ((Below.refl _ _).alloc (Nat.le_refl _) _).trans (hb2.mono (by simp))
      have c0 : w2.cell? ⟨wr.heap.size, 0, none⟩ = some (.int .i32 1) := (hb2.cell (p := ⟨wr.heap.size, 0, none⟩) (by simp)).trans (by simp)
      have c1 : w2.cell? ⟨wr.heap.size, 1, none⟩ = some (.string (B bAuth)) := (hb2.cell (p := ⟨wr.heap.size, 1, none⟩) (by simp)).trans (by simp)
      have c2 : w2.cell? ⟨wr.heap.size, 2, none⟩ = some (.string (B [])) := (hb2.cell (p := ⟨wr.heap.size, 2, none⟩) (by simp)).trans (by simp)
      have hL2 := Lib.hid (HL.out.below hb2')
      have hI2 := HIn.out.below hb2' (by omega) (by omega)
      have i0 : w2.cell? ⟨ib, 0, none⟩ = some (.string (B bDigest)) := hI2.ids.cell 0
      have i1 : w2.cell? ⟨ib, 1, none⟩ = some (.string (B bUp)) := hI2.ids.cell 1
      have heq : ∀ w, (binOp .eql 42 (.agg #[.string (B bAuth), .string (B [])]) (.agg #[.string ⟨#[97, 117, 116, 104]⟩, .string ⟨#[]⟩])).run Tryz.prog w = .ok (.bool true) w := fun w => eqIdB bAuth [] bAuth [] w true (by decide)
      have hd : ((B bDigest).toList == [100, 105, 103, 101, 115, 116]) = true := by rw [beq_BL]; decide
      clear hI2
      go_wp2
      obtain ⟨wo, hwo⟩ : ∃ wo : World, wo = w2 := ⟨_, rfl⟩
      go_loopw [9, 52] (fun s i wi => (s = .bool false ∧ i = .int .i64 0 ∧ wi = w2) ∨ (s = .bool true ∧ i = .int .i64 1 ∧ Below w.heap.size w wi ∧ ListAt w.heap.size (w.heap.size + 1) w.heap.size [eW, eD] 2 dm2 wi)) (fun _ i _ => 1 - (intOf i).toNat)
      case atStart => exact .inl ⟨rfl, rfl, rfl⟩
      case round =>
        rcases hrel with ⟨rfl, rfl, rfl⟩ | ⟨rfl, rfl, hbi, hLi⟩
        · go_wp2_with fail
          refine (put_new eD klD keyD w.heap.size (w.heap.size + 1) w.heap.size 1 [eW] dm1 has1 (by decide) (by decide) _ (hL2.out.below ((Below.refl _ _).alloc (Nat.le_refl _) _)) (Nat.le_succ _) (Nat.le_refl _) (by simp; omega)).mono ?_
          rintro e w3 ⟨rfl, hb3, hL3⟩
          have hb3' : Below w.heap.size w w3 := ((hbr.trans (hb2'.mono hbs)).alloc (by omega) _).trans hb3
          have HL3 := Lib.hid hL3
          clear hL3
          go_wp2
          go_roundw
          case rel => exact .inr ⟨rfl, rfl, hb3', HL3.out⟩
          case measure => simp [intOf]
        · have HLi := Lib.hid hLi
          clear hLi
          go_wp2
          go_roundw
          case rel => exact ⟨.inr (.inr (.inl ⟨rfl, HLi.out⟩)), he.below hbi, hbi, hin.below hbi hlb hib⟩
          case measure => simp [intOf]
    · have HL := Lib.hid hlist
      have hsl := hlist.size
      have l0 : wr.cell? ⟨lb, 6, none⟩ = some (.int .i32 31) := hinn.l.cell 6
      have l1 : wr.cell? ⟨lb, 7, none⟩ = some (.string (B bWorld)) := hinn.l.cell 7
      have l2 : wr.cell? ⟨lb, 8, none⟩ = some (.string (B bAnyone)) := hinn.l.cell 8
      clear hlist hinn hmade
      go_wp2_with fail
      refine (rightW _ (hen2 _)).mono ?_
      rintro e w2 ⟨rfl, hb2⟩
      have hs2 : wr.heap.size < w2.heap.size := by have := hb2.size; simp at this; omega
      have hb2' : Below wr.heap.size wr w2 := ((Below.refl _ _).alloc (Nat.le_refl _) _).trans (hb2.mono (by simp))
      have c0 : w2.cell? ⟨wr.heap.size, 0, none⟩ = some (.int .i32 31) := (hb2.cell (p := ⟨wr.heap.size, 0, none⟩) (by simp)).trans (by simp)
      have c1 : w2.cell? ⟨wr.heap.size, 1, none⟩ = some (.string (B bWorld)) := (hb2.cell (p := ⟨wr.heap.size, 1, none⟩) (by simp)).trans (by simp)
      have c2 : w2.cell? ⟨wr.heap.size, 2, none⟩ = some (.string (B bAnyone)) := (hb2.cell (p := ⟨wr.heap.size, 2, none⟩) (by simp)).trans (by simp)
      have hL2 := Lib.hid (HL.out.below hb2')
      go_wp2_with fail
      refine (put_old eW klW keyW w.heap.size (w.heap.size + 1) w.heap.size 2 [eW, eD] dm2 has2 w2 hL2.out).mono ?_
      rintro e w3 ⟨rfl, hb3⟩
      have hb3' : Below w.heap.size w w3 := (hbr.trans (hb2'.mono hbs)).trans (hb3.mono (by omega))
      have HL3 := Lib.hid (hL2.out.below hb3)
      go_wp2
      go_roundw
      case rel => exact ⟨.inr (.inr (.inr ⟨rfl, HL3.out⟩)), he.below hb3', hb3', hin.below hb3' hlb hib⟩
      case measure => simp [intOf]
    · obtain ⟨v, hbv, hov⟩ := hlist.blk
      obtain ⟨A, c, rfl⟩ := own_form hov
      have HA := Lib.hid (acls_of_own (es := [eW, eD]) hov rfl)
      have v0 : wr.cell? ⟨w.heap.size + 1, 0, none⟩ = some (.slice A 2 c) := hbv.cell 0
      clear hlist hinn hmade hbv hov
      go_wp2
      go_ret2
      exact ⟨⟨A, c, rfl, HA.out⟩, hbr⟩
end Go.Proofs.YtepmkkeaidacmaaGreatDoor
