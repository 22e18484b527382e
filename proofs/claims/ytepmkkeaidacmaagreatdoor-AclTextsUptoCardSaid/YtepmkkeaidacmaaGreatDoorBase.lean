/-
  What all walks of this claim stand on: how '==' on entries and identities runs, how a whole entry is read, what a slice of entries is in memory, and the package-level variables that must hold what they hold.
-/
import Derived.Test.YtepmkkeaidacmaaGreatDoorSpec
import Derived.Test.YtepmkkeaidacmaaGreatDoorProg
import Derived.WalkKit
import Derived.Below
import Derived.LoopTactic
import Derived.WalkLawsBesides
import Derived.WalkSpells
import Derived.Laws.StructEq
import Derived.Laws.Cells
import Derived.Lib.LaidTab

import Derived.Lib.Hide
namespace Go.Proofs.YtepmkkeaidacmaaGreatDoor
open Go.RowKit

/-- A string of these bytes. -/
def B (l : List UInt8) : ByteArray := ⟨l.toArray⟩
theorem B_data (l : List UInt8) : (B l).data.toList = l := by simp [B]
theorem B_toList (l : List UInt8) : (B l).toList = l := by rw [ByteArray.toList_eq]; exact B_data l
theorem B_size (l : List UInt8) : (B l).size = l.length := by simp [B, ByteArray.size]
theorem B_of (s : ByteArray) : B s.data.toList = s := by obtain ⟨⟨l⟩⟩ := s; rfl

/-- An entry's cells, and an entry as a value. -/
def Ent.cells (a : Ent) : List Value := [.int .i32 a.p, .string (B a.sc), .string (B a.id)]
def Ent.val (a : Ent) : Value := .agg #[.int .i32 a.p, .string (B a.sc), .string (B a.id)]

theorem stood36 : Tryz.prog.stoodInHeld 44 = false := by kernel_rfl
theorem stood33 : Tryz.prog.stoodInHeld 42 = false := by kernel_rfl

theorem beq_B (a b : List UInt8) : ((B a).toList == (B b).toList) = (a == b) := by rw [B_toList, B_toList]

theorem eqId (a b c d : ByteArray) (w : World) (n : Nat) : (Op.equalIn (n + 2) 42 (.agg #[.string a, .string b]) (.agg #[.string c, .string d])).run Tryz.prog w = .ok (a.toList == c.toList && b.toList == d.toList) w := by
  have u9 := Tryz.underlying9
  have a9 := Tryz.isAgg9
  have z9 := Tryz.sizeOf9
  have hS : Tryz.prog.underlying 42 = some (.struct (Tryz.prog.fieldsOf 42)) := by kernel_rfl
  rw [run_equalIn_agg w (n + 1) 42 _ _ hS stood33]
  simp only [Program.fieldsOf, Tryz.underlying42]
  go_simp
  by_cases h1 : a.toList = c.toList <;> by_cases h2 : b.toList = d.toList <;> simp [h1, h2]

theorem eqAcl (p q : Int) (a b c d : ByteArray) (w : World) : (Op.equalIn 10000 44 (.agg #[.int .i32 p, .string a, .string b]) (.agg #[.int .i32 q, .string c, .string d])).run Tryz.prog w = .ok (p == q && (a.toList == c.toList && b.toList == d.toList)) w := by
  have u21 := Tryz.underlying21
  have a21 := Tryz.isAgg21
  have z21 := Tryz.sizeOf21
  have a33 := Tryz.isAgg42
  have z33 := Tryz.sizeOf42
  have hS : Tryz.prog.underlying 44 = some (.struct (Tryz.prog.fieldsOf 44)) := by kernel_rfl
  rw [show (10000 : Nat) = 9999 + 1 from rfl, run_equalIn_agg w 9999 44 _ _ hS stood36]
  have hI := fun w => eqId a b c d w 9997
  simp only [Program.fieldsOf, Tryz.underlying44]
  go_simp
  by_cases h0 : p = q <;> by_cases h1 : a.toList = c.toList <;> by_cases h2 : b.toList = d.toList <;> simp [h0, h1, h2]

theorem neqEnt (x y : Ent) (w : World) : (binOp .neq 44 (.agg #[.int .i32 x.p, .string (B x.sc), .string (B x.id)]) (.agg #[.int .i32 y.p, .string (B y.sc), .string (B y.id)])).run Tryz.prog w = .ok (.bool (!decide (x = y))) w := by
  rw [run_neq_struct, eqAcl]
  obtain ⟨p, a, b⟩ := x
  obtain ⟨q, c, d⟩ := y
  simp only [Result.andThen_ok, beq_B, Ent.mk.injEq]
  by_cases h0 : p = q <;> by_cases h1 : a = c <;> by_cases h2 : b = d <;> simp [h0, h1, h2]

/-! ### Slices of entries -/
theorem run_loadAt_cells {P : Program} (w : World) (ty : TypeId) (a : Addr) (cs : List Value) (d : Array Field) (hc : ∀ j v, cs[j]? = some v → w.cell? (a.add j) = some v)
    (hu : P.underlying ty = some (.struct d)) (hi : (P.info? ty).map (·.size) = some cs.length) :
    (Instr.loadAt ty (.pointer (some a))).run P w = .ok (.agg cs.toArray) w := by
  have hl : (loadCells a cs.length).run P w = .ok cs.toArray w := run_loadCells_list (P := P) w a cs hc
  cases hq : P.info? ty with
  | none => simp [hq] at hi
  | some i =>
    have hs : i.size = cs.length := by simpa [hq] using hi
    have hagg : (isAgg ty).run P w = .ok true w := by
      unfold isAgg
      rw [Sem.run_bind, run_underlying hu w]
      rfl
    simp [Instr.loadAt, Instr.sureAddr, loadVar, Sem.run_bind, hagg, sizeOf, typeInfo, hq, hs, hl]

/-- The entries 'es' lie in memory, below block 'b', where the slice says. -/
def Acls (w : World) (b : Nat) (A : Option Addr) (es : List Ent) : Prop :=
  0 < es.length → ∃ ad, A = some ad ∧ ad.block < b ∧ ∀ k e, es[k]? = some e → ∀ j v, e.cells[j]? = some v → w.cell? ((ad.add (k * 3)).add j) = some v

theorem block_add (a : Addr) (n : Nat) : (a.add n).block = a.block := by unfold Addr.add; split <;> rfl
theorem Acls.keep {w w' : World} {b : Nat} {A : Option Addr} {es : List Ent} (h : Acls w b A es) (hk : ∀ p : Addr, p.block < b → w'.cell? p = w.cell? p) : Acls w' b A es := fun hn => by
  obtain ⟨ad, e, hb, hc⟩ := h hn
  exact ⟨ad, e, hb, fun k x hx j v hv => (hk _ (by rw [block_add, block_add]; exact hb)).trans (hc k x hx j v hv)⟩
theorem Acls.below {w w' : World} {b : Nat} {A : Option Addr} {es : List Ent} (h : Acls w b A es) (hb : Below b w w') : Acls w' b A es := h.keep fun _ hp => hb.cell hp
theorem Acls.more {w : World} {b b' : Nat} {A : Option Addr} {es : List Ent} (h : Acls w b A es) (hb : b ≤ b') : Acls w b' A es := fun hn => by
  obtain ⟨ad, e, hl, hc⟩ := h hn
  exact ⟨ad, e, by omega, hc⟩
theorem Acls.drewN {w : World} {b : Nat} {A : Option Addr} {es : List Ent} (h : Acls w b A es) (n : Nat) : Acls (w.drewN n) b A es := h
theorem Acls.nil (w : World) (b : Nat) (A : Option Addr) : Acls w b A [] := fun h => absurd h (by simp)
theorem Acls.load {w : World} {b : Nat} {A : Option Addr} {es : List Ent} (h : Acls w b A es) {k : Nat} (hk : k < es.length) :
    ∃ ad, A = some ad ∧ ad.block < b ∧ (Instr.loadAt 44 (.pointer (some (ad.add (k * 3))))).run Tryz.prog w = .ok (.agg #[.int .i32 (es[k]).p, .string (B (es[k]).sc), .string (B (es[k]).id)]) w := by
  obtain ⟨ad, rfl, hb, hc⟩ := h (by omega)
  exact ⟨ad, rfl, hb, run_loadAt_cells w 44 _ (es[k]).cells _ (hc k _ (List.getElem?_eq_getElem hk)) Tryz.underlying44 (by kernel_rfl)⟩
/-- The three cells of one entry, in the walk's own spelling. -/
theorem Acls.three {w : World} {b : Nat} {A : Option Addr} {es : List Ent} (h : Acls w b A es) {k : Nat} (hk : k < es.length) :
    ∃ ad, A = some ad ∧ ad.block < b ∧ w.cell? (ad.add (k * 3)) = some (.int .i32 (es[k]).p) ∧
      w.cell? ⟨(ad.add (k * 3)).block, (ad.add (k * 3)).off + 1, none⟩ = some (.string (B (es[k]).sc)) ∧ w.cell? ⟨(ad.add (k * 3)).block, (ad.add (k * 3)).off + 2, none⟩ = some (.string (B (es[k]).id)) := by
  obtain ⟨ad, rfl, hb, hc⟩ := h (by omega)
  have hc := hc k _ (List.getElem?_eq_getElem hk)
  exact ⟨ad, rfl, hb, hc 0 _ rfl, hc 1 _ rfl, hc 2 _ rfl⟩
end Go.Proofs.YtepmkkeaidacmaaGreatDoor
