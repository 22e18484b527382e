/-
  The arguments opened: a list of entries as it lies in memory; what the bound gives.
-/
import Derived.Test.YtepmkkeaidacmaaGreatDoorBase
import Derived.Test.YtepmkkeaidacmaaGreatDoorRows
import Derived.Deep.Slices
import Derived.Deep.Fields
import Derived.ChangeSame
namespace Go.Proofs.YtepmkkeaidacmaaGreatDoor
open Go.RowKit Go.ChangeShapes Go.WideShapes Go.Deep

section
variable {H : Type} {enc : TypeId × Value → H} {w : World} {base : Nat} {spare : Nat → Bool} {held : Bool}

/-- What an entry reads as. -/
def entData {H : Type} (e : Ent) : DataW H := .agg [.lit (.int .i32 e.p), .agg [.lit (.string e.sc), .lit (.string e.id)]]

theorem size_acl : Tryz.prog.cellsOf 44 = 3 := by kernel_rfl
theorem size_id : Tryz.prog.cellsOf 42 = 2 := by kernel_rfl
theorem size_str : Tryz.prog.cellsOf 9 = 1 := by kernel_rfl
theorem size_int32 : Tryz.prog.cellsOf 21 = 1 := by kernel_rfl

set_option maxRecDepth 100000 in
theorem open_id {n : Nat} {cs : List Value} {x : DataW H × List MemPlace} (h : DataW.trod enc Tryz.prog w base spare held n 42 cs = some x) :
    ∃ sc id : List UInt8, cs = [.string (B sc), .string (B id)] ∧ x.1 = .agg [.lit (.string sc), .lit (.string id)] := by
  obtain ⟨xs, n', rfl, rfl, hlen, hxl, hf⟩ := DataW.trod_struct Tryz.underlying42 h
  rw [size_id] at hlen
  match cs, hlen with
  | [c0, c1], _ =>
    match xs, hxl with
    | [y0, y1], _ =>
      have f0 := hf 0 _ rfl
      have f1 := hf 1 _ rfl
      change DataW.trod enc Tryz.prog w base spare held n' 9 (([c0, c1].drop 0).take (Tryz.prog.cellsOf 9)) = some y0 at f0
      change DataW.trod enc Tryz.prog w base spare held n' 9 (([c0, c1].drop 1).take (Tryz.prog.cellsOf 9)) = some y1 at f1
      rw [size_str] at f0 f1
      obtain ⟨s0, h0, rfl, _⟩ := DataW.trod_string Tryz.underlying9 f0
      obtain ⟨s1, h1, rfl, _⟩ := DataW.trod_string Tryz.underlying9 f1
      have e0 : c0 = .string s0 := by simpa using h0
      have e1 : c1 = .string s1 := by simpa using h1
      exact ⟨s0.data.toList, s1.data.toList, by rw [e0, e1, B_of, B_of], rfl⟩

set_option maxRecDepth 100000 in
theorem open_acl {n : Nat} {cs : List Value} {x : DataW H × List MemPlace} (h : DataW.trod enc Tryz.prog w base spare held n 44 cs = some x) :
    ∃ e : Ent, cs = e.cells ∧ x.1 = entData e := by
  obtain ⟨xs, n', rfl, rfl, hlen, hxl, hf⟩ := DataW.trod_struct Tryz.underlying44 h
  rw [size_acl] at hlen
  match cs, hlen with
  | [c0, c1, c2], _ =>
    match xs, hxl with
    | [y0, y1], _ =>
      have f0 := hf 0 _ rfl
      have f1 := hf 1 _ rfl
      change DataW.trod enc Tryz.prog w base spare held n' 21 (([c0, c1, c2].drop 0).take (Tryz.prog.cellsOf 21)) = some y0 at f0
      change DataW.trod enc Tryz.prog w base spare held n' 42 (([c0, c1, c2].drop 1).take (Tryz.prog.cellsOf 42)) = some y1 at f1
      rw [size_int32] at f0
      rw [size_id] at f1
      obtain ⟨p, h0, rfl, _⟩ := DataW.trod_int Tryz.underlying21 f0
      obtain ⟨sc, id, h1, h2⟩ := open_id f1
      have e0 : c0 = .int .i32 p := by simpa using h0
      have e1 : c1 = .string (B sc) ∧ c2 = .string (B id) := by simpa using h1
      exact ⟨⟨p, sc, id⟩, by rw [e0, e1.1, e1.2]; rfl, by simp [entData, h2]⟩

theorem list_of (R : Nat → Ent → Prop) : ∀ n : Nat, (∀ i, i < n → ∃ e, R i e) → ∃ es : List Ent, es.length = n ∧ ∀ k e, es[k]? = some e → R k e
  | 0, _ => ⟨[], rfl, fun k e h => by simp at h⟩
  | n + 1, h => by
    obtain ⟨es, hl, hr⟩ := list_of R n fun i hi => h i (by omega)
    obtain ⟨e, he⟩ := h n (by omega)
    refine ⟨es ++ [e], by simp [hl], fun k e' hk => ?_⟩
    by_cases hkn : k < n
    · rw [List.getElem?_append_left (by omega)] at hk
      exact hr k e' hk
    · rw [List.getElem?_append_right (by omega)] at hk
      have hk0 : k - es.length = 0 := by
        have := (List.getElem?_eq_some_iff.1 hk).1
        simp at this
        omega
      rw [hk0] at hk
      simp only [List.getElem?_cons_zero, Option.some.injEq] at hk
      subst hk
      obtain rfl : k = n := by omega
      exact he

theorem cell_lt {w : World} {p : Addr} {v : Value} (h : w.cell? p = some v) : p.block < w.heap.size := by
  by_cases hb : p.block < w.heap.size
  · exact hb
  · unfold World.cell? at h
    rw [Array.getElem?_eq_none (by omega)] at h
    cases h

/-- A list of entries, as it lies in memory. -/
theorem open_acls {n : Nat} {cs : List Value} {x : DataW H × List MemPlace} (h : DataW.trod enc Tryz.prog w base spare held n 22 cs = some x) :
    ∃ (A : Option Addr) (c : Nat) (es : List Ent) (rest : List (DataW H)), cs = [.slice A es.length c] ∧ Acls w w.heap.size A es ∧ (x.1 = .slice (es.map entData) rest ∨ (es = [] ∧ x.1 = .nil)) := by
  rcases open_slice Tryz.underlying22 h with ⟨rfl, rfl⟩ | ⟨a, len, cap, m, n', D, Pl, rfl, hb, hl, hm, hmm, rfl, hi⟩
  · exact ⟨none, 0, [], [], rfl, Acls.nil _ _ _, .inr ⟨rfl, rfl⟩⟩
  · have hlm : len ≤ m := by rw [hmm]; split <;> omega
    obtain ⟨es, rfl, hes⟩ := list_of (fun i e => w.cells? base (a.add (i * 3)) 3 = some e.cells ∧ D i = entData e) len fun i hil => by
      obtain ⟨cs', hc, ht⟩ := hi i (by omega)
      rw [size_acl] at hc
      obtain ⟨e, rfl, he⟩ := open_acl ht
      exact ⟨e, hc, he⟩
    refine ⟨some a, cap, es, (List.range (m - es.length)).map fun j => D (es.length + j), rfl, fun hpos => ⟨a, rfl, ?_, fun k e hk j v hv => ?_⟩, .inl ?_⟩
    · obtain ⟨hc, _⟩ := hes 0 _ (List.getElem?_eq_getElem hpos)
      obtain ⟨_, _, hat⟩ := World.cells?_some hc
      have h0 := hat 0 (by omega)
      have : ((a.add (0 * 3)).add 0).block < w.heap.size := cell_lt (h0.trans rfl)
      rw [block_add, block_add] at this
      exact this
    · obtain ⟨hc, _⟩ := hes k e hk
      obtain ⟨_, _, hat⟩ := World.cells?_some hc
      have hj : j < 3 := (List.getElem?_eq_some_iff.1 hv).1
      exact (hat j hj).trans hv
    · show DataW.slice _ _ = _
      congr 1
      apply List.ext_getElem?
      intro k
      by_cases hk : k < es.length
      · obtain ⟨_, hd⟩ := hes k _ (List.getElem?_eq_getElem hk)
        simp [hk, hd]
      · rw [List.getElem?_eq_none (by simp; omega), List.getElem?_eq_none (by simp; omega)]
end

/-! ### What the bound gives -/
theorem ent_bulk {H : Type} (e : Ent) : Rows.uptoBulk (entData e : DataW H) = e.sc.length + e.id.length + 5 := by
  simp only [entData, Rows.uptoBulk, Rows.uptoBulkAll]
  omega
theorem ents_bulk {H : Type} : ∀ es : List Ent, es.length ≤ Rows.uptoBulkAll (es.map (entData (H := H))) ∧ ∀ e ∈ es, e.sc.length + e.id.length ≤ Rows.uptoBulkAll (es.map (entData (H := H)))
  | [] => ⟨Nat.zero_le _, fun e he => by cases he⟩
  | a :: es => by
    obtain ⟨h1, h2⟩ := ents_bulk (H := H) es
    have hb := ent_bulk (H := H) a
    simp only [List.map_cons, Rows.uptoBulkAll, List.length_cons]
    refine ⟨by omega, fun e he => ?_⟩
    rcases List.mem_cons.1 he with rfl | he
    · omega
    · have := h2 e he
      omega
end Go.Proofs.YtepmkkeaidacmaaGreatDoor
