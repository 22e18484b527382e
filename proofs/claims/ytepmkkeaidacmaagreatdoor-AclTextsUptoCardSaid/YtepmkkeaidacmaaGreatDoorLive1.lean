/-
  The walk of (*list).put: an entry that is there already, and one that is not.
-/
import Derived.Test.YtepmkkeaidacmaaGreatDoorWalk8
import Derived.Maps.OwnSet
import Derived.Maps.Own
import Derived.Carry
import Derived.DeepKeys4
import Derived.Deep.RegionLaw
namespace Go.Proofs.YtepmkkeaidacmaaGreatDoor
open Go.RowKit Go.Maps Go.WideMaps

theorem laidOut : laidOutB Tryz.prog = true := by kernel_rfl
theorem row36 : 44 < Tryz.prog.types.size := of_decide_eq_true (by kernel_rfl)
set_option maxRecDepth 100000 in
theorem wide36 : (match Tryz.prog.underlying 44 with | some (.array _ _) | some (.struct _) => true | _ => false) = true := by kernel_rfl
set_option maxRecDepth 100000 in
theorem law36 : Keyed Tryz.prog 44 := Keyed.of_law (deep_law_laid laidOut (m := 3) (by omega) row36 (by kernel_rfl) wide36)
theorem zero3 (w : World) : (zeroValue 3).run Tryz.prog w = .ok (.int .i64 0) w := by kernel_rfl

/-- The elements of the list's map. -/
noncomputable def Re : Value → Option (DataW Unit × List MemPlace) := plainElem Tryz.prog 3

/-- A list of entries, each once: its struct's block, its slice's row, its map. -/
structure ListAt (base b m : Nat) (es : List Ent) (n : Nat) (D : DataW Unit) (w : World) : Prop where
  blk : ∃ v, Blk w b 73 #[v, .map (some m)] ∧ w.ownsRow base 44 3 v es.length (flat es)
  map : w.ownsMap Tryz.prog 44 Re m n D

theorem ListAt.size {base b m n : Nat} {es : List Ent} {D : DataW Unit} {w : World} (h : ListAt base b m es n D w) : b < w.heap.size := by
  obtain ⟨v, hb, _⟩ := h.blk
  exact hb.lt
theorem ListAt.below {base b m n : Nat} {es : List Ent} {D : DataW Unit} {w w' : World} (h : ListAt base b m es n D w) (hb : Below w.heap.size w w') : ListAt base b m es n D w' := by
  obtain ⟨v, h1, h2⟩ := h.blk
  refine ⟨⟨v, h1.below hb h1.lt, own_below h2 hb⟩, ?_⟩
  exact h.map.kept (row := none) ⟨hb.os, hb.tape, hb.output, hb.size, fun i hi _ => hb.block i hi⟩ (by simp)

set_option maxHeartbeats 1600000 in
set_option maxRecDepth 100000 in
theorem put_old (a : Ent) (kl : Lit) (hkey : keyOf Tryz.prog 44 (.agg #[.int .i32 a.p, .string (B a.sc), .string (B a.id)]) = some kl) (base b m n : Nat) (es : List Ent) (D : DataW Unit) (hhas : Maps.has D kl = true) (w : World) (h : ListAt base b m es n D w) :
    Calls Tryz.prog 32 #[.pointer (some ⟨b, 0, none⟩), .agg #[.int .i32 a.p, .string (B a.sc), .string (B a.id)]] w fun e w' => e = .returned (.tuple #[]) ∧ Below w.heap.size w w' := by
  obtain ⟨v, hb, hown⟩ := h.blk
  have hbl := hb.lt
  have hmap : ((w.alloc (.cells #[.int .i32 a.p, .string (B a.sc), .string (B a.id)] 44)).drew).ownsMap Tryz.prog 44 Re m n D := h.map.kept (row := none) ⟨rfl, rfl, rfl, by simp, fun i hi _ => Below.heap_alloc w _ i hi⟩ (by simp)
  obtain ⟨c, ps, hrun, hre⟩ := hmap.look_ok law36 Tryz.underlying71 (zero3 _) (plainElem_int Tryz.underlying3 (by decide)) hkey
  rw [hhas] at hrun
  have m1 : (w.alloc (.cells #[.int .i32 a.p, .string (B a.sc), .string (B a.id)] 44)).cell? ⟨b, 1, none⟩ = some (.map (some m)) := (hb.below ((Below.refl _ _).alloc (Nat.le_refl _) _) hbl).cell 1
  clear hre hhas hkey hb hown hmap h
  go_enter Tryz.func32, Tryz.ntmps32
  go_wp2
  go_region
  go_wp2
  go_end0
  exact ⟨rfl, ((Below.refl _ _).alloc (Nat.le_refl _) _).drew⟩

/-- append inside a region that draws its order, by the equation of its run. -/
theorem step_append_eq {P : Program} {w : World} {ops : Array Oper} {o : Oper} {a : Act} {K : Act → World → Prop} {Q : Exit → Act → World → Prop} {E : Prop} (hgd : o.guard = none) (s x : Operand) (t : TypeId)
    (ho : o.op = .call { callee := .builtin .append, args := #[s, x], argTypes := #[t, t] }) (vs vx v' : Value) (w' : World) (hs : a.eval s = vs) (hx : a.eval x = vx)
    (hrun : (Builtin.append_ #[t, t] o.type #[vs, vx]).run P w = .ok v' w') (h : K (a.put o.dst v') w') : if Region.wanted o (yielded ops a.tmps) = true then Oper.wp P o a w K Q else E := by
  have hw : Region.wanted o (yielded ops a.tmps) = true := by simp [Region.wanted, hgd]
  rw [if_pos hw]
  unfold Oper.wp execOp
  simp only [ho, resolve, invoke, builtin, Sem.run_bind, Sem.run_pure, Result.andThen_ok, List.map_toArray, List.map_cons, List.map_nil, hs, hx, hrun]
  exact h

theorem blk_ne_map {w : World} {b m : Nat} {t : TypeId} {cs : Array Value} {R : Value → Option (DataW Unit × List MemPlace)} {k : TypeId} {n : Nat} {D : DataW Unit} (h : Blk w b t cs) (hm : w.ownsMap Tryz.prog k R m n D) : b ≠ m := by
  rintro rfl
  obtain ⟨es, clock, hb, _⟩ := hm
  unfold Blk at h
  rw [h] at hb
  cases hb
theorem own_ne_map {w : World} {base e size l m : Nat} {v : Value} {xs : List Value} {R : Value → Option (DataW Unit × List MemPlace)} {k : TypeId} {n : Nat} {D : DataW Unit} (h : w.ownsRow base e size v l xs) (hm : w.ownsMap Tryz.prog k R m n D) : v.ownBlock ≠ some m := by
  obtain ⟨es, clock, hb, _⟩ := hm
  rcases h.2 with ⟨rfl, _⟩ | ⟨g, cap, cur, rfl, _, hg, _⟩
  · simp [Value.ownBlock]
  · intro he
    have : g = m := by simpa [Value.ownBlock] using he
    subst this
    rw [hg] at hb
    cases hb

theorem grown_put (w : World) (b : Nat) (u : Value) : w.grownBy (w.setCell ⟨b, 0, none⟩ u) (some b) :=
  ⟨rfl, rfl, rfl, by simp [World.setCell], fun i _ hne => Below.heap_setCell w ⟨b, 0, none⟩ u i (by rintro rfl; exact hne rfl)⟩
theorem own_put {W : World} {base e size n g t : Nat} {v : Value} {xs : List Value} {cs : Array Value} (h : W.ownsRow base e size v n xs) (hg : Blk W g t cs) (hne : e ≠ t) (u : Value) : (W.setCell ⟨g, 0, none⟩ u).ownsRow base e size v n xs :=
  h.kept (grown_put W g u) (.inr (own_other h hg hne))
theorem map_put {w : World} {b m n : Nat} {k : TypeId} {R : Value → Option (DataW Unit × List MemPlace)} {D : DataW Unit} (h : w.ownsMap Tryz.prog k R m n D) (hne : m ≠ b) (u : Value) : (w.setCell ⟨b, 0, none⟩ u).ownsMap Tryz.prog k R m n D :=
  h.kept (grown_put w b u) (by intro e; injection e with e; exact hne e)

set_option maxHeartbeats 1600000 in
set_option maxRecDepth 100000 in
theorem put_new (a : Ent) (kl : Lit) (hkey : keyOf Tryz.prog 44 (.agg #[.int .i32 a.p, .string (B a.sc), .string (B a.id)]) = some kl) (base b m n : Nat) (es : List Ent) (D : DataW Unit) (hhas : Maps.has D kl = false) (hn : n ≤ 1000) (hl : es.length ≤ 1000)
    (w : World) (h : ListAt base b m es n D w) (hbb : base ≤ b) (hbm : base ≤ m) (hbw : base ≤ w.heap.size) :
    Calls Tryz.prog 32 #[.pointer (some ⟨b, 0, none⟩), .agg #[.int .i32 a.p, .string (B a.sc), .string (B a.id)]] w fun e w' => e = .returned (.tuple #[]) ∧ Below base w w' ∧ ListAt base b m (es ++ [a]) (n + 1) (D.put kl (.lit (.int .i64 (es.length : Nat)))) w' := by
  obtain ⟨v, hb, hown⟩ := h.blk
  obtain ⟨A, c, rfl⟩ := own_form hown
  have hbl := hb.lt
  have hbox : Below w.heap.size w (w.alloc (.cells #[.int .i32 a.p, .string (B a.sc), .string (B a.id)] 44)) := (Below.refl _ _).alloc (Nat.le_refl _) _
  have hmap : ((w.alloc (.cells #[.int .i32 a.p, .string (B a.sc), .string (B a.id)] 44)).drew).ownsMap Tryz.prog 44 Re m n D := h.map.kept (row := none) ⟨rfl, rfl, rfl, by simp, fun i hi _ => Below.heap_alloc w _ i hi⟩ (by simp)
  have hmap2 : ((w.alloc (.cells #[.int .i32 a.p, .string (B a.sc), .string (B a.id)] 44)).drew.drew).ownsMap Tryz.prog 44 Re m n D := hmap
  obtain ⟨c1, ps, hrun, hre⟩ := hmap.look_ok law36 Tryz.underlying71 (zero3 _) (plainElem_int Tryz.underlying3 (by decide)) hkey
  rw [hhas] at hrun
  obtain ⟨w2, hrun2, hmap3, hgr2⟩ := hmap2.update law36 Tryz.underlying71 (by unfold maxLen; omega) hkey (plainElem_int (H := Unit) (q := .i64) (a := ((es.length : Nat) : Int)) Tryz.underlying3 (WalkArith.wf_i64 (by omega)))
  have hb1 : Blk (w.alloc (.cells #[.int .i32 a.p, .string (B a.sc), .string (B a.id)] 44)) b 73 #[.slice A es.length c, .map (some m)] := hb.below hbox hbl
  have hbx : Blk (w.alloc (.cells #[.int .i32 a.p, .string (B a.sc), .string (B a.id)] 44)) w.heap.size 44 #[.int .i32 a.p, .string (B a.sc), .string (B a.id)] := heap_alloc_new w _
  have hown1 := own_below hown hbox
  have hb2 : Blk w2 b 73 #[.slice A es.length c, .map (some m)] := (hgr2.block b (by simp; omega) (fun e => blk_ne_map (w := w) hb h.map (by injection e))).trans hb1
  have hbx2 : Blk w2 w.heap.size 44 #[.int .i32 a.p, .string (B a.sc), .string (B a.id)] := (hgr2.block w.heap.size (by simp) (fun e => by injection e with e; have := h.map.lt; omega)).trans hbx
  have hown2 : w2.ownsRow base 44 3 (.slice A es.length c) es.length (flat es) := World.ownsRow.kept (w := (w.alloc (.cells #[.int .i32 a.p, .string (B a.sc), .string (B a.id)] 44)).drew.drew) hown1.drew.drew hgr2 (.inr (own_ne_map hown h.map))
  have hsz2 : w.heap.size < w2.heap.size := by have := hgr2.size; simp at this; omega
  obtain ⟨ti, hi, hz0, hz1, hz2⟩ := info_parts infoAcl
  obtain ⟨v', w3, hrun3, hown3, hgr3, _⟩ := run_append_own (P := Tryz.prog) ((w2.alloc (.cells #[.int .i32 a.p, .string (B a.sc), .string (B a.id)] 44)).drew) base 22 22 44 ti (.agg #[.int .i32 0, .string ByteArray.empty, .string ByteArray.empty]) 3 40 Tryz.underlying22 hi hz0 hz1 hz2 rfl (by decide)
    (.slice A es.length c) es.length (flat es) (hown2.alloc _).drew ⟨w2.heap.size, 0, none⟩ 1 1 [.int .i32 a.p, .string (B a.sc), .string (B a.id)] rfl
    (by intro j u hj; match j, hj with
          | 0, hj => simp at hj; subst hj; simp [Addr.add]
          | 1, hj => simp at hj; subst hj; simp [Addr.add]
          | 2, hj => simp at hj; subst hj; simp [Addr.add])
    (by intro u hu; simp at hu; rcases hu with rfl | rfl | rfl <;> rfl) (by unfold maxLen; omega) (by omega) (by simp; omega)
  obtain ⟨A', c', rfl⟩ := own_form hown3
  have hb3 : Blk w3 b 73 #[.slice A es.length c, .map (some m)] := (hgr3.block b (by have := hb2.lt; simp; omega) (own_other hown2 hb2 (by decide)).symm).trans (hb2.below ((Below.refl _ _).alloc (Nat.le_refl _) _).drew hb2.lt)
  have hmap4 : w3.ownsMap Tryz.prog 44 Re m (n + 1) (D.put kl (.lit (.int .i64 (es.length : Nat)))) := by
    have h1 : ((w2.alloc (.cells #[.int .i32 a.p, .string (B a.sc), .string (B a.id)] 44)).drew).ownsMap Tryz.prog 44 Re m (n + 1) (D.put kl (.lit (.int .i64 (es.length : Nat)))) := hmap3.kept (row := none) ⟨rfl, rfl, rfl, by simp, fun i hi _ => Below.heap_alloc w2 _ i hi⟩ (by simp)
    exact h1.kept hgr3 (own_ne_map hown2 hmap3).symm
  have hbelow : Below base w w3 := (((((Below.refl base w).alloc hbw _).drew).drew.grown hgr2 (by simp; omega) (fun k hk => by injection hk with hk; omega)).alloc (by omega) _).drew.grown hgr3 (by simp; omega) (own_base hown2)
  have hnb : b ≠ m := blk_ne_map hb h.map
  -- the facts that the walk reads
  have m1 : (w.alloc (.cells #[.int .i32 a.p, .string (B a.sc), .string (B a.id)] 44)).cell? ⟨b, 1, none⟩ = some (.map (some m)) := hb1.cell 1
  have m0 : (w.alloc (.cells #[.int .i32 a.p, .string (B a.sc), .string (B a.id)] 44)).cell? ⟨b, 0, none⟩ = some (.slice A es.length c) := hb1.cell 0
  have n0 : w2.cell? ⟨b, 0, none⟩ = some (.slice A es.length c) := hb2.cell 0
  have x0 : w2.cell? ⟨w.heap.size, 0, none⟩ = some (.int .i32 a.p) := hbx2.cell 0
  have x1 : w2.cell? ⟨w.heap.size, 1, none⟩ = some (.string (B a.sc)) := hbx2.cell 1
  have x2 : w2.cell? ⟨w.heap.size, 2, none⟩ = some (.string (B a.id)) := hbx2.cell 2
  have hbl2 : b < w2.heap.size := hb2.lt
  have o0 : w3.cell? ⟨b, 0, none⟩ = some (.slice A es.length c) := hb3.cell 0
  have of0 := hb3.free 0
  have K1 := Lib.hid hb3
  have K2 := Lib.hid hown3
  have K3 := Lib.hid hmap4
  have K4 := Lib.hid hbelow
  clear hre hhas hkey hb hown hmap h hmap2 hmap3 hgr2 hb1 hbx hown1 hb2 hbx2 hown2 hgr3 hb3 hown3 hmap4 hbelow hz0 hz1 hz2 hi hbox
  go_enter Tryz.func32, Tryz.ntmps32
  go_wp2
  go_region
  go_wp2
  go_region
  go_wp2
  go_region_law (refine step_append_eq rfl (.tmp 31) (.tmp 33) 22 rfl _ _ _ w3 rfl rfl hrun3 ?_)
  all_goals go_wp2
  all_goals go_end0
  all_goals exact ⟨rfl, K4.out.setCell (p := ⟨b, 0, none⟩) hbb _, ⟨⟨_, K1.out.put 0 _, by rw [List.length_append, flat_snoc]; exact own_put K2.out K1.out (by decide) _⟩, map_put K3.out hnb.symm _⟩⟩
end Go.Proofs.YtepmkkeaidacmaaGreatDoor
