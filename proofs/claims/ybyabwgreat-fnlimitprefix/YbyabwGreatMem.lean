/- Memory: rows of cells as they are read; what a call leaves alone. Seat-independent. -/
import Derived.WalkKit
import Derived.Below
namespace Go.Proofs.YbyabwGreat
open Go.RowKit

theorem hide {p : Prop} (h : p) : Hid p := h
theorem unhide {p : Prop} (h : Hid p) : p := h

/-- The cells from address a on hold xs (nothing is asked of a where xs is empty). -/
def RowAt (w : World) (a : Option Addr) (xs : List Value) : Prop :=
  ∀ i v, xs[i]? = some v → ∃ b off, a = some ⟨b, off, none⟩ ∧ w.cell? ⟨b, off + i, none⟩ = some v

theorem cell_lt {w : World} {a : Addr} {v : Value} (h : w.cell? a = some v) : a.block < w.heap.size := World.block_lt_of_cell? w a h

/-- w' has all blocks of w as they were. -/
abbrev Ext (w w' : World) : Prop := Below w.heap.size w w'

theorem Ext.refl (w : World) : Ext w w := Below.refl _ _
theorem Ext.trans {a b c : World} (h : Ext a b) (k : Ext b c) : Ext a c := Below.trans h (k.mono h.size)
theorem Ext.drew {a b : World} (h : Ext a b) : Ext a b.drew := Below.drew h
theorem Ext.alloc {a b : World} (h : Ext a b) (o : Obj) : Ext a (b.alloc o) := Below.alloc h h.size o
theorem Ext.cell {w w' : World} (h : Ext w w') {a : Addr} {v : Value} (hc : w.cell? a = some v) : w'.cell? a = some v := by
  rw [Below.cell h (cell_lt hc)]; exact hc
theorem Ext.setCell {a b : World} (h : Ext a b) {p : Addr} (hp : a.heap.size ≤ p.block) (u : Value) : Ext a (b.setCell p u) := Below.setCell h hp u

theorem RowAt.ext {w w' : World} {a : Option Addr} {xs : List Value} (h : RowAt w a xs) (he : Ext w w') : RowAt w' a xs := by
  intro i v hv
  obtain ⟨b, off, e, hc⟩ := h i v hv
  exact ⟨b, off, e, he.cell hc⟩

theorem RowAt.nil (w : World) (a : Option Addr) : RowAt w a [] := by intro i v h; simp at h

/-- A slice of integers as it is read. -/
def IntsAt (w : World) (a : Option Addr) (xs : List Int) : Prop := ∀ i, i < xs.length → ∃ b off, a = some ⟨b, off, none⟩ ∧ w.cell? ⟨b, off + i, none⟩ = some (.int .i64 (xs.getD i 0))

theorem IntsAt.ext {w w' : World} {a : Option Addr} {xs : List Int} (h : IntsAt w a xs) (he : Ext w w') : IntsAt w' a xs := by
  intro i hi
  obtain ⟨b, off, e, hc⟩ := h i hi
  exact ⟨b, off, e, he.cell hc⟩

theorem IntsAt.nil (w : World) (a : Option Addr) : IntsAt w a [] := by intro i h; simp at h

/-- A slice of pairs of integers (Run, Token, Item). -/
def PairsAt (w : World) (a : Option Addr) (xs : List (Int × Int)) : Prop := ∀ i, i < xs.length → ∃ b off, a = some ⟨b, off, none⟩ ∧
  w.cell? ⟨b, off + i * 2, none⟩ = some (.int .i64 (xs.getD i (0, 0)).1) ∧ w.cell? ⟨b, off + i * 2 + 1, none⟩ = some (.int .i64 (xs.getD i (0, 0)).2)

theorem PairsAt.ext {w w' : World} {a : Option Addr} {xs : List (Int × Int)} (h : PairsAt w a xs) (he : Ext w w') : PairsAt w' a xs := by
  intro i hi
  obtain ⟨b, off, e, hc, hd⟩ := h i hi
  exact ⟨b, off, e, he.cell hc, he.cell hd⟩

theorem PairsAt.nil (w : World) (a : Option Addr) : PairsAt w a [] := by intro i h; simp at h

/-- At the slice's address. -/
theorem IntsAt.at {w : World} {b off : Nat} {xs : List Int} (h : IntsAt w (some ⟨b, off, none⟩) xs) (i : Nat) (hi : i < xs.length) : w.cell? ⟨b, off + i, none⟩ = some (.int .i64 (xs.getD i 0)) := by
  obtain ⟨b', off', e, hc⟩ := h i hi
  cases e
  exact hc

theorem PairsAt.at {w : World} {b off : Nat} {xs : List (Int × Int)} (h : PairsAt w (some ⟨b, off, none⟩) xs) (i : Nat) (hi : i < xs.length) :
    w.cell? ⟨b, off + i * 2, none⟩ = some (.int .i64 (xs.getD i (0, 0)).1) ∧ w.cell? ⟨b, off + i * 2 + 1, none⟩ = some (.int .i64 (xs.getD i (0, 0)).2) := by
  obtain ⟨b', off', e, hc⟩ := h i hi
  cases e
  exact hc

/-- Block b holds vs from its head on. -/
def Box (w : World) (b : Nat) (vs : List Value) : Prop := ∀ i v, vs[i]? = some v → w.cell? ⟨b, i, none⟩ = some v

theorem Box.ext {w w' : World} {b : Nat} {vs : List Value} (h : Box w b vs) (he : Ext w w') : Box w' b vs := fun i v hv => he.cell (h i v hv)
theorem Box.new (w : World) (cs : Array Value) (t : TypeId) : Box (w.alloc (.cells cs t)) w.heap.size cs.toList := by
  intro i v hv
  rw [cell_of_row (w.alloc (.cells cs t)) w.heap.size i cs t (0, 0) (heap_alloc_new w _)]
  simpa using hv
theorem Box.drew {w : World} {b : Nat} {vs : List Value} (h : Box w b vs) : Box w.drew b vs := h
theorem Box.alloc {w : World} {b : Nat} {vs : List Value} (h : Box w b vs) (o : Obj) : Box (w.alloc o) b vs := Box.ext h ((Ext.refl w).alloc o)

/-- A call that answers one bool, by p; old memory is left alone. -/
def RetBool (p : Prop) (w : World) : Ending → World → Prop := fun e w' => ∃ b, e = .returned (.bool b) ∧ (b = true ↔ p) ∧ Ext w w'

theorem RetBool.mk {p : Prop} {w w' : World} {b : Bool} (h : b = true ↔ p) (he : Ext w w') : RetBool p w (.returned (.bool b)) w' := ⟨b, rfl, h, he⟩
theorem RetBool.no {p : Prop} {w w' : World} (h : ¬ p) (he : Ext w w') : RetBool p w (.returned (.bool false)) w' := ⟨false, rfl, by simp [h], he⟩
theorem RetBool.yes {p : Prop} {w w' : World} (h : p) (he : Ext w w') : RetBool p w (.returned (.bool true)) w' := ⟨true, rfl, by simp [h], he⟩

end Go.Proofs.YbyabwGreat
