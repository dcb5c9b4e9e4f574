/- Small words for worlds: what lies below stays; kept by name. -/
import Derived.Test.YtjfeeampcgmngaaChecked
import Derived.WalkKit
import Derived.WalkSpells
import Derived.WalkSmall
import Derived.StillTactics
import Derived.Laws.Pointers
import Derived.Laws.ResultCell
import Derived.Laws.NewBlocks
import Derived.Laws.Rows
import Derived.Deep.RegionHeld3
import Derived.Deep.QuietTactic
import Derived.Deep.DeepFit
import Derived.Deep.Draws
import Derived.BigQuiet
import Derived.RowKit3
import Derived.Below
import Derived.Handy
import Derived.OwnWalk
import Derived.Lib.Hide
namespace Go.Proofs.Ytjfeeampcgmngaa
open Go.RowKit

theorem bal {a w : World} (h : Below a.heap.size a w) (o : Obj) : Below a.heap.size a (w.alloc o) := h.alloc h.size o
theorem bdrew {a w : World} (h : Below a.heap.size a w) : Below a.heap.size a w.drew := h.drew
theorem bset {a w : World} (h : Below a.heap.size a w) {p : Addr} (hp : a.heap.size ≤ p.block) (u : Value) : Below a.heap.size a (w.setCell p u) := h.setCell hp u
theorem btrans {a b c : World} (h : Below a.heap.size a b) (k : Below b.heap.size b c) : Below a.heap.size a c := h.trans (k.mono h.size)
theorem brefl (a : World) : Below a.heap.size a a := Below.refl _ _
/-- All old cells and marks read as before: laid as rewriting rules for a walk. -/
theorem bcell {W w1 : World} (hb : Below W.heap.size W w1) : (∀ b o, b < W.heap.size → w1.cell? ⟨b, o, none⟩ = W.cell? ⟨b, o, none⟩) ∧ (∀ b o, b < W.heap.size → w1.frozen? ⟨b, o, none⟩ = W.frozen? ⟨b, o, none⟩) :=
  ⟨fun b o h => hb.cell (p := ⟨b, o, none⟩) h, fun b o h => hb.frozen (p := ⟨b, o, none⟩) h⟩
theorem cell_lt {w : World} {b o : Nat} {v : Value} (h : w.cell? ⟨b, o, none⟩ = some v) : b < w.heap.size := by
  rcases Nat.lt_or_ge b w.heap.size with hlt | hge
  · exact hlt
  · simp [World.cell?, Array.getElem?_eq_none hge] at h
theorem bcell1 {W w1 : World} (hb : Below W.heap.size W w1) {b o : Nat} {v : Value} (h : W.cell? ⟨b, o, none⟩ = some v) : w1.cell? ⟨b, o, none⟩ = some v := (hb.cell (p := ⟨b, o, none⟩) (cell_lt h)).trans h
theorem own_ge {w : World} {base : Nat} {e : TypeId} {size n : Nat} {v : Value} {xs : List Value} (h : w.ownsRow base e size v n xs) {g : Nat} (hg : v.ownBlock = some g) : base ≤ g := by
  rcases h.2 with ⟨rfl, _⟩ | ⟨g', cap, cur, rfl, hb, _⟩
  · simp [Value.ownBlock] at hg
  · simp [Value.ownBlock] at hg
    omega
theorem bgrown {a w w' : World} {e : TypeId} {size n : Nat} {v : Value} {xs : List Value} (h : Below a.heap.size a w) (hg : w.grownBy w' v.ownBlock) (hown : w.ownsRow a.heap.size e size v n xs) : Below a.heap.size a w' :=
  h.grown hg h.size fun k hk => own_ge hown hk
/-- The two cells of a block that was just made. -/
theorem cells_new (w : World) (xs : List Value) (t : TypeId) : ∀ (j : Nat) (u : Value), xs[j]? = some u → (w.alloc (.cells xs.toArray t)).cell? (Addr.add ⟨w.heap.size, 0, none⟩ j) = some u := by
  intro j u h
  have e : (Addr.add ⟨w.heap.size, 0, none⟩ j) = ⟨w.heap.size, j, none⟩ := by
    unfold Addr.add
    split
    · rename_i h0; rw [h0]
    · simp
  rw [e]
  simp only [World.cell?, (MapKept.heap_alloc w (.cells xs.toArray t)).1]
  simpa using h
theorem bfroz1 {W w1 : World} (hb : Below W.heap.size W w1) {b o : Nat} {v : Value} (h : W.cell? ⟨b, o, none⟩ = some v) (hf : W.frozen? ⟨b, o, none⟩ = false) : w1.frozen? ⟨b, o, none⟩ = false := (hb.frozen (p := ⟨b, o, none⟩) (cell_lt h)).trans hf
/-- A block of cells, known whole. -/
def Blk (w : World) (g : Nat) (t : TypeId) (cs : List Value) : Prop := w.heap[g]? = some (.cells cs.toArray t (0, 0))
theorem Blk.lt {w : World} {g : Nat} {t : TypeId} {cs : List Value} (h : Blk w g t cs) : g < w.heap.size := (Array.getElem?_eq_some_iff.1 h).1
theorem Blk.cell {w : World} {g : Nat} {t : TypeId} {cs : List Value} (h : Blk w g t cs) (i : Nat) {v : Value} (hv : cs[i]? = some v) : w.cell? ⟨g, i, none⟩ = some v := by
  unfold Blk at h
  simp [World.cell?, h, hv]
theorem Blk.frozen {w : World} {g : Nat} {t : TypeId} {cs : List Value} (h : Blk w g t cs) (i : Nat) : w.frozen? ⟨g, i, none⟩ = false := by
  unfold Blk at h
  simp [World.frozen?, h]
theorem Blk.same {w w' : World} {g : Nat} {t : TypeId} {cs : List Value} (h : Blk w g t cs) (hs : w'.heap[g]? = w.heap[g]?) : Blk w' g t cs := hs.trans h
theorem Blk.below {w w' : World} {g : Nat} {t : TypeId} {cs : List Value} (h : Blk w g t cs) (hb : Below w.heap.size w w') : Blk w' g t cs := h.same (hb.block g h.lt)
theorem Blk.new (w : World) (t : TypeId) (cs : List Value) : Blk (w.alloc (.cells cs.toArray t)) w.heap.size t cs := (MapKept.heap_alloc w _).1
theorem Blk.new_ (w : World) (t : TypeId) (cs : List Value) {g : Nat} (h : g = w.heap.size) : Blk (w.alloc (.cells cs.toArray t)) g t cs := h ▸ Blk.new w t cs
theorem Blk.alloc {w : World} {g : Nat} {t : TypeId} {cs : List Value} (h : Blk w g t cs) (o : Obj) : Blk (w.alloc o) g t cs := h.same (Below.heap_alloc w o g h.lt)
theorem Blk.set {w : World} {g : Nat} {t : TypeId} {cs : List Value} (h : Blk w g t cs) (i : Nat) (u : Value) : Blk (w.setCell ⟨g, i, none⟩ u) g t (cs.set i u) := by
  unfold Blk at h ⊢
  simp [World.setCell, Array.getElem?_modify, h]
theorem Blk.far {w : World} {g : Nat} {t : TypeId} {cs : List Value} (h : Blk w g t cs) {p : Addr} (hp : g ≠ p.block) (u : Value) : Blk (w.setCell p u) g t cs := h.same (Below.heap_setCell w p u g hp)
/-- Of what lay in w nothing has turned but block g, which is still a row of n cells of type t. -/
structure But (w : World) (g : Nat) (t : TypeId) (n : Nat) (w' : World) : Prop where
  os : w'.os = w.os
  tape : w'.tape = w.tape
  output : w'.output = w.output
  size : w.heap.size ≤ w'.heap.size
  block : ∀ k, k < w.heap.size → k ≠ g → w'.heap[k]? = w.heap[k]?
  row : ∃ cs : Array Value, w'.heap[g]? = some (.cells cs t (0, 0)) ∧ cs.size = n
/-- What a cell holds. -/
def held (w : World) (g i : Nat) : Value := (w.cell? ⟨g, i, none⟩).getD undef
theorem But.start {w : World} {g : Nat} {t : TypeId} {cs : List Value} (h : Blk w g t cs) : But w g t cs.length w := ⟨rfl, rfl, rfl, Nat.le_refl _, fun _ _ _ => rfl, cs.toArray, h, by simp⟩
theorem But.drew {w w' : World} {g n : Nat} {t : TypeId} (h : But w g t n w') : But w g t n w'.drew := ⟨h.os, h.tape, h.output, h.size, h.block, h.row⟩
theorem But.below {w w' w'' : World} {g n : Nat} {t : TypeId} (h : But w g t n w') (hb : Below w'.heap.size w' w'') : But w g t n w'' :=
  ⟨hb.os.trans h.os, hb.tape.trans h.tape, hb.output.trans h.output, Nat.le_trans h.size hb.size, fun k hk hne => (hb.block k (Nat.lt_of_lt_of_le hk h.size)).trans (h.block k hk hne), by
    obtain ⟨cs, h1, h2⟩ := h.row
    exact ⟨cs, (hb.block g (Array.getElem?_eq_some_iff.1 h1).1).trans h1, h2⟩⟩
theorem But.alloc {w w' : World} {g n : Nat} {t : TypeId} (h : But w g t n w') (o : Obj) : But w g t n (w'.alloc o) := h.below (bal (brefl _) o)
theorem But.set {w w' : World} {g n : Nat} {t : TypeId} (h : But w g t n w') (i : Nat) (u : Value) : But w g t n (w'.setCell ⟨g, i, none⟩ u) :=
  ⟨h.os, h.tape, h.output, by have := h.size; simpa [World.setCell] using this, fun k hk hne => (Below.heap_setCell _ _ _ _ (by simpa using hne)).trans (h.block k hk hne), by
    obtain ⟨cs, h1, h2⟩ := h.row
    exact ⟨cs.setIfInBounds i u, by simp [World.setCell, Array.getElem?_modify, h1], by simpa using h2⟩⟩
theorem But.cell {w w' : World} {g n : Nat} {t : TypeId} (h : But w g t n w') {b o : Nat} {v : Value} (hne : b ≠ g) (hc : w.cell? ⟨b, o, none⟩ = some v) : w'.cell? ⟨b, o, none⟩ = some v := (World.cell?_of_block (w := w) (h.block b (cell_lt hc) hne)).trans hc
theorem But.there {w w' : World} {g n : Nat} {t : TypeId} (h : But w g t n w') {i : Nat} (hi : i < n) : w'.cell? ⟨g, i, none⟩ = some (held w' g i) := by
  obtain ⟨cs, h1, h2⟩ := h.row
  have e : w'.cell? ⟨g, i, none⟩ = some (cs[i]'(by omega)) := by simp [World.cell?, h1, Array.getElem?_eq_getElem (show i < cs.size by omega)]
  unfold held
  rw [e]
  rfl
theorem But.frozen {w w' : World} {g n : Nat} {t : TypeId} (h : But w g t n w') (i : Nat) : w'.frozen? ⟨g, i, none⟩ = false := by
  obtain ⟨cs, h1, _⟩ := h.row
  simp [World.frozen?, h1]
theorem But.toBelow {a w w' : World} {g n : Nat} {t : TypeId} (h : But w g t n w') (hb : Below a.heap.size a w) (hg : a.heap.size ≤ g) : Below a.heap.size a w' :=
  ⟨h.os.trans hb.os, h.tape.trans hb.tape, h.output.trans hb.output, Nat.le_trans hb.size h.size, fun k hk => (h.block k (Nat.lt_of_lt_of_le hk hb.size) (by omega)).trans (hb.block k hk)⟩
end Go.Proofs.Ytjfeeampcgmngaa
