/- A rollup in memory: what it has, hour by hour and edge by edge. -/
import Derived.Test.YtjfeeampcgmngaaPut
import Derived.Test.YtjfeeampcgmngaaMap
import Derived.Test.YtjfeeampcgmngaaWin
import Derived.DeepKeys4
import Derived.WideKeyArgs2
import Derived.StringKeys
import Derived.ProofKit
namespace Go.Proofs.Ytjfeeampcgmngaa
open Go.RowKit Go.Shelf Go.Maps
open Go.ChangeMaps (setBlock)

/-! ### keys -/
theorem laidOutP : laidOutB Try.prog = true := by kernel_rfl
theorem edgeLaw : WideMaps.KeyLaw Try.prog 40 := deep_law_laid laidOutP (m := 2) (by omega) (of_decide_eq_true (by kernel_rfl)) (by kernel_rfl) (by kernel_rfl)
theorem edgeKeyed : Keyed Try.prog 40 := Keyed.of_law edgeLaw
theorem hourKeyed : Keyed Try.prog 2 := int_keyed Try.underlying2

def edgeVal (e : Edge) : Value := .agg #[.string e.1, .string e.2]
def EdgeOk (e : Edge) : Prop := e.1.size ≤ maxLen ∧ e.2.size ≤ maxLen
def hourVal (h : Nat) : Value := .int .i64 h
theorem edgeVal_inj {a b : Edge} (h : edgeVal a = edgeVal b) : a = b := by
  unfold edgeVal at h
  simp at h
  exact Prod.ext h.1 h.2
theorem hourVal_inj {a b : Nat} (h : hourVal a = hourVal b) : a = b := by
  unfold hourVal at h
  simp at h
  omega
theorem edge_key {e : Edge} (h : EdgeOk e) : ∃ l, keyOf Try.prog 40 (edgeVal e) = some l := by
  obtain ⟨h1, h2⟩ := h
  have ht : Try.prog.keyType 40 = true := by kernel_rfl
  have hs : Try.prog.cellsOf 40 = 2 := by kernel_rfl
  have hss : Try.prog.cellsOf 9 = 1 := by kernel_rfl
  have hf : (edgeVal e).formed Try.prog 40 = true := by simp [edgeVal, Value.formed, Try.underlying40, hs]
  have hl : ∃ n, Try.prog.types.size + 1 = n + 1 + 1 := ⟨Try.prog.types.size - 1, by
    have : (1 : Nat) < Try.prog.types.size := of_decide_eq_true (by kernel_rfl)
    omega⟩
  obtain ⟨n, hn⟩ := hl
  unfold keyOf
  simp only [Try.underlying40, ht, hf, hn, Bool.and_self, if_true]
  simp [edgeVal, Value.cells, Program.keyLits, Try.underlying40, Try.underlying9, hs, hss, h1, h2]
theorem hour_key (h : Nat) (hh : h < limit) : ∃ l, keyOf Try.prog 2 (hourVal h) = some l := ⟨_, keyOf_int_mk Try.underlying2 (WalkArith.wf_i64 (by unfold limit at hh; omega))⟩

/-! ### what lies in memory -/
/-- Block b is a map that has g, edge by edge. -/
structure InnerIs (w : World) (b : Nat) (es : List MapEntry) (g : Edge → Tal) : Prop where
  map : MapIs Try.prog 40 w b es
  tells : ∀ x ∈ es, ∃ e, EdgeOk e ∧ x.key = edgeVal e ∧ TalAt w x.val (g e).raw ∧ g e ≠ tzero
  all : ∀ e, g e ≠ tzero → ∃ x ∈ es, x.key = edgeVal e

/-- Only blocks of F have turned, of those that lay there. -/
structure Mod (F : Nat → Prop) (w w' : World) : Prop where
  os : w'.os = w.os
  tape : w'.tape = w.tape
  output : w'.output = w.output
  size : w.heap.size ≤ w'.heap.size
  block : ∀ b, b < w.heap.size → ¬ F b → w'.heap[b]? = w.heap[b]?
def AreMaps (F : Nat → Prop) (w : World) : Prop := ∀ b, F b → ∃ arr c, w.heap[b]? = some (.map arr c)

theorem Mod.of_below {F : Nat → Prop} {w w' : World} (h : Below w.heap.size w w') : Mod F w w' := ⟨h.os, h.tape, h.output, h.size, fun b hb _ => h.block b hb⟩
theorem Mod.refl (F : Nat → Prop) (w : World) : Mod F w w := ⟨rfl, rfl, rfl, Nat.le_refl _, fun _ _ _ => rfl⟩
theorem Mod.trans {F : Nat → Prop} {a b c : World} (h : Mod F a b) (k : Mod F b c) : Mod F a c :=
  ⟨k.os.trans h.os, k.tape.trans h.tape, k.output.trans h.output, Nat.le_trans h.size k.size, fun i hi hf => (k.block i (Nat.lt_of_lt_of_le hi h.size) hf).trans (h.block i hi hf)⟩
theorem Mod.mono {F G : Nat → Prop} {w w' : World} (h : Mod F w w') (hfg : ∀ b, b < w.heap.size → F b → G b) : Mod G w w' :=
  ⟨h.os, h.tape, h.output, h.size, fun b hb hg => h.block b hb fun hf => hg (hfg b hb hf)⟩
theorem Mod.setBlock {F : Nat → Prop} {w : World} {b : Nat} (hb : F b) (o : Obj) : Mod F w (setBlock w b o) :=
  ⟨rfl, rfl, rfl, by simp [ChangeMaps.setBlock], fun i _ hi => by
    have hne : b ≠ i := fun e => hi (by rw [← e]; exact hb)
    show (w.heap.setIfInBounds b o)[i]? = w.heap[i]?
    exact Array.getElem?_setIfInBounds_ne hne⟩
/-- Rows of cells stay where maps turn. -/
theorem Mod.cells {F : Nat → Prop} {w w' : World} (h : Mod F w w') (hF : AreMaps F w) {b : Nat} {c : Array Value} {t : TypeId} {f : Nat × Nat} (hb : w.heap[b]? = some (.cells c t f)) : w'.heap[b]? = some (.cells c t f) := by
  rw [h.block b (Array.getElem?_eq_some_iff.1 hb).1 (fun hf => by
    obtain ⟨arr, k, h2⟩ := hF b hf
    rw [hb] at h2
    cases h2), hb]
theorem Mod.cell {F : Nat → Prop} {w w' : World} (h : Mod F w w') (hF : AreMaps F w) {b o : Nat} {v : Value} (hc : w.cell? ⟨b, o, none⟩ = some v) : w'.cell? ⟨b, o, none⟩ = some v := by
  cases hb : w.heap[b]? with
  | none => simp [World.cell?, hb] at hc
  | some ob =>
    cases ob with
    | cells c t f =>
      have := h.cells hF hb
      simp only [World.cell?, hb] at hc
      simp only [World.cell?, this]
      exact hc
    | _ => simp [World.cell?, hb] at hc
theorem BarsAt.mod {F : Nat → Prop} {w w' : World} {A : Option Addr} {n : Nat} {l : List RBar} (h : BarsAt w A n l) (hm : Mod F w w') (hF : AreMaps F w) : BarsAt w' A n l :=
  ⟨h.1, fun hn => by
    obtain ⟨b, off, rfl, hc⟩ := h.2 hn
    exact ⟨b, off, rfl, fun i j c hi => ⟨hm.cell hF (hc i j c hi).1, hm.cell hF (hc i j c hi).2⟩⟩⟩
theorem TalAt.mod {F : Nat → Prop} {w w' : World} {v : Value} {t : RTal} (h : TalAt w v t) (hm : Mod F w w') (hF : AreMaps F w) : TalAt w' v t := by
  obtain ⟨A, n, c, rfl, h1, h2⟩ := h
  exact ⟨A, n, c, rfl, h1.mod hm hF, h2⟩
theorem InnerIs.mod {F : Nat → Prop} {w w' : World} {b : Nat} {es : List MapEntry} {g : Edge → Tal} (h : InnerIs w b es g) (hm : Mod F w w') (hF : AreMaps F w) (hb : ¬ F b) : InnerIs w' b es g :=
  ⟨h.map.same (hm.block b h.map.lt hb), fun x hx => by
    obtain ⟨e, h1, h2, h3, h4⟩ := h.tells x hx
    exact ⟨e, h1, h2, h3.mod hm hF, h4⟩, h.all⟩

/-- A rollup: its struct in block r, its map in block m; its maps are among F. -/
structure RollAt (w : World) (r m : Nat) (fan : Nat) (es : List MapEntry) (M : Cont) (F : Nat → Prop) : Prop where
  blk : Blk w r 69 [.int .i64 fan, .map (some m)]
  map : MapIs Try.prog 2 w m es
  inner : ∀ x ∈ es, ∃ h b es', h < limit ∧ x.key = hourVal h ∧ x.val = .map (some b) ∧ InnerIs w b es' (M h) ∧ es' ≠ [] ∧ b ≠ m ∧ F b
  all : ∀ h e, M h e ≠ tzero → h < limit ∧ EdgeOk e ∧ ∃ x ∈ es, x.key = hourVal h
  apart : ∀ x ∈ es, ∀ y ∈ es, x.val = y.val → x.key = y.key
  ok : ∀ h e, (M h e).Ok
  foot : F m
  maps : AreMaps F w

theorem RollAt.mod {F G : Nat → Prop} {w w' : World} {r m fan : Nat} {es : List MapEntry} {M : Cont} (h : RollAt w r m fan es M F) (hm : Mod G w w') (hG : AreMaps G w) (hd : ∀ b, F b → ¬ G b) : RollAt w' r m fan es M F where
  blk := hm.cells hG h.blk
  map := h.map.same (hm.block m h.map.lt (hd m h.foot))
  inner x hx := by
    obtain ⟨hh, b, es', h1, h2, h3, h4, h5, h6, h7⟩ := h.inner x hx
    exact ⟨hh, b, es', h1, h2, h3, h4.mod hm hG (hd b h7), h5, h6, h7⟩
  all := h.all
  apart := h.apart
  ok := h.ok
  foot := h.foot
  maps b hb := by
    obtain ⟨arr, c, h1⟩ := h.maps b hb
    exact ⟨arr, c, by rw [hm.block b (Array.getElem?_eq_some_iff.1 h1).1 (hd b hb), h1]⟩
theorem RollAt.below {F : Nat → Prop} {w w' : World} {r m fan : Nat} {es : List MapEntry} {M : Cont} (h : RollAt w r m fan es M F) (hb : Below w.heap.size w w') : RollAt w' r m fan es M F :=
  h.mod (G := fun _ => False) (Mod.of_below hb) (fun _ h => h.elim) (fun _ _ h => h)

def upd (M : Cont) (h : Nat) (e : Edge) (t : Tal) : Cont := fun h' e' => if h' = h ∧ e' = e then t else M h' e'

/-- What an hour has: no map, or one. -/
theorem RollAt.hour {F : Nat → Prop} {w : World} {r m fan : Nat} {es : List MapEntry} {M : Cont} (h : RollAt w r m fan es M F) (hr : Nat) :
    (Lacks es (hourVal hr) ∧ ∀ e, M hr e = tzero) ∨ ∃ b es', Has es (hourVal hr) (.map (some b)) ∧ InnerIs w b es' (M hr) ∧ es' ≠ [] ∧ b ≠ m ∧ F b := by
  by_cases hl : Lacks es (hourVal hr)
  · refine .inl ⟨hl, fun e => ?_⟩
    by_cases h0 : M hr e = tzero
    · exact h0
    · obtain ⟨_, _, x, hx, hk⟩ := h.all hr e h0
      exact absurd hk (hl x hx)
  · refine .inr ?_
    unfold Lacks at hl
    simp only [Classical.not_forall, Classical.not_not] at hl
    obtain ⟨x, hx, hk⟩ := hl
    obtain ⟨h', b, es', h1, h2, h3, h4, h5, h6, h7⟩ := h.inner x hx
    have : h' = hr := hourVal_inj (h2.symm.trans hk)
    subst this
    exact ⟨b, es', ⟨x, hx, hk, h3⟩, h4, h5, h6, h7⟩
end Go.Proofs.Ytjfeeampcgmngaa
