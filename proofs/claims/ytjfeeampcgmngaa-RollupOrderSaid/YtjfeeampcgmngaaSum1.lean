/- rollup.sum: what its maps tell, step by step. -/
import Derived.Test.YtjfeeampcgmngaaPut3
import Derived.Test.YtjfeeampcgmngaaMark
namespace Go.Proofs.Ytjfeeampcgmngaa
open Go.RowKit Go.Shelf Go.Maps
open Go.ChangeMaps (setBlock)

/-- A look-up in a map of edges. -/
theorem InnerIs.value {w : World} {b : Nat} {es : List MapEntry} {g : Edge → Tal} (h : InnerIs w b es g) {e : Edge} (he : EdgeOk e) :
    ∃ ov, (∀ w', w'.heap[b]? = w.heap[b]? → (Instr.lookup 75 (.map (some b)) (.agg #[.string e.1, .string e.2]) false).run Try.prog w' = .ok ov w') ∧ TalAt w ov (g e).raw := by
  obtain ⟨l, hl⟩ := edge_key he
  by_cases h0 : g e = tzero
  · refine ⟨zeroTal, fun w' hw => ?_, by rw [h0]; exact zero_at w⟩
    have hm := h.map.same hw
    rcases hm.lookup false edgeKeyed Try.underlying75 (zeroTally w') hl with ⟨_, hrun⟩ | ⟨u, ⟨x, hx, hk, _⟩, hrun⟩
    · exact hrun
    · obtain ⟨e', _, a2, _, a4⟩ := h.tells x hx
      have : e' = e := edgeVal_inj (a2.symm.trans hk)
      subst this
      exact absurd h0 a4
  · obtain ⟨x, hx, hk⟩ := h.all e h0
    obtain ⟨e', _, a2, a3, a4⟩ := h.tells x hx
    have : e' = e := edgeVal_inj (a2.symm.trans hk)
    subst this
    refine ⟨x.val, fun w' hw => ?_, a3⟩
    have hm := h.map.same hw
    rcases hm.lookup false edgeKeyed Try.underlying75 (zeroTally w') hl with ⟨hlk, _⟩ | ⟨u, hu, hrun⟩
    · exact absurd hk (hlk x hx)
    · rw [Has.unique hm.apart ⟨x, hx, hk, rfl⟩ hu]
      exact hrun

theorem only_map {w : World} {b : Nat} {es : List MapEntry} (h : MapIs Try.prog 40 w b es) : AreMaps (· = b) w := fun q hq => by
  obtain ⟨arr, c, h1, _⟩ := h.block
  exact ⟨arr, c, by rw [hq]; exact h1⟩

/-- 'm[e] = t' where t is something. -/
theorem InnerIs.store {w : World} {b : Nat} {es : List MapEntry} {g : Edge → Tal} (h : InnerIs w b es g) {e : Edge} (he : EdgeOk e) {v : Value} {t : Tal} (hv : TalAt w v t.raw) (ht : t ≠ tzero) :
    ∃ o es', (Instr.mapUpdate 75 (.map (some b)) (.agg #[.string e.1, .string e.2]) v).run Try.prog w = .ok () (setBlock w b o) ∧ InnerIs (setBlock w b o) b es' (fun e' => if e' = e then t else g e') ∧ ∀ Q : Value → Prop, Q v → (∀ x ∈ es, Q x.val) → ∀ x ∈ es', Q x.val := by
  obtain ⟨l, hl⟩ := edge_key he
  obtain ⟨o, es', h1, h2, _, h4⟩ := h.map.update edgeKeyed Try.underlying75 (val := v) hl
  have hM : Mod (· = b) w (setBlock w b o) := Mod.setBlock (F := (· = b)) rfl o
  exact ⟨o, es', h1, h.put h2 h4 (hv.mod hM (only_map h.map)) ht he (fun v s hs => hs.mod hM (only_map h.map)), fun Q hq hes x hx => by
    rcases (h4 x.key x.val).1 ⟨x, hx, rfl, rfl⟩ with ⟨_, e1⟩ | ⟨_, y, hy, _, e1⟩
    · rw [e1]; exact hq
    · rw [← e1]; exact hes y hy⟩

/-- What a map has when some of another one's entries have been put to it. -/
def Part (g0 Mh : Edge → Tal) (left : List MapEntry) (g : Edge → Tal) : Prop :=
  ∀ e, ((∃ x ∈ left, x.key = edgeVal e) → g e = g0 e) ∧ ((∀ x ∈ left, x.key ≠ edgeVal e) → g e = tadd (g0 e) (Mh e))
theorem Part.start {w : World} {b : Nat} {es : List MapEntry} {Mh g0 : Edge → Tal} (h : InnerIs w b es Mh) (h0 : ∀ e, (g0 e).Ok) : Part g0 Mh es g0 := fun e =>
  ⟨fun _ => rfl, fun hn => by
    have : Mh e = tzero := Classical.byContradiction fun hz => by
      obtain ⟨x, hx, hk⟩ := h.all e hz
      exact hn x hx hk
    rw [this, tadd_tzero (h0 e)]⟩
theorem Part.step {g0 Mh g : Edge → Tal} {left left' : List MapEntry} {x : MapEntry} {e : Edge} (h : Part g0 Mh left g) (hp : left.Perm (x :: left')) (hk : x.key = edgeVal e) (ha : ∀ y ∈ left', y.key ≠ x.key) :
    Part g0 Mh left' (fun e' => if e' = e then tadd (g e) (Mh e) else g e') := fun e' => by
  have hin : ∀ y, y ∈ left ↔ y = x ∨ y ∈ left' := fun y => by rw [hp.mem_iff]; simp
  constructor
  · rintro ⟨y, hy, hyk⟩
    have hne : e' ≠ e := fun e0 => ha y hy (by rw [hyk, hk, e0])
    show (if e' = e then _ else g e') = _
    rw [if_neg hne]
    exact (h e').1 ⟨y, (hin y).2 (.inr hy), hyk⟩
  · intro hn
    show (if e' = e then _ else g e') = _
    by_cases h0 : e' = e
    · subst h0
      rw [if_pos rfl, (h e').1 ⟨x, (hin x).2 (.inl rfl), hk⟩]
    · rw [if_neg h0]
      refine (h e').2 fun y hy => ?_
      rcases (hin y).1 hy with rfl | hy
      · rw [hk]
        exact fun e1 => h0 (edgeVal_inj e1).symm
      · exact hn y hy
theorem Part.done {g0 Mh g : Edge → Tal} (h : Part g0 Mh [] g) (e : Edge) : g e = tadd (g0 e) (Mh e) := (h e).2 (by simp)

/-- The hour that a key is. -/
def keyNat : Value → Nat
  | .int _ i => i.toNat
  | _ => 0
theorem keyNat_hour (h : Nat) : keyNat (hourVal h) = h := by simp [keyNat, hourVal]
def contr (M : Cont) (lo n : Nat) (e : Edge) (x : MapEntry) : Tal := if lo ≤ keyNat x.key ∧ keyNat x.key < lo + n then M (keyNat x.key) e else tzero
/-- What a map has when some hours have been put to it. -/
def Whole (M : Cont) (lo n : Nat) (left : List MapEntry) (g : Edge → Tal) : Prop := ∀ e, tadd (g e) (tsum (left.map (contr M lo n e))) = hsum M e lo n
theorem Whole.start {F : Nat → Prop} {w : World} {r m fan : Nat} {es : List MapEntry} {M : Cont} (h : RollAt w r m fan es M F) (lo n : Nat) : Whole M lo n es (fun _ => tzero) := fun e => by
  have hk : ∀ x ∈ es, ∃ hr, x.key = hourVal hr := fun x hx => by
    obtain ⟨hr, _, _, _, h1, _⟩ := h.inner x hx
    exact ⟨hr, h1⟩
  have := hsum_list M e (es.map fun x => keyNat x.key) ?_ (fun hr => h.ok hr e) ?_ n lo
  · rw [← this, tzero_tadd (tsum_ok _), List.map_map]
    rfl
  · refine List.pairwise_map.2 (h.map.apart.imp_of_mem fun {a b} ha hb hab e0 => hab ?_)
    obtain ⟨h1, e1⟩ := hk a ha
    obtain ⟨h2, e2⟩ := hk b hb
    rw [e1, e2, keyNat_hour, keyNat_hour] at e0
    rw [e1, e2, e0]
  · intro hr hz
    obtain ⟨_, _, x, hx, h1⟩ := h.all hr e hz
    exact List.mem_map.2 ⟨x, hx, by rw [h1, keyNat_hour]⟩
theorem Whole.skip {M : Cont} {lo n hr : Nat} {left left' : List MapEntry} {g : Edge → Tal} {x : MapEntry} (h : Whole M lo n left g) (hp : left.Perm (x :: left')) (hk : x.key = hourVal hr) (hn : ¬ (lo ≤ hr ∧ hr < lo + n)) : Whole M lo n left' g := fun e => by
  rw [← h e, tsum_perm (hp.map _), List.map_cons]
  have : contr M lo n e x = tzero := by unfold contr; rw [hk, keyNat_hour, if_neg hn]
  show _ = tadd (g e) (tadd _ _)
  rw [this, tzero_tadd (tsum_ok _)]
theorem Whole.step {M : Cont} {lo n hr : Nat} {left left' : List MapEntry} {g g' : Edge → Tal} {x : MapEntry} (h : Whole M lo n left g) (hp : left.Perm (x :: left')) (hk : x.key = hourVal hr) (hn : lo ≤ hr ∧ hr < lo + n) (hg : ∀ e, g' e = tadd (g e) (M hr e)) : Whole M lo n left' g' := fun e => by
  rw [← h e, tsum_perm (hp.map _), List.map_cons]
  have : contr M lo n e x = M hr e := by unfold contr; rw [hk, keyNat_hour, if_pos hn]
  show _ = tadd (g e) (tadd _ _)
  rw [this, hg, tadd_assoc]
theorem Whole.done {M : Cont} {lo n : Nat} {g : Edge → Tal} (h : Whole M lo n [] g) (hg : ∀ e, (g e).Ok) (e : Edge) : g e = hsum M e lo n := by
  rw [← h e]
  exact (tadd_tzero (hg e)).symm
theorem IterIs.apart {w : World} {k : TypeId} {r b : Nat} {es left : List MapEntry} (h : IterIs w r b es left) (hm : MapIs Try.prog k w b es) : left.Pairwise fun x y => x.key ≠ y.key := by
  obtain ⟨since, c0, seen, arr, clock, h1, h2, rfl, h4, h5, h6, rfl⟩ := h.ex
  refine hm.apart.sublist ?_
  unfold leftOf
  rw [Array.toList_filter]
  exact List.filter_sublist
theorem apart_head {left left' : List MapEntry} {x : MapEntry} (h : left.Pairwise fun x y => x.key ≠ y.key) (hp : left.Perm (x :: left')) : ∀ y ∈ left', y.key ≠ x.key := fun y hy =>
  Ne.symm ((List.pairwise_cons.1 ((hp.pairwise_iff (fun {a b} hab => Ne.symm hab)).1 h)).1 y hy)
/-- How many entries an iterator has still to come to. -/
def iterLeft (w : World) (r : Nat) : Nat := match w.heap[r]? with
  | some (.mapIter (some b) _ seen _) => match w.heap[b]? with
    | some (.map arr _) => (leftOf arr seen).toList.length
    | _ => 0
  | _ => 0
theorem IterIs.count {w : World} {r b : Nat} {es left : List MapEntry} (h : IterIs w r b es left) : iterLeft w r = left.length := by
  obtain ⟨since, c0, seen, arr, clock, h1, h2, rfl, h4, h5, h6, rfl⟩ := h.ex
  unfold iterLeft
  simp only [h1, h2]
theorem IterIs.lt {w : World} {r b : Nat} {es left : List MapEntry} (h : IterIs w r b es left) : r < w.heap.size := by
  obtain ⟨since, c0, seen, arr, clock, h1, _⟩ := h.ex
  exact (Array.getElem?_eq_some_iff.1 h1).1
/-- Blocks that are no rows of cells. -/
def NoCells (F : Nat → Prop) (w : World) : Prop := ∀ b, F b → ∀ c t f, w.heap[b]? ≠ some (.cells c t f)
theorem AreMaps.noCells {F : Nat → Prop} {w : World} (h : AreMaps F w) : NoCells F w := fun b hb c t f => by
  obtain ⟨arr, k, h1⟩ := h b hb
  rw [h1]
  simp
theorem IterIs.noCells {w : World} {r b : Nat} {es left : List MapEntry} (h : IterIs w r b es left) : NoCells (· = r) w := fun q hq c t f => by
  obtain ⟨since, c0, seen, arr, clock, h1, _⟩ := h.ex
  rw [hq, h1]
  simp
theorem Mod.cellN {F : Nat → Prop} {w w' : World} (h : Mod F w w') (hF : NoCells F w) {b o : Nat} {v : Value} (hc : w.cell? ⟨b, o, none⟩ = some v) : w'.cell? ⟨b, o, none⟩ = some v := by
  cases hb : w.heap[b]? with
  | none => simp [World.cell?, hb] at hc
  | some ob =>
    cases ob with
    | cells c t f =>
      have := (h.block b (Array.getElem?_eq_some_iff.1 hb).1 (fun hf => hF b hf c t f hb)).trans hb
      simp only [World.cell?, hb] at hc
      simp only [World.cell?, this]
      exact hc
    | _ => simp [World.cell?, hb] at hc
theorem TalAt.modN {F : Nat → Prop} {w w' : World} {v : Value} {t : RTal} (h : TalAt w v t) (hm : Mod F w w') (hF : NoCells F w) : TalAt w' v t := by
  obtain ⟨A, n, c, rfl, h1, h2⟩ := h
  exact ⟨A, n, c, rfl, ⟨h1.1, fun hn => by
    obtain ⟨b, off, rfl, hc⟩ := h1.2 hn
    exact ⟨b, off, rfl, fun i j c hi => ⟨hm.cellN hF (hc i j c hi).1, hm.cellN hF (hc i j c hi).2⟩⟩⟩, h2⟩
theorem InnerIs.modN {F : Nat → Prop} {w w' : World} {b : Nat} {es : List MapEntry} {g : Edge → Tal} (h : InnerIs w b es g) (hm : Mod F w w') (hF : NoCells F w) (hb : ¬ F b) : InnerIs w' b es g :=
  ⟨h.map.same (hm.block b h.map.lt hb), fun x hx => by
    obtain ⟨e, h1, h2, h3, h4⟩ := h.tells x hx
    exact ⟨e, h1, h2, h3.modN hm hF, h4⟩, h.all⟩
/-- What a step of an iterator turns. -/
theorem next_mod {w w' : World} {r : Nat} (h : w'.os = w.os ∧ w'.tape = w.tape ∧ w'.output = w.output ∧ w'.heap.size = w.heap.size ∧ ∀ i, i ≠ r → w'.heap[i]? = w.heap[i]?) : Mod (· = r) w w' :=
  ⟨h.1, h.2.1, h.2.2.1, by rw [h.2.2.2.1]; exact Nat.le_refl _, fun i _ hi => h.2.2.2.2 i hi⟩
theorem Mod.toBelow {F : Nat → Prop} {a w w' : World} (h : Below a.heap.size a w) (hm : Mod F w w') (hF : ∀ q, F q → a.heap.size ≤ q) : Below a.heap.size a w' :=
  ⟨hm.os.trans h.os, hm.tape.trans h.tape, hm.output.trans h.output, Nat.le_trans h.size hm.size, fun i hi => (hm.block i (Nat.lt_of_lt_of_le hi h.size) (fun hf => absurd (hF i hf) (by omega))).trans (h.block i hi)⟩
theorem InnerIs.below {w w' : World} {b : Nat} {es : List MapEntry} {g : Edge → Tal} (h : InnerIs w b es g) (hb : Below w.heap.size w w') : InnerIs w' b es g :=
  h.mod (F := fun _ => False) (Mod.of_below hb) (fun _ h => h.elim) (fun h => h)
theorem InnerIs.blk {w : World} {b : Nat} {es : List MapEntry} {g : Edge → Tal} (h : InnerIs w b es g) : b < w.heap.size := h.map.lt
theorem InnerIs.made (w : World) : InnerIs (w.alloc (.map #[] 0)) w.heap.size [] fun _ => tzero := ⟨MapIs.made w, fun x hx => absurd hx (by simp), fun e he => absurd rfl he⟩
theorem IterIs.kept {w w' : World} {r b : Nat} {es left : List MapEntry} (h : IterIs w r b es left) (hb : Below w.heap.size w w') (hlt : b < w.heap.size) : IterIs w' r b es left := h.same (hb.block _ h.lt) (hb.block _ hlt)
end Go.Proofs.Ytjfeeampcgmngaa
