/- rollup's order of edges: it computes the order of edges, and lays blocks. -/
import Derived.Test.YtjfeeampcgmngaaCmp
import Derived.Test.YtjfeeampcgmngaaReg
import Derived.Sort.Grow
import Derived.Deep.Draws
namespace Go.Proofs.Ytjfeeampcgmngaa
open Go.RowKit

/-- Some draws, some new blocks; nothing else. -/
def Grew (w w' : World) : Prop := ∃ q os, w' = Sort.grow (w.drewN q) os
theorem Grew.refl (w : World) : Grew w w := ⟨0, #[], by simp [World.drewN]⟩
theorem Grew.alloc {w w' : World} (h : Grew w w') (o : Obj) : Grew w (w'.alloc o) := by
  obtain ⟨q, os, rfl⟩ := h
  exact ⟨q, os ++ #[o], by rw [Sort.alloc_eq_grow, Sort.grow_grow]⟩
theorem Grew.drew {w w' : World} (h : Grew w w') : Grew w w'.drew := by
  obtain ⟨q, os, rfl⟩ := h
  exact ⟨q + 1, os, rfl⟩
theorem Grew.trans {a b c : World} (h : Grew a b) (k : Grew b c) : Grew a c := by
  obtain ⟨q, os, rfl⟩ := h
  obtain ⟨q', os', rfl⟩ := k
  refine ⟨q + q', os ++ os', ?_⟩
  unfold Sort.grow World.drewN
  simp [Nat.add_assoc]
theorem Grew.below {w w' : World} (h : Grew w w') : Below w.heap.size w w' := by
  obtain ⟨q, os, rfl⟩ := h
  refine ⟨rfl, rfl, rfl, by simp [Sort.grow, World.drewN], fun k hk => ?_⟩
  show (w.heap ++ os)[k]? = w.heap[k]?
  rw [Array.getElem?_append, if_pos hk]

/-- An element of a list of edges, as it lies in memory. -/
structure ETV where
  e : Edge
  calls : Nat
  errors : Nat
  took : Nat
  A : Option Addr
  n : Nat
  c : Nat
instance : Inhabited ETV := ⟨⟨(ByteArray.empty, ByteArray.empty), 0, 0, 0, none, 0, 0⟩⟩
def ecmp (a b : Edge) : Int := if elt a b then -1 else if elt b a then 1 else 0
theorem ecmp_eq (a b : Edge) : firstNZ [scmp a.1 b.1, scmp a.2 b.2] = ecmp a b := by
  unfold ecmp scmp
  by_cases h1 : slt a.1 b.1 = true
  · have : elt a b := .inl h1
    rw [if_pos h1, if_pos this]
    rfl
  · have h1' : slt a.1 b.1 = false := by simpa using h1
    by_cases h2 : slt b.1 a.1 = true
    · have hn : ¬ elt a b := fun h => by
        rcases h with h | ⟨h, _⟩
        · exact h1 h
        · rw [h, slt_irrefl] at h2; cases h2
      have hb : elt b a := .inl h2
      rw [if_neg h1, if_pos h2, if_neg hn, if_pos hb]
      rfl
    · have h2' : slt b.1 a.1 = false := by simpa using h2
      have e := slt_total h1' h2'
      rw [if_neg h1, if_neg h2]
      by_cases h3 : slt a.2 b.2 = true
      · have : elt a b := .inr ⟨e, h3⟩
        rw [if_pos h3, if_pos this]
        rfl
      · have hn : ¬ elt a b := fun h => by
          rcases h with h | ⟨_, h⟩
          · exact h1 h
          · exact h3 h
        by_cases h4 : slt b.2 a.2 = true
        · have hb : elt b a := .inr ⟨e.symm, h4⟩
          rw [if_neg h3, if_pos h4, if_neg hn, if_pos hb]
          rfl
        · have hnb : ¬ elt b a := fun h => by
            rcases h with h | ⟨_, h⟩
            · exact h2 h
            · exact h4 h
          rw [if_neg h3, if_neg h4, if_neg hn, if_neg hnb]
          rfl
theorem two_cells {w : World} {g : Nat} {t : TypeId} {p q : Int} (h : Blk w g t [.int .i64 p, .int .i64 q]) : ∀ i z, ([p, q] : List Int)[i]? = some z → w.cell? ⟨g, i, none⟩ = some (.int .i64 z) := by
  intro i z hz
  match i, hz with
  | 0, hz => simp at hz; subst hz; exact h.cell 0 rfl
  | 1, hz => simp at hz; subst hz; exact h.cell 1 rfl
  | _ + 2, hz => simp at hz

def encE (x : ETV) (hi lo : Nat → Int) : List Value := [.string x.e.1, .string x.e.2, .int .u64 (hi x.calls), .int .u64 (lo x.calls), .int .u64 (hi x.errors), .int .u64 (lo x.errors), .int .u64 (hi x.took), .int .u64 (lo x.took), .slice x.A x.n x.c]

set_option maxRecDepth 100000 in
set_option maxHeartbeats 8000000 in
theorem order_any (hi_ lo_ : Nat → Int) (w : World) (x y : ETV) : Calls Try.prog 39 #[.agg (encE x hi_ lo_).toArray, .agg (encE y hi_ lo_).toArray] w fun e w' => e = .returned (.int .i64 (ecmp x.e y.e)) ∧ Grew w w' := by
  unfold encE
  generalize hi_ x.calls = x1, lo_ x.calls = x2, hi_ x.errors = x3, lo_ x.errors = x4, hi_ x.took = x5, lo_ x.took = x6, hi_ y.calls = y1, lo_ y.calls = y2, hi_ y.errors = y3, lo_ y.errors = y4, hi_ y.took = y5, lo_ y.took = y6
  obtain ⟨w1, hw1⟩ : ∃ w1, w1 = (w.alloc (Obj.cells #[.string x.e.1, .string x.e.2, .int .u64 x1, .int .u64 x2, .int .u64 x3, .int .u64 x4, .int .u64 x5, .int .u64 x6, .slice x.A x.n x.c] 62)).alloc (Obj.cells #[.string y.e.1, .string y.e.2, .int .u64 y1, .int .u64 y2, .int .u64 y3, .int .u64 y4, .int .u64 y5, .int .u64 y6, .slice y.A y.n y.c] 62) := ⟨_, rfl⟩
  have hg1 : Grew w w1 := by rw [hw1]; exact ((Grew.refl w).alloc _).alloc _
  have k1 : Blk w1 w.heap.size 62 [.string x.e.1, .string x.e.2, .int .u64 x1, .int .u64 x2, .int .u64 x3, .int .u64 x4, .int .u64 x5, .int .u64 x6, .slice x.A x.n x.c] := by rw [hw1]; exact (Blk.new _ _ _).alloc _
  have k2 : Blk w1 (w.heap.size + 1) 62 [.string y.e.1, .string y.e.2, .int .u64 y1, .int .u64 y2, .int .u64 y3, .int .u64 y4, .int .u64 y5, .int .u64 y6, .slice y.A y.n y.c] := by rw [hw1]; exact Blk.new_ _ _ _ (by simp)
  have p0 := k1.cell 0 rfl
  have p1 := k1.cell 1 rfl
  have q0 := k2.cell 0 rfl
  have q1 := k2.cell 1 rfl
  have HW1 := Lib.hid hw1
  clear hw1 k1 k2
  go_enter Try.func39, Try.ntmps39
  go_wp2_with fail
  rw [← HW1.out]
  refine wp_region_rel (by kernel_rfl) (by kernel_rfl) [some 5, some 6, some 7, some 8, some 9, some 10, some 11, some 12, some 13, some 14, some 15, some 16, some 17, some 18, some 19, some 20, some 4] (by kernel_rfl) (fun u j w' => match j with | 0 => u 0 = (.pointer (some ⟨w.heap.size, 0, none⟩)) | 1 => u 1 = (.pointer (some ⟨w.heap.size, 0, none⟩)) | 2 => u 2 = (.string x.e.1) | 3 => u 3 = (.pointer (some ⟨(w.heap.size + 1), 0, none⟩)) | 4 => u 4 = (.pointer (some ⟨(w.heap.size + 1), 0, none⟩)) | 5 => u 5 = (.string y.e.1) | 6 => u 6 = (.int .i64 (scmp x.e.1 y.e.1)) | 7 => u 7 = (.pointer (some ⟨w.heap.size, 0, none⟩)) | 8 => u 8 = (.pointer (some ⟨w.heap.size, 1, none⟩)) | 9 => u 9 = (.string x.e.2) | 10 => u 10 = (.pointer (some ⟨(w.heap.size + 1), 0, none⟩)) | 11 => u 11 = (.pointer (some ⟨(w.heap.size + 1), 1, none⟩)) | 12 => u 12 = (.string y.e.2) | 13 => u 13 = (.int .i64 (scmp x.e.2 y.e.2)) | 14 => ∃ g, u 14 = .slice (some ⟨g, 0, none⟩) 2 2 ∧ Blk w' g 3 [.int .i64 (scmp x.e.1 y.e.1), .int .i64 (scmp x.e.2 y.e.2)] | 15 => u 15 = (.int .i64 (ecmp x.e y.e)) | 16 => u 16 = (.int .i64 (ecmp x.e y.e)) | _ => True) (fun w' => Grew w1 w') ((Grew.refl w1).drew) ?step ?fin
  case step =>
    intro i hi u w' hu hinv
    rcases i with _ | _ | _ | _ | _ | _ | _ | _ | _ | _ | _ | _ | _ | _ | _ | _ | _ | i
    · -- 0
      clear hu
      refine wpOp_go rfl rfl fun K hK => ?_
      simp only [fillL, Act.put, List.setIfInBounds_toArray, List.set_cons_succ, List.set_cons_zero, Nat.zero_add, Nat.reduceAdd]
      go_wp2_with (fail)
      refine RelPost.mk (.pointer (some ⟨w.heap.size, 0, none⟩)) ?_ (rfl) (hinv) (fun j hj hne hn h => match j, hne, hn, h with | 0, hne, hn, h => (hne rfl).elim | 1, hne, hn, h => not_hangs (by kernel_rfl) hn | 2, hne, hn, h => not_hangs (by kernel_rfl) hn | 3, hne, hn, h => h | 4, hne, hn, h => h | 5, hne, hn, h => h | 6, hne, hn, h => not_hangs (by kernel_rfl) hn | 7, hne, hn, h => h | 8, hne, hn, h => h | 9, hne, hn, h => h | 10, hne, hn, h => h | 11, hne, hn, h => h | 12, hne, hn, h => h | 13, hne, hn, h => not_hangs (by kernel_rfl) hn | 14, hne, hn, h => not_hangs (by kernel_rfl) hn | 15, hne, hn, h => not_hangs (by kernel_rfl) hn | 16, hne, hn, h => not_hangs (by kernel_rfl) hn | _ + 17, hne, _, h => h)
      simp [fillL, Act.put, setAt]
    · -- 1
      have e0 : u 0 = (.pointer (some ⟨w.heap.size, 0, none⟩)) := hu 0 (by kernel_rfl)
      clear hu
      refine wpOp_go rfl rfl fun K hK => ?_
      simp only [fillL, Act.put, List.setIfInBounds_toArray, List.set_cons_succ, List.set_cons_zero, Nat.zero_add, Nat.reduceAdd]
      go_wp2_with (fail)
      refine RelPost.mk (.pointer (some ⟨w.heap.size, 0, none⟩)) ?_ (rfl) (hinv) (fun j hj hne hn h => match j, hne, hn, h with | 0, hne, hn, h => h | 1, hne, hn, h => (hne rfl).elim | 2, hne, hn, h => not_hangs (by kernel_rfl) hn | 3, hne, hn, h => h | 4, hne, hn, h => h | 5, hne, hn, h => h | 6, hne, hn, h => not_hangs (by kernel_rfl) hn | 7, hne, hn, h => h | 8, hne, hn, h => h | 9, hne, hn, h => h | 10, hne, hn, h => h | 11, hne, hn, h => h | 12, hne, hn, h => h | 13, hne, hn, h => not_hangs (by kernel_rfl) hn | 14, hne, hn, h => not_hangs (by kernel_rfl) hn | 15, hne, hn, h => not_hangs (by kernel_rfl) hn | 16, hne, hn, h => not_hangs (by kernel_rfl) hn | _ + 17, hne, _, h => h)
      simp [fillL, Act.put, setAt, e0]
    · -- 2
      have e0 : u 0 = (.pointer (some ⟨w.heap.size, 0, none⟩)) := hu 0 (by kernel_rfl)
      have e1 : u 1 = (.pointer (some ⟨w.heap.size, 0, none⟩)) := hu 1 (by kernel_rfl)
      clear hu
      have g1 := bcell1 hinv.below p0
      refine wpOp_go rfl rfl fun K hK => ?_
      simp only [fillL, Act.put, List.setIfInBounds_toArray, List.set_cons_succ, List.set_cons_zero, Nat.zero_add, Nat.reduceAdd]
      go_wp2_with (fail)
      refine RelPost.mk (.string x.e.1) ?_ (rfl) (hinv) (fun j hj hne hn h => match j, hne, hn, h with | 0, hne, hn, h => h | 1, hne, hn, h => h | 2, hne, hn, h => (hne rfl).elim | 3, hne, hn, h => h | 4, hne, hn, h => h | 5, hne, hn, h => h | 6, hne, hn, h => not_hangs (by kernel_rfl) hn | 7, hne, hn, h => h | 8, hne, hn, h => h | 9, hne, hn, h => h | 10, hne, hn, h => h | 11, hne, hn, h => h | 12, hne, hn, h => h | 13, hne, hn, h => not_hangs (by kernel_rfl) hn | 14, hne, hn, h => not_hangs (by kernel_rfl) hn | 15, hne, hn, h => not_hangs (by kernel_rfl) hn | 16, hne, hn, h => not_hangs (by kernel_rfl) hn | _ + 17, hne, _, h => h)
      simp [fillL, Act.put, setAt, e0, e1]
    · -- 3
      clear hu
      refine wpOp_go rfl rfl fun K hK => ?_
      simp only [fillL, Act.put, List.setIfInBounds_toArray, List.set_cons_succ, List.set_cons_zero, Nat.zero_add, Nat.reduceAdd]
      go_wp2_with (fail)
      refine RelPost.mk (.pointer (some ⟨(w.heap.size + 1), 0, none⟩)) ?_ (rfl) (hinv) (fun j hj hne hn h => match j, hne, hn, h with | 0, hne, hn, h => h | 1, hne, hn, h => h | 2, hne, hn, h => h | 3, hne, hn, h => (hne rfl).elim | 4, hne, hn, h => not_hangs (by kernel_rfl) hn | 5, hne, hn, h => not_hangs (by kernel_rfl) hn | 6, hne, hn, h => not_hangs (by kernel_rfl) hn | 7, hne, hn, h => h | 8, hne, hn, h => h | 9, hne, hn, h => h | 10, hne, hn, h => h | 11, hne, hn, h => h | 12, hne, hn, h => h | 13, hne, hn, h => not_hangs (by kernel_rfl) hn | 14, hne, hn, h => not_hangs (by kernel_rfl) hn | 15, hne, hn, h => not_hangs (by kernel_rfl) hn | 16, hne, hn, h => not_hangs (by kernel_rfl) hn | _ + 17, hne, _, h => h)
      simp [fillL, Act.put, setAt]
    · -- 4
      have e3 : u 3 = (.pointer (some ⟨(w.heap.size + 1), 0, none⟩)) := hu 3 (by kernel_rfl)
      clear hu
      refine wpOp_go rfl rfl fun K hK => ?_
      simp only [fillL, Act.put, List.setIfInBounds_toArray, List.set_cons_succ, List.set_cons_zero, Nat.zero_add, Nat.reduceAdd]
      go_wp2_with (fail)
      refine RelPost.mk (.pointer (some ⟨(w.heap.size + 1), 0, none⟩)) ?_ (rfl) (hinv) (fun j hj hne hn h => match j, hne, hn, h with | 0, hne, hn, h => h | 1, hne, hn, h => h | 2, hne, hn, h => h | 3, hne, hn, h => h | 4, hne, hn, h => (hne rfl).elim | 5, hne, hn, h => not_hangs (by kernel_rfl) hn | 6, hne, hn, h => not_hangs (by kernel_rfl) hn | 7, hne, hn, h => h | 8, hne, hn, h => h | 9, hne, hn, h => h | 10, hne, hn, h => h | 11, hne, hn, h => h | 12, hne, hn, h => h | 13, hne, hn, h => not_hangs (by kernel_rfl) hn | 14, hne, hn, h => not_hangs (by kernel_rfl) hn | 15, hne, hn, h => not_hangs (by kernel_rfl) hn | 16, hne, hn, h => not_hangs (by kernel_rfl) hn | _ + 17, hne, _, h => h)
      simp [fillL, Act.put, setAt, e3]
    · -- 5
      have e3 : u 3 = (.pointer (some ⟨(w.heap.size + 1), 0, none⟩)) := hu 3 (by kernel_rfl)
      have e4 : u 4 = (.pointer (some ⟨(w.heap.size + 1), 0, none⟩)) := hu 4 (by kernel_rfl)
      clear hu
      have g1 := bcell1 hinv.below q0
      refine wpOp_go rfl rfl fun K hK => ?_
      simp only [fillL, Act.put, List.setIfInBounds_toArray, List.set_cons_succ, List.set_cons_zero, Nat.zero_add, Nat.reduceAdd]
      go_wp2_with (fail)
      refine RelPost.mk (.string y.e.1) ?_ (rfl) (hinv) (fun j hj hne hn h => match j, hne, hn, h with | 0, hne, hn, h => h | 1, hne, hn, h => h | 2, hne, hn, h => h | 3, hne, hn, h => h | 4, hne, hn, h => h | 5, hne, hn, h => (hne rfl).elim | 6, hne, hn, h => not_hangs (by kernel_rfl) hn | 7, hne, hn, h => h | 8, hne, hn, h => h | 9, hne, hn, h => h | 10, hne, hn, h => h | 11, hne, hn, h => h | 12, hne, hn, h => h | 13, hne, hn, h => not_hangs (by kernel_rfl) hn | 14, hne, hn, h => not_hangs (by kernel_rfl) hn | 15, hne, hn, h => not_hangs (by kernel_rfl) hn | 16, hne, hn, h => not_hangs (by kernel_rfl) hn | _ + 17, hne, _, h => h)
      simp [fillL, Act.put, setAt, e3, e4]
    · -- 6
      have e0 : u 0 = (.pointer (some ⟨w.heap.size, 0, none⟩)) := hu 0 (by kernel_rfl)
      have e1 : u 1 = (.pointer (some ⟨w.heap.size, 0, none⟩)) := hu 1 (by kernel_rfl)
      have e2 : u 2 = (.string x.e.1) := hu 2 (by kernel_rfl)
      have e3 : u 3 = (.pointer (some ⟨(w.heap.size + 1), 0, none⟩)) := hu 3 (by kernel_rfl)
      have e4 : u 4 = (.pointer (some ⟨(w.heap.size + 1), 0, none⟩)) := hu 4 (by kernel_rfl)
      have e5 : u 5 = (.string y.e.1) := hu 5 (by kernel_rfl)
      clear hu
      refine wpOp_go rfl rfl fun K hK => ?_
      simp only [fillL, Act.put, List.setIfInBounds_toArray, List.set_cons_succ, List.set_cons_zero, Nat.zero_add, Nat.reduceAdd]
      go_wp2_with (go_at_call 62; refine (compare_str _ _ _).mono ?_; rintro en w'' ⟨rfl, rfl⟩)
      refine RelPost.mk (.int .i64 (scmp x.e.1 y.e.1)) ?_ (rfl) (hinv) (fun j hj hne hn h => match j, hne, hn, h with | 0, hne, hn, h => h | 1, hne, hn, h => h | 2, hne, hn, h => h | 3, hne, hn, h => h | 4, hne, hn, h => h | 5, hne, hn, h => h | 6, hne, hn, h => (hne rfl).elim | 7, hne, hn, h => h | 8, hne, hn, h => h | 9, hne, hn, h => h | 10, hne, hn, h => h | 11, hne, hn, h => h | 12, hne, hn, h => h | 13, hne, hn, h => not_hangs (by kernel_rfl) hn | 14, hne, hn, h => not_hangs (by kernel_rfl) hn | 15, hne, hn, h => not_hangs (by kernel_rfl) hn | 16, hne, hn, h => not_hangs (by kernel_rfl) hn | _ + 17, hne, _, h => h)
      simp [fillL, Act.put, setAt, e0, e1, e2, e3, e4, e5]
    · -- 7
      clear hu
      refine wpOp_go rfl rfl fun K hK => ?_
      simp only [fillL, Act.put, List.setIfInBounds_toArray, List.set_cons_succ, List.set_cons_zero, Nat.zero_add, Nat.reduceAdd]
      go_wp2_with (fail)
      refine RelPost.mk (.pointer (some ⟨w.heap.size, 0, none⟩)) ?_ (rfl) (hinv) (fun j hj hne hn h => match j, hne, hn, h with | 0, hne, hn, h => h | 1, hne, hn, h => h | 2, hne, hn, h => h | 3, hne, hn, h => h | 4, hne, hn, h => h | 5, hne, hn, h => h | 6, hne, hn, h => h | 7, hne, hn, h => (hne rfl).elim | 8, hne, hn, h => not_hangs (by kernel_rfl) hn | 9, hne, hn, h => not_hangs (by kernel_rfl) hn | 10, hne, hn, h => h | 11, hne, hn, h => h | 12, hne, hn, h => h | 13, hne, hn, h => not_hangs (by kernel_rfl) hn | 14, hne, hn, h => not_hangs (by kernel_rfl) hn | 15, hne, hn, h => not_hangs (by kernel_rfl) hn | 16, hne, hn, h => not_hangs (by kernel_rfl) hn | _ + 17, hne, _, h => h)
      simp [fillL, Act.put, setAt]
    · -- 8
      have e7 : u 7 = (.pointer (some ⟨w.heap.size, 0, none⟩)) := hu 7 (by kernel_rfl)
      clear hu
      refine wpOp_go rfl rfl fun K hK => ?_
      simp only [fillL, Act.put, List.setIfInBounds_toArray, List.set_cons_succ, List.set_cons_zero, Nat.zero_add, Nat.reduceAdd]
      go_wp2_with (fail)
      refine RelPost.mk (.pointer (some ⟨w.heap.size, 1, none⟩)) ?_ (rfl) (hinv) (fun j hj hne hn h => match j, hne, hn, h with | 0, hne, hn, h => h | 1, hne, hn, h => h | 2, hne, hn, h => h | 3, hne, hn, h => h | 4, hne, hn, h => h | 5, hne, hn, h => h | 6, hne, hn, h => h | 7, hne, hn, h => h | 8, hne, hn, h => (hne rfl).elim | 9, hne, hn, h => not_hangs (by kernel_rfl) hn | 10, hne, hn, h => h | 11, hne, hn, h => h | 12, hne, hn, h => h | 13, hne, hn, h => not_hangs (by kernel_rfl) hn | 14, hne, hn, h => not_hangs (by kernel_rfl) hn | 15, hne, hn, h => not_hangs (by kernel_rfl) hn | 16, hne, hn, h => not_hangs (by kernel_rfl) hn | _ + 17, hne, _, h => h)
      simp [fillL, Act.put, setAt, e7]
    · -- 9
      have e7 : u 7 = (.pointer (some ⟨w.heap.size, 0, none⟩)) := hu 7 (by kernel_rfl)
      have e8 : u 8 = (.pointer (some ⟨w.heap.size, 1, none⟩)) := hu 8 (by kernel_rfl)
      clear hu
      have g1 := bcell1 hinv.below p1
      refine wpOp_go rfl rfl fun K hK => ?_
      simp only [fillL, Act.put, List.setIfInBounds_toArray, List.set_cons_succ, List.set_cons_zero, Nat.zero_add, Nat.reduceAdd]
      go_wp2_with (fail)
      refine RelPost.mk (.string x.e.2) ?_ (rfl) (hinv) (fun j hj hne hn h => match j, hne, hn, h with | 0, hne, hn, h => h | 1, hne, hn, h => h | 2, hne, hn, h => h | 3, hne, hn, h => h | 4, hne, hn, h => h | 5, hne, hn, h => h | 6, hne, hn, h => h | 7, hne, hn, h => h | 8, hne, hn, h => h | 9, hne, hn, h => (hne rfl).elim | 10, hne, hn, h => h | 11, hne, hn, h => h | 12, hne, hn, h => h | 13, hne, hn, h => not_hangs (by kernel_rfl) hn | 14, hne, hn, h => not_hangs (by kernel_rfl) hn | 15, hne, hn, h => not_hangs (by kernel_rfl) hn | 16, hne, hn, h => not_hangs (by kernel_rfl) hn | _ + 17, hne, _, h => h)
      simp [fillL, Act.put, setAt, e7, e8]
    · -- 10
      clear hu
      refine wpOp_go rfl rfl fun K hK => ?_
      simp only [fillL, Act.put, List.setIfInBounds_toArray, List.set_cons_succ, List.set_cons_zero, Nat.zero_add, Nat.reduceAdd]
      go_wp2_with (fail)
      refine RelPost.mk (.pointer (some ⟨(w.heap.size + 1), 0, none⟩)) ?_ (rfl) (hinv) (fun j hj hne hn h => match j, hne, hn, h with | 0, hne, hn, h => h | 1, hne, hn, h => h | 2, hne, hn, h => h | 3, hne, hn, h => h | 4, hne, hn, h => h | 5, hne, hn, h => h | 6, hne, hn, h => h | 7, hne, hn, h => h | 8, hne, hn, h => h | 9, hne, hn, h => h | 10, hne, hn, h => (hne rfl).elim | 11, hne, hn, h => not_hangs (by kernel_rfl) hn | 12, hne, hn, h => not_hangs (by kernel_rfl) hn | 13, hne, hn, h => not_hangs (by kernel_rfl) hn | 14, hne, hn, h => not_hangs (by kernel_rfl) hn | 15, hne, hn, h => not_hangs (by kernel_rfl) hn | 16, hne, hn, h => not_hangs (by kernel_rfl) hn | _ + 17, hne, _, h => h)
      simp [fillL, Act.put, setAt]
    · -- 11
      have e10 : u 10 = (.pointer (some ⟨(w.heap.size + 1), 0, none⟩)) := hu 10 (by kernel_rfl)
      clear hu
      refine wpOp_go rfl rfl fun K hK => ?_
      simp only [fillL, Act.put, List.setIfInBounds_toArray, List.set_cons_succ, List.set_cons_zero, Nat.zero_add, Nat.reduceAdd]
      go_wp2_with (fail)
      refine RelPost.mk (.pointer (some ⟨(w.heap.size + 1), 1, none⟩)) ?_ (rfl) (hinv) (fun j hj hne hn h => match j, hne, hn, h with | 0, hne, hn, h => h | 1, hne, hn, h => h | 2, hne, hn, h => h | 3, hne, hn, h => h | 4, hne, hn, h => h | 5, hne, hn, h => h | 6, hne, hn, h => h | 7, hne, hn, h => h | 8, hne, hn, h => h | 9, hne, hn, h => h | 10, hne, hn, h => h | 11, hne, hn, h => (hne rfl).elim | 12, hne, hn, h => not_hangs (by kernel_rfl) hn | 13, hne, hn, h => not_hangs (by kernel_rfl) hn | 14, hne, hn, h => not_hangs (by kernel_rfl) hn | 15, hne, hn, h => not_hangs (by kernel_rfl) hn | 16, hne, hn, h => not_hangs (by kernel_rfl) hn | _ + 17, hne, _, h => h)
      simp [fillL, Act.put, setAt, e10]
    · -- 12
      have e10 : u 10 = (.pointer (some ⟨(w.heap.size + 1), 0, none⟩)) := hu 10 (by kernel_rfl)
      have e11 : u 11 = (.pointer (some ⟨(w.heap.size + 1), 1, none⟩)) := hu 11 (by kernel_rfl)
      clear hu
      have g1 := bcell1 hinv.below q1
      refine wpOp_go rfl rfl fun K hK => ?_
      simp only [fillL, Act.put, List.setIfInBounds_toArray, List.set_cons_succ, List.set_cons_zero, Nat.zero_add, Nat.reduceAdd]
      go_wp2_with (fail)
      refine RelPost.mk (.string y.e.2) ?_ (rfl) (hinv) (fun j hj hne hn h => match j, hne, hn, h with | 0, hne, hn, h => h | 1, hne, hn, h => h | 2, hne, hn, h => h | 3, hne, hn, h => h | 4, hne, hn, h => h | 5, hne, hn, h => h | 6, hne, hn, h => h | 7, hne, hn, h => h | 8, hne, hn, h => h | 9, hne, hn, h => h | 10, hne, hn, h => h | 11, hne, hn, h => h | 12, hne, hn, h => (hne rfl).elim | 13, hne, hn, h => not_hangs (by kernel_rfl) hn | 14, hne, hn, h => not_hangs (by kernel_rfl) hn | 15, hne, hn, h => not_hangs (by kernel_rfl) hn | 16, hne, hn, h => not_hangs (by kernel_rfl) hn | _ + 17, hne, _, h => h)
      simp [fillL, Act.put, setAt, e10, e11]
    · -- 13
      have e0 : u 0 = (.pointer (some ⟨w.heap.size, 0, none⟩)) := hu 0 (by kernel_rfl)
      have e1 : u 1 = (.pointer (some ⟨w.heap.size, 0, none⟩)) := hu 1 (by kernel_rfl)
      have e2 : u 2 = (.string x.e.1) := hu 2 (by kernel_rfl)
      have e3 : u 3 = (.pointer (some ⟨(w.heap.size + 1), 0, none⟩)) := hu 3 (by kernel_rfl)
      have e4 : u 4 = (.pointer (some ⟨(w.heap.size + 1), 0, none⟩)) := hu 4 (by kernel_rfl)
      have e5 : u 5 = (.string y.e.1) := hu 5 (by kernel_rfl)
      have e6 : u 6 = (.int .i64 (scmp x.e.1 y.e.1)) := hu 6 (by kernel_rfl)
      have e7 : u 7 = (.pointer (some ⟨w.heap.size, 0, none⟩)) := hu 7 (by kernel_rfl)
      have e8 : u 8 = (.pointer (some ⟨w.heap.size, 1, none⟩)) := hu 8 (by kernel_rfl)
      have e9 : u 9 = (.string x.e.2) := hu 9 (by kernel_rfl)
      have e10 : u 10 = (.pointer (some ⟨(w.heap.size + 1), 0, none⟩)) := hu 10 (by kernel_rfl)
      have e11 : u 11 = (.pointer (some ⟨(w.heap.size + 1), 1, none⟩)) := hu 11 (by kernel_rfl)
      have e12 : u 12 = (.string y.e.2) := hu 12 (by kernel_rfl)
      clear hu
      refine wpOp_go rfl rfl fun K hK => ?_
      simp only [fillL, Act.put, List.setIfInBounds_toArray, List.set_cons_succ, List.set_cons_zero, Nat.zero_add, Nat.reduceAdd]
      go_wp2_with (go_at_call 62; refine (compare_str _ _ _).mono ?_; rintro en w'' ⟨rfl, rfl⟩)
      refine RelPost.mk (.int .i64 (scmp x.e.2 y.e.2)) ?_ (rfl) (hinv) (fun j hj hne hn h => match j, hne, hn, h with | 0, hne, hn, h => h | 1, hne, hn, h => h | 2, hne, hn, h => h | 3, hne, hn, h => h | 4, hne, hn, h => h | 5, hne, hn, h => h | 6, hne, hn, h => h | 7, hne, hn, h => h | 8, hne, hn, h => h | 9, hne, hn, h => h | 10, hne, hn, h => h | 11, hne, hn, h => h | 12, hne, hn, h => h | 13, hne, hn, h => (hne rfl).elim | 14, hne, hn, h => not_hangs (by kernel_rfl) hn | 15, hne, hn, h => not_hangs (by kernel_rfl) hn | 16, hne, hn, h => not_hangs (by kernel_rfl) hn | _ + 17, hne, _, h => h)
      simp [fillL, Act.put, setAt, e0, e1, e2, e3, e4, e5, e6, e7, e8, e9, e10, e11, e12]
    · -- 14
      have e0 : u 0 = (.pointer (some ⟨w.heap.size, 0, none⟩)) := hu 0 (by kernel_rfl)
      have e1 : u 1 = (.pointer (some ⟨w.heap.size, 0, none⟩)) := hu 1 (by kernel_rfl)
      have e2 : u 2 = (.string x.e.1) := hu 2 (by kernel_rfl)
      have e3 : u 3 = (.pointer (some ⟨(w.heap.size + 1), 0, none⟩)) := hu 3 (by kernel_rfl)
      have e4 : u 4 = (.pointer (some ⟨(w.heap.size + 1), 0, none⟩)) := hu 4 (by kernel_rfl)
      have e5 : u 5 = (.string y.e.1) := hu 5 (by kernel_rfl)
      have e6 : u 6 = (.int .i64 (scmp x.e.1 y.e.1)) := hu 6 (by kernel_rfl)
      have e7 : u 7 = (.pointer (some ⟨w.heap.size, 0, none⟩)) := hu 7 (by kernel_rfl)
      have e8 : u 8 = (.pointer (some ⟨w.heap.size, 1, none⟩)) := hu 8 (by kernel_rfl)
      have e9 : u 9 = (.string x.e.2) := hu 9 (by kernel_rfl)
      have e10 : u 10 = (.pointer (some ⟨(w.heap.size + 1), 0, none⟩)) := hu 10 (by kernel_rfl)
      have e11 : u 11 = (.pointer (some ⟨(w.heap.size + 1), 1, none⟩)) := hu 11 (by kernel_rfl)
      have e12 : u 12 = (.string y.e.2) := hu 12 (by kernel_rfl)
      have e13 : u 13 = (.int .i64 (scmp x.e.2 y.e.2)) := hu 13 (by kernel_rfl)
      clear hu
      refine wpOp_go rfl rfl fun K hK => ?_
      simp only [fillL, Act.put, List.setIfInBounds_toArray, List.set_cons_succ, List.set_cons_zero, Nat.zero_add, Nat.reduceAdd]
      go_wp2_with (fail)
      refine RelPost.mk (.slice (some ⟨w'.heap.size, 0, none⟩) 2 2) ?_ (⟨w'.heap.size, rfl, Blk.new _ _ [.int .i64 (scmp x.e.1 y.e.1), .int .i64 (scmp x.e.2 y.e.2)]⟩) (hinv.alloc _) (fun j hj hne hn h => match j, hne, hn, h with | 0, hne, hn, h => h | 1, hne, hn, h => h | 2, hne, hn, h => h | 3, hne, hn, h => h | 4, hne, hn, h => h | 5, hne, hn, h => h | 6, hne, hn, h => h | 7, hne, hn, h => h | 8, hne, hn, h => h | 9, hne, hn, h => h | 10, hne, hn, h => h | 11, hne, hn, h => h | 12, hne, hn, h => h | 13, hne, hn, h => h | 14, hne, hn, h => (hne rfl).elim | 15, hne, hn, h => not_hangs (by kernel_rfl) hn | 16, hne, hn, h => not_hangs (by kernel_rfl) hn | _ + 17, hne, _, h => h)
      simp [fillL, Act.put, setAt, e0, e1, e2, e3, e4, e5, e6, e7, e8, e9, e10, e11, e12, e13]
    · -- 15
      have e0 : u 0 = (.pointer (some ⟨w.heap.size, 0, none⟩)) := hu 0 (by kernel_rfl)
      have e1 : u 1 = (.pointer (some ⟨w.heap.size, 0, none⟩)) := hu 1 (by kernel_rfl)
      have e2 : u 2 = (.string x.e.1) := hu 2 (by kernel_rfl)
      have e3 : u 3 = (.pointer (some ⟨(w.heap.size + 1), 0, none⟩)) := hu 3 (by kernel_rfl)
      have e4 : u 4 = (.pointer (some ⟨(w.heap.size + 1), 0, none⟩)) := hu 4 (by kernel_rfl)
      have e5 : u 5 = (.string y.e.1) := hu 5 (by kernel_rfl)
      have e6 : u 6 = (.int .i64 (scmp x.e.1 y.e.1)) := hu 6 (by kernel_rfl)
      have e7 : u 7 = (.pointer (some ⟨w.heap.size, 0, none⟩)) := hu 7 (by kernel_rfl)
      have e8 : u 8 = (.pointer (some ⟨w.heap.size, 1, none⟩)) := hu 8 (by kernel_rfl)
      have e9 : u 9 = (.string x.e.2) := hu 9 (by kernel_rfl)
      have e10 : u 10 = (.pointer (some ⟨(w.heap.size + 1), 0, none⟩)) := hu 10 (by kernel_rfl)
      have e11 : u 11 = (.pointer (some ⟨(w.heap.size + 1), 1, none⟩)) := hu 11 (by kernel_rfl)
      have e12 : u 12 = (.string y.e.2) := hu 12 (by kernel_rfl)
      have e13 : u 13 = (.int .i64 (scmp x.e.2 y.e.2)) := hu 13 (by kernel_rfl)
      have e14 : ∃ g, u 14 = .slice (some ⟨g, 0, none⟩) 2 2 ∧ Blk w' g 3 [.int .i64 (scmp x.e.1 y.e.1), .int .i64 (scmp x.e.2 y.e.2)] := hu 14 (by kernel_rfl)
      clear hu
      obtain ⟨g, e14, hblk⟩ := e14
      refine wpOp_go rfl rfl fun K hK => ?_
      simp only [fillL, Act.put, List.setIfInBounds_toArray, List.set_cons_succ, List.set_cons_zero, Nat.zero_add, Nat.reduceAdd]
      go_wp2_with (go_at_call 61; refine (or_int w' g 2 2 [scmp x.e.1 y.e.1, scmp x.e.2 y.e.2] rfl (by omega) (two_cells hblk)).mono ?_; rintro en w'' ⟨rfl, rfl⟩)
      refine RelPost.mk (.int .i64 (ecmp x.e y.e)) ?_ (rfl) (hinv) (fun j hj hne hn h => match j, hne, hn, h with | 0, hne, hn, h => h | 1, hne, hn, h => h | 2, hne, hn, h => h | 3, hne, hn, h => h | 4, hne, hn, h => h | 5, hne, hn, h => h | 6, hne, hn, h => h | 7, hne, hn, h => h | 8, hne, hn, h => h | 9, hne, hn, h => h | 10, hne, hn, h => h | 11, hne, hn, h => h | 12, hne, hn, h => h | 13, hne, hn, h => h | 14, hne, hn, h => h | 15, hne, hn, h => (hne rfl).elim | 16, hne, hn, h => not_hangs (by kernel_rfl) hn | _ + 17, hne, _, h => h)
      simp [fillL, Act.put, setAt, e0, e1, e2, e3, e4, e5, e6, e7, e8, e9, e10, e11, e12, e13, e14, ecmp_eq]
    · -- 16
      have e0 : u 0 = (.pointer (some ⟨w.heap.size, 0, none⟩)) := hu 0 (by kernel_rfl)
      have e1 : u 1 = (.pointer (some ⟨w.heap.size, 0, none⟩)) := hu 1 (by kernel_rfl)
      have e2 : u 2 = (.string x.e.1) := hu 2 (by kernel_rfl)
      have e3 : u 3 = (.pointer (some ⟨(w.heap.size + 1), 0, none⟩)) := hu 3 (by kernel_rfl)
      have e4 : u 4 = (.pointer (some ⟨(w.heap.size + 1), 0, none⟩)) := hu 4 (by kernel_rfl)
      have e5 : u 5 = (.string y.e.1) := hu 5 (by kernel_rfl)
      have e6 : u 6 = (.int .i64 (scmp x.e.1 y.e.1)) := hu 6 (by kernel_rfl)
      have e7 : u 7 = (.pointer (some ⟨w.heap.size, 0, none⟩)) := hu 7 (by kernel_rfl)
      have e8 : u 8 = (.pointer (some ⟨w.heap.size, 1, none⟩)) := hu 8 (by kernel_rfl)
      have e9 : u 9 = (.string x.e.2) := hu 9 (by kernel_rfl)
      have e10 : u 10 = (.pointer (some ⟨(w.heap.size + 1), 0, none⟩)) := hu 10 (by kernel_rfl)
      have e11 : u 11 = (.pointer (some ⟨(w.heap.size + 1), 1, none⟩)) := hu 11 (by kernel_rfl)
      have e12 : u 12 = (.string y.e.2) := hu 12 (by kernel_rfl)
      have e13 : u 13 = (.int .i64 (scmp x.e.2 y.e.2)) := hu 13 (by kernel_rfl)
      have e14 : ∃ g, u 14 = .slice (some ⟨g, 0, none⟩) 2 2 ∧ Blk w' g 3 [.int .i64 (scmp x.e.1 y.e.1), .int .i64 (scmp x.e.2 y.e.2)] := hu 14 (by kernel_rfl)
      have e15 : u 15 = (.int .i64 (ecmp x.e y.e)) := hu 15 (by kernel_rfl)
      clear hu
      refine wpOp_go rfl rfl fun K hK => ?_
      simp only [fillL, Act.put, List.setIfInBounds_toArray, List.set_cons_succ, List.set_cons_zero, Nat.zero_add, Nat.reduceAdd]
      go_wp2_with (fail)
      refine RelPost.mk (.int .i64 (ecmp x.e y.e)) ?_ (rfl) (hinv) (fun j hj hne hn h => match j, hne, hn, h with | 0, hne, hn, h => h | 1, hne, hn, h => h | 2, hne, hn, h => h | 3, hne, hn, h => h | 4, hne, hn, h => h | 5, hne, hn, h => h | 6, hne, hn, h => h | 7, hne, hn, h => h | 8, hne, hn, h => h | 9, hne, hn, h => h | 10, hne, hn, h => h | 11, hne, hn, h => h | 12, hne, hn, h => h | 13, hne, hn, h => h | 14, hne, hn, h => h | 15, hne, hn, h => h | 16, hne, hn, h => (hne rfl).elim | _ + 17, hne, _, h => h)
      simp [fillL, Act.put, setAt, e0, e1, e2, e3, e4, e5, e6, e7, e8, e9, e10, e11, e12, e13, e15]
    · exact absurd hi (by simp)
  case fin =>
    intro u w' hu hinv
    have e0 : u 0 = (.pointer (some ⟨w.heap.size, 0, none⟩)) := hu 0 (by simp)
    have e1 : u 1 = (.pointer (some ⟨w.heap.size, 0, none⟩)) := hu 1 (by simp)
    have e2 : u 2 = (.string x.e.1) := hu 2 (by simp)
    have e3 : u 3 = (.pointer (some ⟨(w.heap.size + 1), 0, none⟩)) := hu 3 (by simp)
    have e4 : u 4 = (.pointer (some ⟨(w.heap.size + 1), 0, none⟩)) := hu 4 (by simp)
    have e5 : u 5 = (.string y.e.1) := hu 5 (by simp)
    have e6 : u 6 = (.int .i64 (scmp x.e.1 y.e.1)) := hu 6 (by simp)
    have e7 : u 7 = (.pointer (some ⟨w.heap.size, 0, none⟩)) := hu 7 (by simp)
    have e8 : u 8 = (.pointer (some ⟨w.heap.size, 1, none⟩)) := hu 8 (by simp)
    have e9 : u 9 = (.string x.e.2) := hu 9 (by simp)
    have e10 : u 10 = (.pointer (some ⟨(w.heap.size + 1), 0, none⟩)) := hu 10 (by simp)
    have e11 : u 11 = (.pointer (some ⟨(w.heap.size + 1), 1, none⟩)) := hu 11 (by simp)
    have e12 : u 12 = (.string y.e.2) := hu 12 (by simp)
    have e13 : u 13 = (.int .i64 (scmp x.e.2 y.e.2)) := hu 13 (by simp)
    have e14 : ∃ g, u 14 = .slice (some ⟨g, 0, none⟩) 2 2 ∧ Blk w' g 3 [.int .i64 (scmp x.e.1 y.e.1), .int .i64 (scmp x.e.2 y.e.2)] := hu 14 (by simp)
    have e15 : u 15 = (.int .i64 (ecmp x.e y.e)) := hu 15 (by simp)
    have e16 : u 16 = (.int .i64 (ecmp x.e y.e)) := hu 16 (by simp)
    clear hu
    simp only [fillL, Act.put, List.setIfInBounds_toArray, List.set_cons_succ, List.set_cons_zero, Nat.zero_add, Nat.reduceAdd, e0, e1, e2, e3, e4, e5, e6, e7, e8, e9, e10, e11, e12, e13, e15, e16]
    clear e0 e1 e2 e3 e4 e5 e6 e7 e8 e9 e10 e11 e12 e13 e14 e15 e16
    go_wp2_with fail
    go_ret
    exact ⟨rfl, hg1.trans hinv⟩
end Go.Proofs.Ytjfeeampcgmngaa
