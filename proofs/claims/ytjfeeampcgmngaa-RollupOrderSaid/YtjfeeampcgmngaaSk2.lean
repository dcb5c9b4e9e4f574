/- sketch.put and sketch.bars: a bar of a row grows; a row's bars as a list. -/
import Derived.Test.YtjfeeampcgmngaaSk1
namespace Go.Proofs.Ytjfeeampcgmngaa
open Go.RowKit Go.Shelf

set_option maxRecDepth 100000 in
/-- put: the bar grows, as far as it goes. -/
theorem put_any (w : World) (b : Nat) (f : Nat → Nat) (i n : Nat) (hr : RowIs w b f) (hi : i < 1920) (hf : f i < M64) (hn : n < M64) :
    Calls Try.prog 57 #[.pointer (some ⟨b, 0, none⟩), .int .i64 i, .int .u64 n] w fun e w' => e = .returned (.tuple #[]) ∧ w' = w.setCell ⟨b, i, none⟩ (.int .u64 (satAdd M64 (f i) n : Nat)) := by
  have hc := hr.cell hi
  have hz := hr.frozen i
  unfold M64 at hf hn
  have s1 : ∀ w, (callFunc 59 #[.int .u64 (f i : Nat), .int .u64 n, .int .u64 0]).run Try.prog w = .ok (.value (.tuple #[.int .u64 (((f i : Nat) + n : Int) % 18446744073709551616), .int .u64 (((f i : Nat) + n : Int) / 18446744073709551616)])) w := add64_0 _ _ (by omega) (by omega)
  by_cases ho : f i + n < 18446744073709551616
  · have e1 : ((f i : Nat) + n : Int) / 18446744073709551616 = 0 := by omega
    have e2 : ((f i : Nat) + n : Int) % 18446744073709551616 = (f i : Nat) + n := by omega
    rw [e1, e2] at s1
    have e3 : ((satAdd M64 (f i) n : Nat) : Int) = (f i : Nat) + n := by unfold satAdd M64; omega
    rw [e3]
    clear e1 e2 e3 hr
    go_enter Try.func57, Try.ntmps57
    go_wp2_with (simp only [s1])
    go_end0
    exact ⟨rfl, rfl⟩
  · obtain ⟨q, hq, hq1⟩ : ∃ q : Int, q = ((f i : Nat) + n : Int) / 18446744073709551616 ∧ 0 < q := ⟨_, rfl, by omega⟩
    rw [← hq] at s1
    have e3 : ((satAdd M64 (f i) n : Nat) : Int) = 18446744073709551615 := by unfold satAdd M64; omega
    rw [e3]
    clear hq e3 hr
    go_enter Try.func57, Try.ntmps57
    go_wp2_with (simp only [s1])
    go_end0
    exact ⟨rfl, rfl⟩

theorem barInfo : (Try.prog.info? 82).map (fun i => (i.zero, i.size, i.bytes)) = some (some (.agg #[.int .i64 0, .int .u64 0]), 2, 16) := by kernel_rfl

/-- The cells of bars. -/
def barCells (l : List (Nat × Nat)) : List Value := l.flatMap fun p => [.int .i64 p.1, .int .u64 p.2]
theorem barCells_get : ∀ (l : List (Nat × Nat)) (i : Nat) (j c : Nat), l[i]? = some (j, c) → (barCells l)[i * 2]? = some (.int .i64 j) ∧ (barCells l)[i * 2 + 1]? = some (.int .u64 c)
  | [], i, j, c, h => by simp at h
  | (a, d) :: l, 0, j, c, h => by
    simp at h
    obtain ⟨rfl, rfl⟩ := h
    exact ⟨rfl, rfl⟩
  | (a, d) :: l, i + 1, j, c, h => by
    have h' : l[i]? = some (j, c) := by simpa using h
    obtain ⟨h1, h2⟩ := barCells_get l i j c h'
    have e : barCells ((a, d) :: l) = .int .i64 a :: .int .u64 d :: barCells l := rfl
    rw [e, show (i + 1) * 2 = i * 2 + 1 + 1 by omega, List.getElem?_cons_succ, List.getElem?_cons_succ, List.getElem?_cons_succ, List.getElem?_cons_succ]
    exact ⟨h1, h2⟩
theorem barCells_append (l m : List (Nat × Nat)) : barCells (l ++ m) = barCells l ++ barCells m := by unfold barCells; rw [List.flatMap_append]

/-- A row of bars of the call's own reads as these bars. -/
theorem bars_of_own {w : World} {base : Nat} {v : Value} {l : List (Nat × Nat)} (h : w.ownsRow base 82 2 v l.length (barCells l)) : ∃ A c, v = .slice A l.length c ∧ l.length ≤ c ∧ BarsAt w A l.length (rawBars l) ∧ ∀ a, A = some a → base ≤ a.block := by
  rcases h.2 with ⟨rfl, h0⟩ | ⟨g, cap, cur, rfl, hb, hh, hnc, hcm, hcs, hcur⟩
  · rw [h0]
    exact ⟨none, 0, rfl, Nat.le_refl _, ⟨by simp [rawBars]; omega, fun h => absurd h (by omega)⟩, fun a h => by cases h⟩
  · refine ⟨some ⟨g, 0, none⟩, cap, rfl, hnc, ⟨by simp [rawBars], fun _ => ⟨g, 0, rfl, fun i j c hi => ?_⟩⟩, fun a h => by cases h; exact hb⟩
    have hget : ∀ k u, (barCells l)[k]? = some u → w.cell? ⟨g, 0 + k, none⟩ = some u := fun k u hk => by
      rw [← hcur] at hk
      rw [List.getElem?_take] at hk
      split at hk
      · simp [World.cell?, hh]
        simpa using hk
      · cases hk
    have hi' : ∃ p, l[i]? = some p ∧ ((p.1 : Int), (p.2 : Int)) = (j, c) := by
      unfold rawBars at hi
      rw [List.getElem?_map] at hi
      cases hp : l[i]? with
      | none => rw [hp] at hi; cases hi
      | some p => rw [hp] at hi; exact ⟨p, rfl, by simpa using hi⟩
    obtain ⟨⟨a, d⟩, hp, e⟩ := hi'
    simp only [Prod.mk.injEq] at e
    obtain ⟨rfl, rfl⟩ := e
    obtain ⟨h1, h2⟩ := barCells_get l i a d hp
    exact ⟨hget _ _ h1, by rw [Nat.add_assoc]; exact hget _ _ h2⟩

theorem canon_succ (f : Nat → Nat) : ∀ (n lo : Nat), canon f lo (n + 1) = canon f lo n ++ (if f (lo + n) = 0 then [] else [(lo + n, f (lo + n))])
  | 0, lo => by
    unfold canon
    simp only [Nat.add_zero]
    split <;> simp [canon]
  | n + 1, lo => by
    have ih := canon_succ f n (lo + 1)
    rw [show lo + 1 + n = lo + (n + 1) by omega] at ih
    conv => lhs; unfold canon
    conv => rhs; unfold canon
    rw [ih]
    split <;> simp
theorem canon_length (f : Nat → Nat) : ∀ (n lo : Nat), (canon f lo n).length ≤ n
  | 0, _ => Nat.le_refl _
  | n + 1, lo => by
    have := canon_length f n (lo + 1)
    unfold canon
    split
    · omega
    · simp; omega

def BarsLoop (f : Nat → Nat) (b : Nat) (W : World) (v i : Value) (wr : World) : Prop :=
  ∃ k : Nat, k ≤ 1920 ∧ i = .int .i64 k ∧ wr.ownsRow W.heap.size 82 2 v (canon f 0 k).length (barCells (canon f 0 k)) ∧ RowIs wr b f ∧ Below W.heap.size W wr

set_option maxRecDepth 100000 in
set_option maxHeartbeats 800000 in
theorem bars_any (w : World) (b : Nat) (f : Nat → Nat) (hr : RowIs w b f) :
    Calls Try.prog 58 #[.pointer (some ⟨b, 0, none⟩)] w fun e w' => ∃ A c, e = .returned (.slice A (canon f 0 1920).length c) ∧ (canon f 0 1920).length ≤ c ∧ BarsAt w' A (canon f 0 1920).length (rawBars (canon f 0 1920)) ∧ Below w.heap.size w w' ∧ ∀ a, A = some a → w.heap.size ≤ a.block := by
  obtain ⟨i0, hi, hz0, hz1, hz2⟩ := info_parts barInfo
  have hlt := hr.lt
  go_enter Try.func58, Try.ntmps58
  go_wp2_with fail
  go_loopw [3, 4, 5, 7] (fun v _ _ i wr => BarsLoop f b w v i wr) (fun _ _ _ i _ => 1920 - (intOf i).toNat)
  case atStart => exact ⟨0, by omega, rfl, ⟨rfl, .inl ⟨rfl, rfl⟩⟩, hr, brefl _⟩
  case round =>
    obtain ⟨k, hk, rfl, hown, hrow, hb⟩ := hrel
    have HR := Lib.hid hrow
    have HB := Lib.hid hb
    have HO := Lib.hid hown
    have hs := hb.size
    have hle := canon_length f k 0
    have hsucc := Lib.hid (canon_succ f k 0)
    clear hr hrow hb hown
    by_cases hk2 : k < 1920
    · have hc := HR.out.cell hk2
      by_cases h0 : f k = 0
      · have hc0 : wr.cell? ⟨b, k, none⟩ = some (.int .u64 0) := by rw [hc, h0]; rfl
        have HS := Lib.hid (show canon f 0 (k + 1) = canon f 0 k by rw [hsucc.out, Nat.zero_add, if_pos h0, List.append_nil])
        clear hc h0 hsucc
        go_wp2_with fail
        go_region
        go_wp2_with fail
        go_roundw
        case rel => exact ⟨k + 1, by omega, by go_num, by rw [HS.out]; exact HO.out, HR.out, bdrew HB.out⟩
        case measure => simp [intOf]; omega
      · have hp : 0 < ((f k : Nat) : Int) := by omega
        have HS := Lib.hid (show canon f 0 (k + 1) = canon f 0 k ++ [(k, f k)] by rw [hsucc.out, Nat.zero_add, if_neg h0])
        clear h0 hsucc
        go_wp2_with fail
        go_region
        go_wp2_with (at_builtin; refine wpList_append_own _ rfl _ _ 44 rfl w.heap.size 82 i0 (.agg #[.int .i64 0, .int .u64 0]) 2 16 Try.underlying44 hi hz0 hz1 hz2 rfl (by decide) _ _ _ rfl (HO.out.drew.alloc _) ⟨wr.heap.size, 0, none⟩ 1 1 [.int .i64 k, .int .u64 (f k)] rfl rfl ?c1 ?c2 ?c3 ?c4 ?c5 ?_)
        case c1 => exact fun j u h => cells_new wr [.int .i64 k, .int .u64 (f k)] 82 j u h
        case c2 => simp [Value.oneCell']
        case c3 => unfold maxLen; omega
        case c4 => omega
        case c5 => simp; omega
        intro v' w1 hown1 hgrow _
        have hb1 := bgrown (bdrew (bal HB.out _)) hgrow (HO.out.drew.alloc _)
        have hr1 : RowIs w1 b f := HR.out.same (by
          have h1 := hb1.block b hlt
          have h2 := HB.out.block b hlt
          rw [h1, h2])
        have HO1 := Lib.hid (show w1.ownsRow w.heap.size 82 2 v' (canon f 0 (k + 1)).length (barCells (canon f 0 (k + 1))) by rw [HS.out, List.length_append, barCells_append]; exact hown1)
        have HB1 := Lib.hid hb1
        have HR1 := Lib.hid hr1
        clear hown1 hgrow hb1 hr1 hc hp
        go_wp2
        go_roundw
        case rel => exact ⟨k + 1, by omega, by go_num, HO1.out, HR1.out, HB1.out⟩
        case measure => simp [intOf]; omega
    · have hk3 : k = 1920 := by omega
      subst hk3
      obtain ⟨A, c, hv, hnc, hbars, hfresh⟩ := bars_of_own HO.out
      subst hv
      have HBA := Lib.hid hbars
      have HFR := Lib.hid hfresh
      clear hbars hsucc hk2 hfresh
      go_wp2_with fail
      go_ret
      exact ⟨A, c, rfl, hnc, HBA.out, HB.out, HFR.out⟩
end Go.Proofs.Ytjfeeampcgmngaa
