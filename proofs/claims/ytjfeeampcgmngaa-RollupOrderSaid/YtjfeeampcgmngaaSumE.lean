/- The document's Sum: lists of edges put together. -/
import Derived.Test.YtjfeeampcgmngaaWithN
namespace Go.Proofs.Ytjfeeampcgmngaa
open Go.RowKit Go.Shelf Go.Maps

theorem with_any (a w : World) (v : Value) (L : List ET) (e : Edge) (tv : Value) (t : Tal) (hb : Below a.heap.size a w) (hl : EtOwn a.heap.size w v L) (hr : Rises L) (hok : ∀ p ∈ L, p.2.Ok) (he : EdgeOk e) (ht : TalAt w tv t.raw) (hto : t.Ok) (hN : (L.length + 1) * 104 ≤ 140737488355328) :
    Calls Try.prog 25 #[v, edgeVal e, tv] w (WithPost a L e t) := by
  by_cases hv : v = .slice none 0 0
  · subst hv
    obtain ⟨d, h1, h2⟩ := hl
    have hd : d.length = 0 := by
      rcases h1.2 with ⟨_, h0⟩ | ⟨g, cap, cur, e0, _⟩
      · exact h0
      · cases e0
    have hL : L = [] := List.eq_nil_of_length_eq_zero (by rw [← h2.1]; exact hd)
    subst hL
    exact with_nil a w e tv t hb he ht hto
  · exact with_some a w v L e tv t hb hl hv hr hok he ht hto hN

/-! ### plain -/
theorem sumT_edges {S : List Edge} : ∀ {l acc : List ET}, (∀ p ∈ acc, p.1 ∈ S) → (∀ p ∈ l, p.1 ∈ S) → ∀ p ∈ sumT acc l, p.1 ∈ S
  | [], _, h, _ => h
  | q :: l, acc, h, hl => by
    unfold sumT
    refine sumT_edges (fun p hp => ?_) fun p hp => hl p (by simp [hp])
    rcases withT_mem hp with hp | hp
    · exact h p hp
    · rw [hp]; exact hl q (by simp)
theorem rises_few {L : List ET} (h : Rises L) {S : List Edge} (hS : ∀ p ∈ L, p.1 ∈ S) : L.length ≤ S.length := by
  classical
  have := nodup_le (L.map (·.1)) S (List.pairwise_map.2 h.ne) fun e he => by
    obtain ⟨p, hp, rfl⟩ := List.mem_map.1 he
    exact hS p hp
  simpa using this

/-! ### lists of lists -/
abbrev SL := Option Addr × Nat × Nat
/-- A row of lists of edges. -/
def PartsAt (B : Nat) (w : World) (A : Option Addr) (n : Nat) (Ls : List (List ET)) : Prop :=
  ∃ d : List SL, n = d.length ∧ d.length = Ls.length ∧ (∀ (i : Nat) (x : SL) (L : List ET), d[i]? = some x → Ls[i]? = some L → EdgesAt B w x.1 x.2.1 L) ∧
    (0 < n → ∃ b off, A = some ⟨b, off, none⟩ ∧ ∀ (i : Nat) (x : SL), d[i]? = some x → w.cell? ⟨b, off + i, none⟩ = some (.slice x.1 x.2.1 x.2.2))
theorem PartsAt.below {B : Nat} {w w' : World} {A : Option Addr} {n : Nat} {Ls : List (List ET)} (h : PartsAt B w A n Ls) (hb : Below w.heap.size w w') : PartsAt B w' A n Ls := by
  obtain ⟨d, h1, h2, h3, h4⟩ := h
  exact ⟨d, h1, h2, fun i x L hx hL => (h3 i x L hx hL).below hb, fun hn => by
    obtain ⟨b, off, e, hc⟩ := h4 hn
    exact ⟨b, off, e, fun i x hx => bcell1 hb (hc i x hx)⟩⟩

def SumOuter (w : World) (Ls : List (List ET)) (v i : Value) (wr : World) : Prop :=
  ∃ k : Nat, k ≤ Ls.length ∧ i = .int .i64 k ∧ EtOwn w.heap.size wr v (sumT [] (Ls.take k).flatten) ∧ Below w.heap.size w wr
def SumIn (w : World) (acc L : List ET) (v k : Value) (wr : World) : Prop :=
  ∃ j : Nat, j ≤ L.length ∧ k = .int .i64 j ∧ EtOwn w.heap.size wr v (sumT acc (L.take j)) ∧ Below w.heap.size w wr
def SumEPost (w : World) (Ls : List (List ET)) (en : Ending) (w' : World) : Prop :=
  ∃ v, en = .returned v ∧ EtOwn w.heap.size w' v (sumT [] Ls.flatten) ∧ Below w.heap.size w w'

set_option maxRecDepth 100000 in
set_option maxHeartbeats 4000000 in
theorem SumE_any (w : World) (B : Nat) (A : Option Addr) (n c : Nat) (Ls : List (List ET)) (S : List Edge) (N : Nat) (h : PartsAt B w A n Ls) (hn : n ≤ 140737488355328) (hok : ∀ L ∈ Ls, ∀ p ∈ L, p.2.Ok) (hS : ∀ L ∈ Ls, ∀ p ∈ L, p.1 ∈ S) (hSN : S.length ≤ N) (hN : N * 112 ≤ 140737488355328)
    (hlen : ∀ L ∈ Ls, L.length ≤ 140737488355328) :
    Calls Try.prog 11 #[.slice A n c] w (SumEPost w Ls) := by
  have HP := Lib.hid h
  have HOK := Lib.hid hok
  have HS := Lib.hid hS
  have HLEN := Lib.hid hlen
  have hnL : n = Ls.length := by obtain ⟨d, h1, h2, _⟩ := h; omega
  have HNL := Lib.hid hnL
  have hn1 : n ≤ Ls.length := by omega
  have hn2 : Ls.length ≤ n := by omega
  have hok2 : ∀ k, ∀ p ∈ (Ls.take k).flatten, p.2.Ok := fun k p hp => by
    obtain ⟨L, hL, hp⟩ := List.mem_flatten.1 hp
    exact hok L (List.mem_of_mem_take hL) p hp
  have hS2 : ∀ k, ∀ p ∈ (Ls.take k).flatten, p.1 ∈ S := fun k p hp => by
    obtain ⟨L, hL, hp⟩ := List.mem_flatten.1 hp
    exact hS L (List.mem_of_mem_take hL) p hp
  have HOK2 := Lib.hid hok2
  have HS2 := Lib.hid hS2
  clear h hok hS hnL hok2 hS2 hlen
  go_enter Try.func11, Try.ntmps11
  go_wp2_with fail
  go_loopw [3, 4] (fun v i wr => SumOuter w Ls v i wr) (fun _ i _ => n - (intOf i).toNat)
  case atStart => exact ⟨0, Nat.zero_le _, rfl, EtOwn.nil _ _, brefl _⟩
  case round =>
    obtain ⟨k, hk, rfl, hown, hb⟩ := hrel
    have HO := Lib.hid hown
    have HB := Lib.hid hb
    by_cases hlt : k < n
    · clear hown
      go_wp2_with fail
      obtain ⟨V, rfl⟩ : ∃ V, V = wr := ⟨_, rfl⟩
      obtain ⟨L, hL⟩ : ∃ L, Ls[k]? = some L := ⟨Ls[k]'(by omega), List.getElem?_eq_getElem _⟩
      obtain ⟨d, h1, h2, h3, h4⟩ := HP.out
      obtain ⟨b, off, hA, hcell⟩ := h4 (by omega)
      subst hA
      obtain ⟨⟨A', n', c'⟩, hx⟩ : ∃ x, d[k]? = some x := ⟨d[k]'(by omega), List.getElem?_eq_getElem _⟩
      have hed := h3 k _ L hx hL
      have HED := Lib.hid (show EdgesAt B w A' n' L from hed)
      have HL := Lib.hid hL
      have hcl : w.cell? ⟨b, off + k, none⟩ = some (.slice A' n' c') := hcell k _ hx
      have HCL := Lib.hid hcl
      have hnl : n' = L.length := hed.len
      have hln1 : n' ≤ L.length := by omega
      have hln2 : L.length ≤ n' := by omega
      have hlm := HLEN.out L (List.mem_of_getElem? hL)
      have HLO := Lib.hid (HOK.out L (List.mem_of_getElem? hL))
      have HLS := Lib.hid (HS.out L (List.mem_of_getElem? hL))
      clear h1 h2 h3 h4 hcell hx hed hL hcl hnl hb
      go_loopw [3, 5] (fun v j wr => SumIn w (sumT [] (Ls.take k).flatten) L v j wr) (fun _ j _ => n' - (intOf j).toNat)
      case atStart => exact ⟨0, Nat.zero_le _, rfl, HO.out, HB.out⟩
      case round =>
        obtain ⟨j, hj, rfl, hown, hb⟩ := hrel
        have HO2 := Lib.hid hown
        have HB2 := Lib.hid hb
        have hcl2 := bcell1 hb HCL.out
        by_cases hlt2 : j < n'
        · obtain ⟨d1, a1, a2, a3, a4⟩ := HED.out.below hb
          obtain ⟨g1, o1, hA1, hB1, hc1⟩ := a4 (by omega)
          subst hA1
          obtain ⟨x, hx⟩ : ∃ x, d1[j]? = some x := ⟨d1[j]'(by omega), List.getElem?_eq_getElem _⟩
          obtain ⟨p, hp⟩ : ∃ p, L[j]? = some p := ⟨L[j]'(by omega), List.getElem?_eq_getElem _⟩
          obtain ⟨x1, x2, x3, x4⟩ := a3 j x p hx hp
          have r0 : wr.cell? ⟨g1, o1 + j * 9, none⟩ = some (.string p.1.1) := by have h9 := hc1 j x hx 0 _ rfl; rw [x1, ← Nat.add_assoc] at h9; exact h9
          have r1 : wr.cell? ⟨g1, o1 + j * 9 + 1, none⟩ = some (.string p.1.2) := by have h9 := hc1 j x hx 1 _ rfl; rw [x1, ← Nat.add_assoc] at h9; exact h9
          have r2 : wr.cell? ⟨g1, o1 + j * 9 + 2, none⟩ = some (.int .u64 (natHi x.calls)) := by have h9 := hc1 j x hx 2 _ rfl; rw [← Nat.add_assoc] at h9; exact h9
          have r3 : wr.cell? ⟨g1, o1 + j * 9 + 3, none⟩ = some (.int .u64 (natLo x.calls)) := by have h9 := hc1 j x hx 3 _ rfl; rw [← Nat.add_assoc] at h9; exact h9
          have r4 : wr.cell? ⟨g1, o1 + j * 9 + 4, none⟩ = some (.int .u64 (natHi x.errors)) := by have h9 := hc1 j x hx 4 _ rfl; rw [← Nat.add_assoc] at h9; exact h9
          have r5 : wr.cell? ⟨g1, o1 + j * 9 + 5, none⟩ = some (.int .u64 (natLo x.errors)) := by have h9 := hc1 j x hx 5 _ rfl; rw [← Nat.add_assoc] at h9; exact h9
          have r6 : wr.cell? ⟨g1, o1 + j * 9 + 6, none⟩ = some (.int .u64 (natHi x.took)) := by have h9 := hc1 j x hx 6 _ rfl; rw [← Nat.add_assoc] at h9; exact h9
          have r7 : wr.cell? ⟨g1, o1 + j * 9 + 7, none⟩ = some (.int .u64 (natLo x.took)) := by have h9 := hc1 j x hx 7 _ rfl; rw [← Nat.add_assoc] at h9; exact h9
          have r8 : wr.cell? ⟨g1, o1 + j * 9 + 8, none⟩ = some (.slice x.A x.n x.c) := by have h9 := hc1 j x hx 8 _ rfl; rw [← Nat.add_assoc] at h9; exact h9
          have hpm := List.mem_of_getElem? hp
          have hrs : Rises (sumT (sumT [] (Ls.take k).flatten) (L.take j)) := sumT_rises _ (sumT_rises _ (by simp [Rises]))
          have hkk : ∀ q ∈ sumT (sumT [] (Ls.take k).flatten) (L.take j), q.2.Ok := sumT_ok (sumT_ok (by intro q hq; cases hq) (HOK2.out k)) fun q hq => HLO.out q (List.mem_of_mem_take hq)
          have hee : ∀ q ∈ sumT (sumT [] (Ls.take k).flatten) (L.take j), q.1 ∈ S := sumT_edges (sumT_edges (by intro q hq; cases hq) (HS2.out k)) fun q hq => HLS.out q (List.mem_of_mem_take hq)
          have hfew := rises_few hrs hee
          have HWT := Lib.hid (with_any w wr.drew _ _ p.1 x.val p.2 (bdrew hb) (hown.below (bdrew (brefl _))) hrs hkk x2 (x3.below (bdrew (brefl _))) (HLO.out p hpm) (by omega))
          unfold ETV.val talVal edgeVal at HWT
          have HTK := Lib.hid (show sumT (sumT [] (Ls.take k).flatten) (L.take (j + 1)) = withT (sumT (sumT [] (Ls.take k).flatten) (L.take j)) p.1 p.2 by
            rw [List.take_add_one, hp, sumT_append]
            rfl)
          clear a1 a2 a3 a4 hc1 hx hp x1 x2 x3 x4 hpm hrs hkk hee hfew hown hb hB1
          go_wp2_with fail
          refine wp_region_still_tail 17 (by kernel_rfl) (by kernel_rfl) ?_
          change wpStill _ _ wr.drew (fun a' => wpList _ _ _ _ a' wr.drew) _ _
          simp only [List.take_succ_cons, List.take_zero, List.drop_succ_cons, List.drop_zero]
          repeat still_step
          refine wpStill_nil ?_
          go_wp2_with fail
          refine HWT.out.mono ?_
          rintro en w2 ⟨v', rfl, hown2, hb2⟩
          have HO3 := Lib.hid hown2
          have HB3 := Lib.hid hb2
          clear hown2 hb2 HWT
          go_wp2_with fail
          go_roundw
          case rel => exact ⟨j + 1, by omega, by go_num, by rw [HTK.out]; exact HO3.out, HB3.out⟩
          case measure => simp [intOf]; omega
        · have hjl : j = L.length := by omega
          have HJ := Lib.hid hjl
          clear hown hb hjl
          go_wp2_with fail
          go_roundw
          case rel => exact ⟨k + 1, by omega, by go_num, by
            have h9 := HO2.out
            rw [HJ.out, List.take_length, ← sumT_append] at h9
            rw [List.take_add_one, HL.out, List.flatten_append]
            simpa using h9, HB2.out⟩
          case measure => simp [intOf]; omega
    · have hkn : k = Ls.length := by omega
      have HKN := Lib.hid hkn
      clear hown hb hkn
      go_wp2_with fail
      go_ret
      exact ⟨_, rfl, by have h9 := HO.out; rw [HKN.out, List.take_length] at h9; exact h9, HB.out⟩
end Go.Proofs.Ytjfeeampcgmngaa
