/- PROVED HERE: Rows.RollupOrderSaid: for every input the law RollupOrder answers true, and its arguments read behind the call as they read before. No condition. -/
import Derived.Test.YtjfeeampcgmngaaLaw1
import Derived.ProofKit
import Derived.SizedLaws
import Derived.Deep.Slices
import Derived.Deep.Strs
import Derived.Test.YtjfeeampcgmngaaRows
namespace Go.Proofs.Ytjfeeampcgmngaa
open Go.RowKit Go.Shelf Go.Maps

theorem putInfo : (Try.prog.info? 48).map (fun i => (i.zero, i.size, i.bytes)) = some (some (.agg #[.int .i64 0, .string ByteArray.empty, .string ByteArray.empty, .int .u64 0, .int .u64 0, .int .u64 0, .int .u64 0, .int .u64 0, .int .u64 0, .slice none 0 0]), 10, 112) := by kernel_rfl

/-! ### the list turned round -/
def pvCells (l : List (RPut × SL)) : List Value := l.flatMap fun q => putCell q.1 q.2
theorem pvCells_append (l m : List (RPut × SL)) : pvCells (l ++ m) = pvCells l ++ pvCells m := by unfold pvCells; rw [List.flatMap_append]
theorem putCell_length (p : RPut) (x : SL) : (putCell p x).length = 10 := rfl
theorem pvCells_get : ∀ (l : List (RPut × SL)) (i : Nat) (q : RPut × SL), l[i]? = some q → ∀ j, j < 10 → (pvCells l)[i * 10 + j]? = (putCell q.1 q.2)[j]?
  | [], i, x, h, _, _ => by simp at h
  | y :: l, 0, x, h, j, hj => by
    simp at h
    subst h
    show (putCell y.1 y.2 ++ pvCells l)[0 * 10 + j]? = _
    rw [Nat.zero_mul, Nat.zero_add, List.getElem?_append_left (by rw [putCell_length]; exact hj)]
  | y :: l, i + 1, x, h, j, hj => by
    show (putCell y.1 y.2 ++ pvCells l)[(i + 1) * 10 + j]? = _
    rw [List.getElem?_append_right (by rw [putCell_length]; omega), putCell_length, show (i + 1) * 10 + j - 10 = i * 10 + j by omega]
    exact pvCells_get l i x (by simpa using h) j hj
/-- A row of puts of one's own. -/
theorem puts_of_own {w : World} {base n : Nat} {v : Value} {qs : List (RPut × SL)} (h : w.ownsRow base 48 10 v n (pvCells qs)) (hn : n = qs.length) (hnum : ∀ q ∈ qs, q.1.t.Num ∧ EdgeOk q.1.e) (ht : ∀ q ∈ qs, TalAt w (talVal q.1.t.calls q.1.t.errors q.1.t.took (.slice q.2.1 q.2.2.1 q.2.2.2)) q.1.t) :
    ∃ A c, v = .slice A n c ∧ n ≤ c ∧ PutsAt w A n (qs.map (·.1)) := by
  have hp1 : ∀ p ∈ qs.map (·.1), p.t.Num ∧ EdgeOk p.e := fun p hp => by
    obtain ⟨q, hq, rfl⟩ := List.mem_map.1 hp
    exact hnum q hq
  have hget : ∀ (i : Nat) (p : RPut) (x : SL), (qs.map (·.1))[i]? = some p → (qs.map (·.2))[i]? = some x → ∃ q, qs[i]? = some q ∧ q.1 = p ∧ q.2 = x := fun i p x hp hx => by
    rw [List.getElem?_map] at hp hx
    cases hq : qs[i]? with
    | none => rw [hq] at hp; cases hp
    | some q =>
      rw [hq] at hp hx
      exact ⟨q, rfl, by simpa using hp, by simpa using hx⟩
  have hp2 : ∀ (i : Nat) (p : RPut) (x : SL), (qs.map (·.1))[i]? = some p → (qs.map (·.2))[i]? = some x → TalAt w (talVal p.t.calls p.t.errors p.t.took (.slice x.1 x.2.1 x.2.2)) p.t := fun i p x hp hx => by
    obtain ⟨q, hq, rfl, rfl⟩ := hget i p x hp hx
    exact ht q (List.mem_of_getElem? hq)
  rcases h.2 with ⟨rfl, h0⟩ | ⟨g, cap, cur, rfl, hb, hh, hnc, hcm, hcs, hcur⟩
  · rw [h0]
    exact ⟨none, 0, rfl, Nat.le_refl _, by simp; omega, hp1, qs.map (·.2), by simp, hp2, fun hn => absurd hn (by omega)⟩
  · refine ⟨some ⟨g, 0, none⟩, cap, rfl, hnc, by simp [hn], hp1, qs.map (·.2), by simp, hp2, fun _ => ⟨g, 0, rfl, fun i p x hp hx j u hu => ?_⟩⟩
    obtain ⟨q, hq, rfl, rfl⟩ := hget i p x hp hx
    have hj : j < 10 := (List.getElem?_eq_some_iff.1 hu).1
    have hk := pvCells_get qs i q hq j hj
    rw [hu] at hk
    rw [← hcur, List.getElem?_take] at hk
    split at hk
    · simp only [World.cell?, hh, Nat.zero_add]
      simpa using hk
    · cases hk

def TurnLoop (W : World) (qs : List (RPut × SL)) (v i : Value) (wr : World) : Prop :=
  ∃ k m : Nat, k + m = qs.length ∧ i = .int .i64 ((m : Int) - 1) ∧ wr.ownsRow W.heap.size 48 10 v k (pvCells (qs.reverse.take k)) ∧ Below W.heap.size W wr
/-! ### the walk -/
/-- A rollup, and where its maps lie. -/
def RB (w : World) (lo hi r fan : Nat) (M : Cont) : Prop := ∃ m es F, RollAt w r m fan es M F ∧ ∀ q, F q → lo ≤ q ∧ q < hi
theorem RB.below {w w' : World} {lo hi r fan : Nat} {M : Cont} (h : RB w lo hi r fan M) (hb : Below w.heap.size w w') : RB w' lo hi r fan M := by
  obtain ⟨m, es, F, h1, h2⟩ := h
  exact ⟨m, es, F, h1.below hb, h2⟩
theorem RollAt.foot_lt {w : World} {r m fan : Nat} {es : List MapEntry} {M : Cont} {F : Nat → Prop} (h : RollAt w r m fan es M F) {q : Nat} (hq : F q) : q < w.heap.size := by
  obtain ⟨arr, c, h1⟩ := h.maps q hq
  exact (Array.getElem?_eq_some_iff.1 h1).1
theorem RB.mod {w w' : World} {lo hi r fan : Nat} {M : Cont} {G : Nat → Prop} (h : RB w lo hi r fan M) (hm : Mod G w w') (hG : AreMaps G w) (hd : ∀ q, G q → ¬ (lo ≤ q ∧ q < hi)) : RB w' lo hi r fan M := by
  obtain ⟨m, es, F, h1, h2⟩ := h
  exact ⟨m, es, F, h1.mod hm hG (fun q hq hg => hd q hg (h2 q hq)), h2⟩
theorem filled_rb (w : World) (fan : Nat) (A : Option Addr) (n c : Nat) (l : List RPut) (h2 : 2 ≤ fan) (h16 : fan ≤ 16) (hl : PutsAt w A n l) (hn : n ≤ 140737488351232) :
    Calls Try.prog 6 #[.int .i64 fan, .slice A n c] w fun en w' => ∃ r, en = .returned (.pointer (some ⟨r, 0, none⟩)) ∧ RB w' w.heap.size w'.heap.size r fan (fills l) ∧ Below w.heap.size w w' :=
  (filled_ok w fan A n c l h2 h16 hl hn).mono fun _ _ ⟨r, m, es, F, h1, h2, h3, h4, _⟩ => ⟨r, h1, ⟨m, es, F, h2, fun _ hq => ⟨h3 _ hq, h2.foot_lt hq⟩⟩, h4⟩
/-- What a merge leaves of the merged, and of all others. -/
def MrgLeft (w : World) (lo hi r fan : Nat) (M Mo : Cont) (en : Ending) (w' : World) : Prop :=
  en = .returned (.int .i64 0) ∧ RB w' lo w'.heap.size r fan (fun h e => tadd (M h e) (Mo h e)) ∧ ∃ G, Mod G w w' ∧ AreMaps G w ∧ ∀ q, G q → lo ≤ q ∧ q < hi
theorem merge_rb (w : World) (lo hi r lo2 hi2 o fan : Nat) (M Mo : Cont) (N : Nat) (h : RB w lo hi r fan M) (ho : RB w lo2 hi2 o fan Mo) (hlo : lo ≤ w.heap.size) (hN : N * 112 ≤ 140737488355328) (hf : Few N Mo) :
    Calls Try.prog 12 #[.pointer (some ⟨r, 0, none⟩), .pointer (some ⟨o, 0, none⟩)] w (MrgLeft w lo hi r fan M Mo) := by
  obtain ⟨m, es, F, h1, h2⟩ := h
  obtain ⟨mo, eo, Fo, h3, h4⟩ := ho
  refine (Merge_ok w r m fan es M F o mo eo Mo Fo h1 h3 N hN hf).mono ?_
  rintro en w' ⟨rfl, ⟨es', F', h5, h6⟩, h7⟩
  refine ⟨rfl, ⟨m, es', F', h5, fun q hq => ⟨?_, h5.foot_lt hq⟩⟩, F, h7, h1.maps, h2⟩
  rcases h6 q hq with h8 | h8
  · exact (h2 q h8).1
  · omega
theorem windows_rb (w : World) (lo hi r fan : Nat) (M : Cont) (N : Nat) (h : RB w lo hi r fan M) (h2 : 2 ≤ fan) (h16 : fan ≤ 16) (hN : N * 112 ≤ 140737488355328) (hf : Few N M) :
    Calls Try.prog 9 #[.pointer (some ⟨r, 0, none⟩), .int .i64 0] w (WindowsPost w M 1) := by
  obtain ⟨m, es, F, h1, _⟩ := h
  have := Windows_ok w r m fan 0 es M F h1 h2 h16 (.inl rfl) (by omega) N hN hf
  rw [Nat.pow_zero] at this
  exact this
theorem same_wins (w : World) (M : Cont) (N : Nat) (A A' : Option Addr) (n n' c c' B B' : Nat) (L L' : List WT) (h : WinsAt B w A n L) (h' : WinsAt B' w A' n' L') (ht : WinsTell M 1 L) (ht' : WinsTell M 1 L') (hN : N * 112 ≤ 140737488355328) (hf : Few N M) :
    Calls Try.prog 13 #[.slice A n c, .slice A' n' c'] w fun e w' => e = .returned (.bool true) ∧ Below w.heap.size w w' := by
  have e := ht.unique ht' (by omega)
  subst e
  refine SameWindows_eq w A A' n n' c c' B B' L h h' ?_ fun p hp => ?_
  · have := ht.few
    have := h.len
    unfold limit at *
    omega
  · have := ht.edges_few hf p hp
    omega
theorem PutsAt.map {w : World} {A : Option Addr} {n k : Nat} {l : List RPut} (h : PutsAt w A n l) (hk : k ≤ n) : PutsAt w (A.map fun x => x.add (k * 10)) (n - k) (l.drop k) := by
  rcases Nat.eq_zero_or_pos n with h0 | h0
  · have hl : l = [] := List.length_eq_zero_iff.1 (by rw [← h.1, h0])
    have := h.none_ (A' := A.map fun x => x.add (k * 10)) h0
    rw [hl, List.drop_nil, show n - k = 0 by omega]
    exact this
  · obtain ⟨b, off, rfl⟩ : ∃ b off, A = some ⟨b, off, none⟩ := by
      obtain ⟨_, _, d, _, _, hex⟩ := h
      obtain ⟨b, off, e, _⟩ := hex h0
      exact ⟨b, off, e⟩
    rcases Nat.eq_zero_or_pos k with hk0 | hk0
    · subst hk0
      simpa [Addr.add] using h
    · have e : (Addr.add ⟨b, off, none⟩ (k * 10)) = ⟨b, off + k * 10, none⟩ := by unfold Addr.add; rw [if_neg (by omega)]
      show PutsAt w (some (Addr.add ⟨b, off, none⟩ (k * 10))) _ _
      rw [e]
      exact h.drop hk
theorem PutsAt.end_ {w : World} {A : Option Addr} {n k : Nat} {l : List RPut} (h : PutsAt w A n l) (hk : k ≤ n) (hn : n ≤ k) : PutsAt w A (n - k) (l.drop k) := by
  have h1 : PutsAt w A 0 [] := (h.map hk).none_ (by omega)
  have e : l.drop k = [] := List.drop_eq_nil_of_le (by rw [← h.1]; exact hn)
  rw [e, show n - k = 0 by omega]
  exact h1
theorem Few.mono {N N' : Nat} {M : Cont} (h : Few N M) (hN : N ≤ N') : Few N' M := by
  obtain ⟨S, h1, h2⟩ := h
  exact ⟨S, by omega, h2⟩
theorem few_take {l : List RPut} {n : Nat} (h : ∀ p ∈ l, p.t.Num) (k : Nat) (hn : l.length ≤ n) : Few n (fills (l.take k)) :=
  Few.mono (fills_few fun p hp => h p (List.mem_of_mem_take hp)) (by rw [List.length_take]; omega)
theorem few_drop {l : List RPut} {n : Nat} (h : ∀ p ∈ l, p.t.Num) (k : Nat) (hn : l.length ≤ n) : Few n (fills (l.drop k)) :=
  Few.mono (fills_few fun p hp => h p (List.mem_of_mem_drop hp)) (by rw [List.length_drop]; omega)
theorem fills_split {l : List RPut} (h : ∀ p ∈ l, p.t.Num) (k : Nat) : (fun hr e => tadd (fills (l.take k) hr e) (fills (l.drop k) hr e)) = fills l := by
  funext hr e
  rw [← fills_append (fun p hp => h p (List.mem_of_mem_take hp)) (fun p hp => h p (List.mem_of_mem_drop hp)), List.take_append_drop]
theorem fills_split' {l : List RPut} (h : ∀ p ∈ l, p.t.Num) (k : Nat) : (fun hr e => tadd (fills (l.drop k) hr e) (fills (l.take k) hr e)) = fills l := by
  rw [← fills_split h k]
  funext hr e
  exact tadd_comm _ _
theorem rb_eq {w : World} {lo hi r fan : Nat} {M M' : Cont} (h : RB w lo hi r fan M) (e : M = M') : RB w lo hi r fan M' := e ▸ h
def OrderPost (w : World) (en : Ending) (w' : World) : Prop := en = .returned (.bool true) ∧ Below w.heap.size w w'

set_option maxRecDepth 100000 in
set_option maxHeartbeats 1000000 in
theorem Order_bad (w : World) (fan : Int) (A : Option Addr) (n c : Nat) (at_ : Int) (h : fan < 2 ∨ 16 < fan) :
    Calls Try.prog 4 #[.int .i64 fan, .slice A n c, .int .i64 at_] w (OrderPost w) := by
  have HAL := Lib.hid (alive_any w)
  have HFI := Lib.hid (fun w' => filled_bad w' fan (.slice A n c) ⟨A, n, c, rfl⟩ h)
  by_cases g1 : fan < 2
  · clear h
    go_enter Try.func4, Try.ntmps4
    go_wp2_with fail
    refine HAL.out.mono ?_
    rintro en w1 ⟨rfl, hb⟩
    have HB := Lib.hid hb
    clear hb HAL
    go_wp2_with fail
    refine (HFI.out w1).mono ?_
    rintro en w2 ⟨rfl, rfl⟩
    go_wp2_with fail
    go_ret
    exact ⟨rfl, HB.out⟩
  · have g2 : 16 < fan := by omega
    clear h
    go_enter Try.func4, Try.ntmps4
    go_wp2_with fail
    refine HAL.out.mono ?_
    rintro en w1 ⟨rfl, hb⟩
    have HB := Lib.hid hb
    clear hb HAL
    go_wp2_with fail
    refine (HFI.out w1).mono ?_
    rintro en w2 ⟨rfl, rfl⟩
    go_wp2_with fail
    go_ret
    exact ⟨rfl, HB.out⟩

set_option maxRecDepth 100000 in
set_option maxHeartbeats 4000000 in
theorem Order_in (w : World) (fan : Nat) (A : Option Addr) (n c : Nat) (l : List RPut) (at_ : Int) (h2 : 2 ≤ fan) (h16 : fan ≤ 16) (hl : PutsAt w A n l) (hn : n * 112 ≤ 140737488355328) (hnc : n ≤ c) (k9 : Nat) (hat : at_ = k9) (hk9 : k9 ≤ n) :
    Calls Try.prog 4 #[.int .i64 fan, .slice A n c, .int .i64 at_] w (OrderPost w) := by
  subst hat
  obtain ⟨i0, hi0, hz0, hz1, hz2⟩ := info_parts putInfo
  have HAL := Lib.hid (alive_any w)
  have H2 := Lib.hid h2
  have H16 := Lib.hid h16
  have HL := Lib.hid hl
  have HLN := Lib.hid hl.1
  have HFEW := Lib.hid (fills_few (fun p hp => (hl.2.1 p hp).1))
  have HFEW' := Lib.hid (Few.mono (fills_few (fun p hp => (hl.2.1 p hp).1)) (show l.length ≤ n by rw [hl.1]; exact Nat.le_refl _))
  have HNUM := Lib.hid (show ∀ p ∈ l, p.t.Num from fun p hp => (hl.2.1 p hp).1)
  have hn1 : n ≤ l.length := by rw [hl.1]; exact Nat.le_refl _
  have hn2 : l.length ≤ n := by rw [hl.1]; exact Nat.le_refl _
  have hn3 : n ≤ 140737488351232 := by omega
  have g1 : ¬ ((fan : Int) < 2) := by omega
  have g2 : ¬ (16 < (fan : Int)) := by omega
  have HFI := Lib.hid (fun w' (hb : Below w.heap.size w w') => filled_rb w' fan A n c l h2 h16 (hl.below hb) hn3)
  clear hl h2 h16
  go_enter Try.func4, Try.ntmps4
  go_wp2_with fail
  refine HAL.out.mono ?_
  rintro en w1 ⟨rfl, hb⟩
  have HB1 := Lib.hid hb
  clear hb HAL
  go_wp2_with fail
  refine (HFI.out w1 HB1.out).mono ?_
  rintro en w2 ⟨r, rfl, hr, hb⟩
  have HR2 := Lib.hid hr
  have HB2 := Lib.hid (btrans HB1.out hb)
  have hz12 := hb.size
  clear hr hb HFI
  go_wp2_with fail
  -- the list turned round
  obtain ⟨x1, x2, d, hd, htt, hex⟩ := HL.out.below HB2.out
  obtain ⟨qs, hqs⟩ : ∃ qs, qs = l.zip d := ⟨_, rfl⟩
  have hq1 : qs.map (·.1) = l := by rw [hqs]; exact List.map_fst_zip (by omega)
  have hql : qs.length = l.length := by rw [hqs, List.length_zip]; omega
  have hqg : ∀ (i : Nat) (q : RPut × SL), qs[i]? = some q → l[i]? = some q.1 ∧ d[i]? = some q.2 := fun i q hq => by
    rw [hqs, List.getElem?_zip_eq_some] at hq
    exact hq
  have HQ1 := Lib.hid hq1
  have HQN := Lib.hid (show ∀ q ∈ qs, q.1.t.Num ∧ EdgeOk q.1.e from fun q hq => x2 _ (by rw [← hq1]; exact List.mem_map.2 ⟨q, hq, rfl⟩))
  have HQT := Lib.hid (show ∀ q ∈ qs, TalAt w2 (talVal q.1.t.calls q.1.t.errors q.1.t.took (.slice q.2.1 q.2.2.1 q.2.2.2)) q.1.t from fun q hq => by
    obtain ⟨i, hi⟩ := List.getElem?_of_mem hq
    exact htt i _ _ (hqg i q hi).1 (hqg i q hi).2)
  have HEX := Lib.hid (show 0 < n → ∃ b off, A = some ⟨b, off, none⟩ ∧ ∀ (i : Nat) (q : RPut × SL), qs[i]? = some q → ∀ (j : Nat) u, (putCell q.1 q.2)[j]? = some u → w2.cell? ⟨b, off + i * 10 + j, none⟩ = some u from fun h0 => by
    obtain ⟨b, off, e, hc⟩ := hex h0
    exact ⟨b, off, e, fun i q hq => hc i _ _ (hqg i q hq).1 (hqg i q hq).2⟩)
  have hqn1 : qs.length ≤ n := by omega
  have hqn2 : n ≤ qs.length := by omega
  clear x1 x2 hd htt hex hqs hq1 hql hqg
  obtain ⟨V, rfl⟩ : ∃ V, V = w2 := ⟨_, rfl⟩
  go_loopw [9, 10] (fun v i wr => TurnLoop V qs v i wr) (fun _ i _ => (intOf i + 1).toNat)
  case atStart => exact ⟨0, n, by omega, by first | rfl | go_num, World.ownsRow_nil _ _ _ _, brefl _⟩
  case round =>
    obtain ⟨k, m, hkm, hi, hown, hb⟩ := hrel
    rcases m with _ | m
    · have hi' := hi.trans (show Value.int .i64 (((0 : Nat) : Int) - 1) = .int .i64 (-1) from rfl)
      subst hi'
      have hkq : k = qs.length := by omega
      have hown1 := hown
      have hkr : k = qs.reverse.length := by rw [List.length_reverse]; exact hkq
      rw [hkr, List.take_length] at hown1
      obtain ⟨TA, tc, hv, htc, hpt⟩ := puts_of_own (qs := qs.reverse) hown1 (by simp) (fun q hq => HQN.out q (List.mem_reverse.1 hq)) (fun q hq => (HQT.out q (List.mem_reverse.1 hq)).below hb)
      subst hv
      have hptl : PutsAt wr TA qs.length l.reverse := by
        rw [List.map_reverse, HQ1.out] at hpt
        simpa using hpt
      have HPT := Lib.hid hptl
      have HB3 := Lib.hid (btrans HB2.out hb)
      have HR3 := Lib.hid (HR2.out.below hb)
      have hz23 := hb.size
      have HQL := Lib.hid (show qs.length = n by omega)
      clear hown hown1 hb hpt hptl hi hkm hkq
      have d1 : ¬ ((k9 : Int) < 0) := by omega
      have d2 : ¬ ((n : Int) < (k9 : Int)) := by omega
      go_wp2_with fail
      refine (filled_rb wr fan TA qs.length tc l.reverse H2.out H16.out HPT.out (by omega)).mono ?_
      rintro en w4 ⟨r4, rfl, hr, hb⟩
      have HR4 := Lib.hid hr
      have HB4 := Lib.hid (btrans HB3.out hb)
      have HR3' := Lib.hid (HR3.out.below hb)
      have HL4 := Lib.hid (HL.out.below HB4.out)
      have hz34 := hb.size
      clear hr hb HPT HL
      go_wp2_with fail
      refine (filled_rb w4 fan A k9 c (l.take k9) H2.out H16.out (HL4.out.take (by omega)) (by omega)).mono ?_
      rintro en w5 ⟨r5, rfl, hr, hb⟩
      have HR5 := Lib.hid hr
      have HB5 := Lib.hid (btrans HB4.out hb)
      have HR3'' := Lib.hid (HR3'.out.below hb)
      have HR4' := Lib.hid (HR4.out.below hb)
      have hz45 := hb.size
      have HL45 := Lib.hid (HL4.out.below hb)
      clear hr hb HR3 HR3' HR4
      go_wp2_with fail
      · have HPD := Lib.hid (fun (W : World) (hb : Below w5.heap.size w5 W) => (HL45.out.below hb).end_ hk9 (by omega))
        refine (filled_rb w5 fan _ (n - k9) _ (l.drop k9) H2.out H16.out (HPD.out w5 (brefl _)) (by omega)).mono ?_
        rintro en w6 ⟨r6, rfl, hr, hb⟩
        have HR6 := Lib.hid hr
        have HB6 := Lib.hid (btrans HB5.out hb)
        have HB56 := Lib.hid hb
        have HR3a := Lib.hid (HR3''.out.below hb)
        have HR4a := Lib.hid (HR4'.out.below hb)
        have HR5a := Lib.hid (HR5.out.below hb)
        have hz56 := hb.size
        clear hr hb HR3'' HR4' HR5
        go_wp2_with fail
        refine (filled_rb w6 fan _ (n - k9) _ (l.drop k9) H2.out H16.out (HPD.out w6 HB56.out) (by omega)).mono ?_
        rintro en w7 ⟨r7, rfl, hr, hb⟩
        have HR7 := Lib.hid hr
        have HB7 := Lib.hid (btrans HB6.out hb)
        have HR3b := Lib.hid (HR3a.out.below hb)
        have HR4b := Lib.hid (HR4a.out.below hb)
        have HR5b := Lib.hid (HR5a.out.below hb)
        have HR6b := Lib.hid (HR6.out.below hb)
        have hz67 := hb.size
        clear hr hb HR3a HR4a HR5a HR6
        go_wp2_with fail
        refine (merge_rb w7 _ _ r6 _ _ r5 fan _ _ n HR6b.out HR5b.out (by omega) (by omega) (few_take HNUM.out k9 (by omega))).mono ?_
        rintro en w8 ⟨rfl, hr, G, hm, hG, hGr⟩
        have HM8 := Lib.hid hm
        have HG8 := Lib.hid hr
        have HB8 := Lib.hid (Mod.toBelow HB7.out hm fun q hq => by have := hGr q hq; have := HB1.out.size; omega)
        have HR3c := Lib.hid (HR3b.out.mod hm hG fun q hq hr => by have := hGr q hq; omega)
        have HR4c := Lib.hid (HR4b.out.mod hm hG fun q hq hr => by have := hGr q hq; omega)
        have HR5c := Lib.hid (HR5b.out.mod hm hG fun q hq hr => by have := hGr q hq; omega)
        have HR7c := Lib.hid (HR7.out.mod hm hG fun q hq hr => by have := hGr q hq; omega)
        have hz78 := hm.size
        clear hr hm hG hGr HR3b HR4b HR5b HR6b HR7 HM8
        go_wp2_with fail
        refine (merge_rb w8 _ _ r5 _ _ r7 fan _ _ n HR5c.out HR7c.out (by omega) (by omega) (few_drop HNUM.out k9 (by omega))).mono ?_
        rintro en w9 ⟨rfl, hr, G', hm, hG, hGr⟩
        have HR5d := Lib.hid hr
        have HB9 := Lib.hid (Mod.toBelow HB8.out hm fun q hq => by have := hGr q hq; have := HB1.out.size; omega)
        have HR3d := Lib.hid (HR3c.out.mod hm hG fun q hq hr => by have := hGr q hq; omega)
        have HR4d := Lib.hid (HR4c.out.mod hm hG fun q hq hr => by have := hGr q hq; omega)
        have HG8d := Lib.hid (HG8.out.mod hm hG fun q hq hr => by have := hGr q hq; omega)
        have hz89 := hm.size
        clear hr hm hG hGr HR3c HR4c HR5c HG8 HR7c
        have HR4e := Lib.hid (rb_eq HR4d.out (fills_perm (fun p hp => HNUM.out p (List.mem_reverse.1 hp)) (List.reverse_perm l)))
        have HR5e := Lib.hid (rb_eq HR5d.out (fills_split HNUM.out k9))
        have HG8e := Lib.hid (rb_eq HG8d.out (fills_split' HNUM.out k9))
        clear HR4d HR5d HG8d
        go_wp2_with fail
        refine (windows_rb w9 _ _ r fan _ n HR3d.out H2.out H16.out (by omega) HFEW'.out).mono ?_
        rintro en W1 ⟨B1, m1, c1, L1, rfl, hmc, ha, ht, hb⟩
        have HA1 := Lib.hid ha
        have HT1 := Lib.hid ht
        have HBw1 := Lib.hid hb
        have HBv1 := Lib.hid (btrans HB9.out hb)
        replace HR4e := Lib.hid (HR4e.out.below hb)
        replace HR5e := Lib.hid (HR5e.out.below hb)
        replace HG8e := Lib.hid (HG8e.out.below hb)
        clear ha ht hb hmc
        go_wp2_with fail
        refine (windows_rb W1 _ _ r4 fan _ n HR4e.out H2.out H16.out (by omega) HFEW'.out).mono ?_
        rintro en W2 ⟨B2, m2, c2, L2, rfl, hmc, ha, ht, hb⟩
        have HA2 := Lib.hid ha
        have HT2 := Lib.hid ht
        have HBw2 := Lib.hid hb
        have HBv2 := Lib.hid (btrans HBv1.out hb)
        replace HR5e := Lib.hid (HR5e.out.below hb)
        replace HG8e := Lib.hid (HG8e.out.below hb)
        clear ha ht hb hmc
        go_wp2_with fail
        refine (windows_rb W2 _ _ r5 fan _ n HR5e.out H2.out H16.out (by omega) HFEW'.out).mono ?_
        rintro en W3 ⟨B3, m3, c3, L3, rfl, hmc, ha, ht, hb⟩
        have HA3 := Lib.hid ha
        have HT3 := Lib.hid ht
        have HBw3 := Lib.hid hb
        have HBv3 := Lib.hid (btrans HBv2.out hb)
        replace HG8e := Lib.hid (HG8e.out.below hb)
        clear ha ht hb hmc
        go_wp2_with fail
        refine (windows_rb W3 _ _ r6 fan _ n HG8e.out H2.out H16.out (by omega) HFEW'.out).mono ?_
        rintro en W4 ⟨B4, m4, c4, L4, rfl, hmc, ha, ht, hb⟩
        have HA4 := Lib.hid ha
        have HT4 := Lib.hid ht
        have HBw4 := Lib.hid hb
        have HBv4 := Lib.hid (btrans HBv3.out hb)
        clear ha ht hb hmc
        go_wp2_with fail
        have e1 := Lib.hid (HA1.out.below (btrans HBw2.out (btrans HBw3.out HBw4.out)))
        have e2 := Lib.hid (HA2.out.below (btrans HBw3.out HBw4.out))
        have e3 := Lib.hid (HA3.out.below HBw4.out)
        refine (same_wins W4 _ n _ _ _ _ _ _ _ _ _ _ e1.out e2.out HT1.out HT2.out (by omega) HFEW'.out).mono ?_
        rintro en w10 ⟨rfl, hb⟩
        have HB10 := Lib.hid hb
        clear hb
        go_wp2_with fail
        refine (same_wins w10 _ n _ _ _ _ _ _ _ _ _ _ (e1.out.below HB10.out) (e3.out.below HB10.out) HT1.out HT3.out (by omega) HFEW'.out).mono ?_
        rintro en w11 ⟨rfl, hb⟩
        have HB11 := Lib.hid (btrans HB10.out hb)
        clear hb
        go_wp2_with fail
        refine (same_wins w11 _ n _ _ _ _ _ _ _ _ _ _ (e1.out.below HB11.out) (HA4.out.below HB11.out) HT1.out HT4.out (by omega) HFEW'.out).mono ?_
        rintro en w12 ⟨rfl, hb⟩
        have HB12 := Lib.hid (btrans HB11.out hb)
        clear hb
        go_wp2_with fail
        go_ret
        exact ⟨rfl, btrans HBv4.out HB12.out⟩
      · have HPD := Lib.hid (fun (W : World) (hb : Below w5.heap.size w5 W) => (HL45.out.below hb).map hk9)
        refine (filled_rb w5 fan _ (n - k9) _ (l.drop k9) H2.out H16.out (HPD.out w5 (brefl _)) (by omega)).mono ?_
        rintro en w6 ⟨r6, rfl, hr, hb⟩
        have HR6 := Lib.hid hr
        have HB6 := Lib.hid (btrans HB5.out hb)
        have HB56 := Lib.hid hb
        have HR3a := Lib.hid (HR3''.out.below hb)
        have HR4a := Lib.hid (HR4'.out.below hb)
        have HR5a := Lib.hid (HR5.out.below hb)
        have hz56 := hb.size
        clear hr hb HR3'' HR4' HR5
        go_wp2_with fail
        refine (filled_rb w6 fan _ (n - k9) _ (l.drop k9) H2.out H16.out (HPD.out w6 HB56.out) (by omega)).mono ?_
        rintro en w7 ⟨r7, rfl, hr, hb⟩
        have HR7 := Lib.hid hr
        have HB7 := Lib.hid (btrans HB6.out hb)
        have HR3b := Lib.hid (HR3a.out.below hb)
        have HR4b := Lib.hid (HR4a.out.below hb)
        have HR5b := Lib.hid (HR5a.out.below hb)
        have HR6b := Lib.hid (HR6.out.below hb)
        have hz67 := hb.size
        clear hr hb HR3a HR4a HR5a HR6
        go_wp2_with fail
        refine (merge_rb w7 _ _ r6 _ _ r5 fan _ _ n HR6b.out HR5b.out (by omega) (by omega) (few_take HNUM.out k9 (by omega))).mono ?_
        rintro en w8 ⟨rfl, hr, G, hm, hG, hGr⟩
        have HM8 := Lib.hid hm
        have HG8 := Lib.hid hr
        have HB8 := Lib.hid (Mod.toBelow HB7.out hm fun q hq => by have := hGr q hq; have := HB1.out.size; omega)
        have HR3c := Lib.hid (HR3b.out.mod hm hG fun q hq hr => by have := hGr q hq; omega)
        have HR4c := Lib.hid (HR4b.out.mod hm hG fun q hq hr => by have := hGr q hq; omega)
        have HR5c := Lib.hid (HR5b.out.mod hm hG fun q hq hr => by have := hGr q hq; omega)
        have HR7c := Lib.hid (HR7.out.mod hm hG fun q hq hr => by have := hGr q hq; omega)
        have hz78 := hm.size
        clear hr hm hG hGr HR3b HR4b HR5b HR6b HR7 HM8
        go_wp2_with fail
        refine (merge_rb w8 _ _ r5 _ _ r7 fan _ _ n HR5c.out HR7c.out (by omega) (by omega) (few_drop HNUM.out k9 (by omega))).mono ?_
        rintro en w9 ⟨rfl, hr, G', hm, hG, hGr⟩
        have HR5d := Lib.hid hr
        have HB9 := Lib.hid (Mod.toBelow HB8.out hm fun q hq => by have := hGr q hq; have := HB1.out.size; omega)
        have HR3d := Lib.hid (HR3c.out.mod hm hG fun q hq hr => by have := hGr q hq; omega)
        have HR4d := Lib.hid (HR4c.out.mod hm hG fun q hq hr => by have := hGr q hq; omega)
        have HG8d := Lib.hid (HG8.out.mod hm hG fun q hq hr => by have := hGr q hq; omega)
        have hz89 := hm.size
        clear hr hm hG hGr HR3c HR4c HR5c HG8 HR7c
        have HR4e := Lib.hid (rb_eq HR4d.out (fills_perm (fun p hp => HNUM.out p (List.mem_reverse.1 hp)) (List.reverse_perm l)))
        have HR5e := Lib.hid (rb_eq HR5d.out (fills_split HNUM.out k9))
        have HG8e := Lib.hid (rb_eq HG8d.out (fills_split' HNUM.out k9))
        clear HR4d HR5d HG8d
        go_wp2_with fail
        refine (windows_rb w9 _ _ r fan _ n HR3d.out H2.out H16.out (by omega) HFEW'.out).mono ?_
        rintro en W1 ⟨B1, m1, c1, L1, rfl, hmc, ha, ht, hb⟩
        have HA1 := Lib.hid ha
        have HT1 := Lib.hid ht
        have HBw1 := Lib.hid hb
        have HBv1 := Lib.hid (btrans HB9.out hb)
        replace HR4e := Lib.hid (HR4e.out.below hb)
        replace HR5e := Lib.hid (HR5e.out.below hb)
        replace HG8e := Lib.hid (HG8e.out.below hb)
        clear ha ht hb hmc
        go_wp2_with fail
        refine (windows_rb W1 _ _ r4 fan _ n HR4e.out H2.out H16.out (by omega) HFEW'.out).mono ?_
        rintro en W2 ⟨B2, m2, c2, L2, rfl, hmc, ha, ht, hb⟩
        have HA2 := Lib.hid ha
        have HT2 := Lib.hid ht
        have HBw2 := Lib.hid hb
        have HBv2 := Lib.hid (btrans HBv1.out hb)
        replace HR5e := Lib.hid (HR5e.out.below hb)
        replace HG8e := Lib.hid (HG8e.out.below hb)
        clear ha ht hb hmc
        go_wp2_with fail
        refine (windows_rb W2 _ _ r5 fan _ n HR5e.out H2.out H16.out (by omega) HFEW'.out).mono ?_
        rintro en W3 ⟨B3, m3, c3, L3, rfl, hmc, ha, ht, hb⟩
        have HA3 := Lib.hid ha
        have HT3 := Lib.hid ht
        have HBw3 := Lib.hid hb
        have HBv3 := Lib.hid (btrans HBv2.out hb)
        replace HG8e := Lib.hid (HG8e.out.below hb)
        clear ha ht hb hmc
        go_wp2_with fail
        refine (windows_rb W3 _ _ r6 fan _ n HG8e.out H2.out H16.out (by omega) HFEW'.out).mono ?_
        rintro en W4 ⟨B4, m4, c4, L4, rfl, hmc, ha, ht, hb⟩
        have HA4 := Lib.hid ha
        have HT4 := Lib.hid ht
        have HBw4 := Lib.hid hb
        have HBv4 := Lib.hid (btrans HBv3.out hb)
        clear ha ht hb hmc
        go_wp2_with fail
        have e1 := Lib.hid (HA1.out.below (btrans HBw2.out (btrans HBw3.out HBw4.out)))
        have e2 := Lib.hid (HA2.out.below (btrans HBw3.out HBw4.out))
        have e3 := Lib.hid (HA3.out.below HBw4.out)
        refine (same_wins W4 _ n _ _ _ _ _ _ _ _ _ _ e1.out e2.out HT1.out HT2.out (by omega) HFEW'.out).mono ?_
        rintro en w10 ⟨rfl, hb⟩
        have HB10 := Lib.hid hb
        clear hb
        go_wp2_with fail
        refine (same_wins w10 _ n _ _ _ _ _ _ _ _ _ _ (e1.out.below HB10.out) (e3.out.below HB10.out) HT1.out HT3.out (by omega) HFEW'.out).mono ?_
        rintro en w11 ⟨rfl, hb⟩
        have HB11 := Lib.hid (btrans HB10.out hb)
        clear hb
        go_wp2_with fail
        refine (same_wins w11 _ n _ _ _ _ _ _ _ _ _ _ (e1.out.below HB11.out) (HA4.out.below HB11.out) HT1.out HT4.out (by omega) HFEW'.out).mono ?_
        rintro en w12 ⟨rfl, hb⟩
        have HB12 := Lib.hid (btrans HB11.out hb)
        clear hb
        go_wp2_with fail
        go_ret
        exact ⟨rfl, btrans HBv4.out HB12.out⟩

    · have hi' := hi.trans (show Value.int .i64 (((m + 1 : Nat) : Int) - 1) = .int .i64 (m : Nat) from by congr 1; omega)
      subst hi'
      have hmn : m < n := by omega
      obtain ⟨b, off, hA, hc⟩ := HEX.out (by omega)
      subst hA
      obtain ⟨q, hq⟩ : ∃ q, qs[m]? = some q := ⟨qs[m]'(by omega), List.getElem?_eq_getElem _⟩
      have hcell := hc m q hq
      have HQ := Lib.hid hq
      have HO := Lib.hid hown
      have HB3 := Lib.hid hb
      have r0 : wr.cell? ⟨b, off + m * 10, none⟩ = some (.int .i64 q.1.hour) := bcell1 hb (hcell 0 _ rfl)
      have r1 : wr.cell? ⟨b, off + m * 10 + 1, none⟩ = some (.string q.1.e.1) := bcell1 hb (hcell 1 _ rfl)
      have r2 : wr.cell? ⟨b, off + m * 10 + 2, none⟩ = some (.string q.1.e.2) := bcell1 hb (hcell 2 _ rfl)
      have r3 : wr.cell? ⟨b, off + m * 10 + 3, none⟩ = some (.int .u64 (natHi q.1.t.calls)) := bcell1 hb (hcell 3 _ rfl)
      have r4 : wr.cell? ⟨b, off + m * 10 + 4, none⟩ = some (.int .u64 (natLo q.1.t.calls)) := bcell1 hb (hcell 4 _ rfl)
      have r5 : wr.cell? ⟨b, off + m * 10 + 5, none⟩ = some (.int .u64 (natHi q.1.t.errors)) := bcell1 hb (hcell 5 _ rfl)
      have r6 : wr.cell? ⟨b, off + m * 10 + 6, none⟩ = some (.int .u64 (natLo q.1.t.errors)) := bcell1 hb (hcell 6 _ rfl)
      have r7 : wr.cell? ⟨b, off + m * 10 + 7, none⟩ = some (.int .u64 (natHi q.1.t.took)) := bcell1 hb (hcell 7 _ rfl)
      have r8 : wr.cell? ⟨b, off + m * 10 + 8, none⟩ = some (.int .u64 (natLo q.1.t.took)) := bcell1 hb (hcell 8 _ rfl)
      have r9 : wr.cell? ⟨b, off + m * 10 + 9, none⟩ = some (.slice q.2.1 q.2.2.1 q.2.2.2) := bcell1 hb (hcell 9 _ rfl)
      clear hi hown hb hc hcell hq
      go_wp2_with (at_builtin; refine wpList_append_own _ rfl _ _ 22 rfl V.heap.size 48 i0 (.agg #[.int .i64 0, .string ByteArray.empty, .string ByteArray.empty, .int .u64 0, .int .u64 0, .int .u64 0, .int .u64 0, .int .u64 0, .int .u64 0, .slice none 0 0]) 10 112 Try.underlying22 hi0 hz0 hz1 hz2 rfl (by decide) _ _ _ rfl (HO.out.alloc _) ⟨wr.heap.size, 0, none⟩ 1 1 (putCell q.1 q.2) rfl rfl ?c1 ?c2 ?c3 ?c4 ?c5 ?_)
      case c1 => exact fun j u h => cells_new wr (putCell q.1 q.2) 48 j u h
      case c2 => simp [putCell, Value.oneCell']
      case c3 => unfold maxLen; omega
      case c4 => omega
      case c5 => have := HB3.out.size; simp; omega
      intro v' w3 hown3 hgrow _
      have HB4 := Lib.hid (bgrown (bal HB3.out _) hgrow (HO.out.alloc _))
      have HO4 := Lib.hid (show w3.ownsRow V.heap.size 48 10 v' (k + 1) (pvCells (qs.reverse.take (k + 1))) by
        have e : qs.reverse[k]? = some q := by
          rw [List.getElem?_reverse (by omega), show qs.length - 1 - k = m by omega]
          exact HQ.out
        rw [List.take_add_one, e, pvCells_append]
        have e2 : pvCells (some q).toList = putCell q.1 q.2 := by show putCell q.1 q.2 ++ [] = _; simp
        rw [e2]
        exact hown3)
      have hwm : wrap64 ((m : Int) - 1) = (m : Int) - 1 := by unfold wrap64; omega
      clear hown3 hgrow
      go_wp2
      try rw [hwm]
      go_roundw
      case rel => exact ⟨k + 1, m, by omega, rfl, HO4.out, HB4.out⟩
      case measure => simp [intOf] <;> omega

set_option maxRecDepth 100000 in
set_option maxHeartbeats 4000000 in
theorem Order_neg (w : World) (fan : Nat) (A : Option Addr) (n c : Nat) (l : List RPut) (at_ : Int) (h2 : 2 ≤ fan) (h16 : fan ≤ 16) (hl : PutsAt w A n l) (hn : n * 112 ≤ 140737488355328) (hnc : n ≤ c) (hat : at_ < 0) :
    Calls Try.prog 4 #[.int .i64 fan, .slice A n c, .int .i64 at_] w (OrderPost w) := by
  obtain ⟨i0, hi0, hz0, hz1, hz2⟩ := info_parts putInfo
  have HAL := Lib.hid (alive_any w)
  have H2 := Lib.hid h2
  have H16 := Lib.hid h16
  have HL := Lib.hid hl
  have HLN := Lib.hid hl.1
  have HFEW := Lib.hid (fills_few (fun p hp => (hl.2.1 p hp).1))
  have HFEW' := Lib.hid (Few.mono (fills_few (fun p hp => (hl.2.1 p hp).1)) (show l.length ≤ n by rw [hl.1]; exact Nat.le_refl _))
  have HNUM := Lib.hid (show ∀ p ∈ l, p.t.Num from fun p hp => (hl.2.1 p hp).1)
  have hn1 : n ≤ l.length := by rw [hl.1]; exact Nat.le_refl _
  have hn2 : l.length ≤ n := by rw [hl.1]; exact Nat.le_refl _
  have hn3 : n ≤ 140737488351232 := by omega
  have g1 : ¬ ((fan : Int) < 2) := by omega
  have g2 : ¬ (16 < (fan : Int)) := by omega
  have HFI := Lib.hid (fun w' (hb : Below w.heap.size w w') => filled_rb w' fan A n c l h2 h16 (hl.below hb) hn3)
  clear hl h2 h16
  go_enter Try.func4, Try.ntmps4
  go_wp2_with fail
  refine HAL.out.mono ?_
  rintro en w1 ⟨rfl, hb⟩
  have HB1 := Lib.hid hb
  clear hb HAL
  go_wp2_with fail
  refine (HFI.out w1 HB1.out).mono ?_
  rintro en w2 ⟨r, rfl, hr, hb⟩
  have HR2 := Lib.hid hr
  have HB2 := Lib.hid (btrans HB1.out hb)
  have hz12 := hb.size
  clear hr hb HFI
  go_wp2_with fail
  -- the list turned round
  obtain ⟨x1, x2, d, hd, htt, hex⟩ := HL.out.below HB2.out
  obtain ⟨qs, hqs⟩ : ∃ qs, qs = l.zip d := ⟨_, rfl⟩
  have hq1 : qs.map (·.1) = l := by rw [hqs]; exact List.map_fst_zip (by omega)
  have hql : qs.length = l.length := by rw [hqs, List.length_zip]; omega
  have hqg : ∀ (i : Nat) (q : RPut × SL), qs[i]? = some q → l[i]? = some q.1 ∧ d[i]? = some q.2 := fun i q hq => by
    rw [hqs, List.getElem?_zip_eq_some] at hq
    exact hq
  have HQ1 := Lib.hid hq1
  have HQN := Lib.hid (show ∀ q ∈ qs, q.1.t.Num ∧ EdgeOk q.1.e from fun q hq => x2 _ (by rw [← hq1]; exact List.mem_map.2 ⟨q, hq, rfl⟩))
  have HQT := Lib.hid (show ∀ q ∈ qs, TalAt w2 (talVal q.1.t.calls q.1.t.errors q.1.t.took (.slice q.2.1 q.2.2.1 q.2.2.2)) q.1.t from fun q hq => by
    obtain ⟨i, hi⟩ := List.getElem?_of_mem hq
    exact htt i _ _ (hqg i q hi).1 (hqg i q hi).2)
  have HEX := Lib.hid (show 0 < n → ∃ b off, A = some ⟨b, off, none⟩ ∧ ∀ (i : Nat) (q : RPut × SL), qs[i]? = some q → ∀ (j : Nat) u, (putCell q.1 q.2)[j]? = some u → w2.cell? ⟨b, off + i * 10 + j, none⟩ = some u from fun h0 => by
    obtain ⟨b, off, e, hc⟩ := hex h0
    exact ⟨b, off, e, fun i q hq => hc i _ _ (hqg i q hq).1 (hqg i q hq).2⟩)
  have hqn1 : qs.length ≤ n := by omega
  have hqn2 : n ≤ qs.length := by omega
  clear x1 x2 hd htt hex hqs hq1 hql hqg
  obtain ⟨V, rfl⟩ : ∃ V, V = w2 := ⟨_, rfl⟩
  go_loopw [9, 10] (fun v i wr => TurnLoop V qs v i wr) (fun _ i _ => (intOf i + 1).toNat)
  case atStart => exact ⟨0, n, by omega, by first | rfl | go_num, World.ownsRow_nil _ _ _ _, brefl _⟩
  case round =>
    obtain ⟨k, m, hkm, hi, hown, hb⟩ := hrel
    rcases m with _ | m
    · have hi' := hi.trans (show Value.int .i64 (((0 : Nat) : Int) - 1) = .int .i64 (-1) from rfl)
      subst hi'
      have hkq : k = qs.length := by omega
      have hown1 := hown
      have hkr : k = qs.reverse.length := by rw [List.length_reverse]; exact hkq
      rw [hkr, List.take_length] at hown1
      obtain ⟨TA, tc, hv, htc, hpt⟩ := puts_of_own (qs := qs.reverse) hown1 (by simp) (fun q hq => HQN.out q (List.mem_reverse.1 hq)) (fun q hq => (HQT.out q (List.mem_reverse.1 hq)).below hb)
      subst hv
      have hptl : PutsAt wr TA qs.length l.reverse := by
        rw [List.map_reverse, HQ1.out] at hpt
        simpa using hpt
      have HPT := Lib.hid hptl
      have HB3 := Lib.hid (btrans HB2.out hb)
      have HR3 := Lib.hid (HR2.out.below hb)
      have hz23 := hb.size
      have HQL := Lib.hid (show qs.length = n by omega)
      clear hown hown1 hb hpt hptl hi hkm hkq
      obtain ⟨k9, hk90⟩ : ∃ k9, k9 = n / 2 := ⟨_, rfl⟩
      have hk9 : k9 ≤ n := by omega
      have hdv : wrap64 ((n : Int) / 2) = (k9 : Int) := by unfold wrap64; omega
      have HDV := Lib.hid hdv
      have HDV2 := Lib.hid (show ((n : Int) / 2) = (k9 : Int) by omega)
      clear hdv hk90

      go_wp2_with fail
      first | rw [HDV.out] | rw [HDV2.out]
      refine (filled_rb wr fan TA qs.length tc l.reverse H2.out H16.out HPT.out (by omega)).mono ?_
      rintro en w4 ⟨r4, rfl, hr, hb⟩
      have HR4 := Lib.hid hr
      have HB4 := Lib.hid (btrans HB3.out hb)
      have HR3' := Lib.hid (HR3.out.below hb)
      have HL4 := Lib.hid (HL.out.below HB4.out)
      have hz34 := hb.size
      clear hr hb HPT HL
      go_wp2_with fail
      refine (filled_rb w4 fan A k9 c (l.take k9) H2.out H16.out (HL4.out.take (by omega)) (by omega)).mono ?_
      rintro en w5 ⟨r5, rfl, hr, hb⟩
      have HR5 := Lib.hid hr
      have HB5 := Lib.hid (btrans HB4.out hb)
      have HR3'' := Lib.hid (HR3'.out.below hb)
      have HR4' := Lib.hid (HR4.out.below hb)
      have hz45 := hb.size
      have HL45 := Lib.hid (HL4.out.below hb)
      clear hr hb HR3 HR3' HR4
      go_wp2_with fail
      · have HPD := Lib.hid (fun (W : World) (hb : Below w5.heap.size w5 W) => (HL45.out.below hb).end_ hk9 (by omega))
        refine (filled_rb w5 fan _ (n - k9) _ (l.drop k9) H2.out H16.out (HPD.out w5 (brefl _)) (by omega)).mono ?_
        rintro en w6 ⟨r6, rfl, hr, hb⟩
        have HR6 := Lib.hid hr
        have HB6 := Lib.hid (btrans HB5.out hb)
        have HB56 := Lib.hid hb
        have HR3a := Lib.hid (HR3''.out.below hb)
        have HR4a := Lib.hid (HR4'.out.below hb)
        have HR5a := Lib.hid (HR5.out.below hb)
        have hz56 := hb.size
        clear hr hb HR3'' HR4' HR5
        go_wp2_with fail
        refine (filled_rb w6 fan _ (n - k9) _ (l.drop k9) H2.out H16.out (HPD.out w6 HB56.out) (by omega)).mono ?_
        rintro en w7 ⟨r7, rfl, hr, hb⟩
        have HR7 := Lib.hid hr
        have HB7 := Lib.hid (btrans HB6.out hb)
        have HR3b := Lib.hid (HR3a.out.below hb)
        have HR4b := Lib.hid (HR4a.out.below hb)
        have HR5b := Lib.hid (HR5a.out.below hb)
        have HR6b := Lib.hid (HR6.out.below hb)
        have hz67 := hb.size
        clear hr hb HR3a HR4a HR5a HR6
        go_wp2_with fail
        refine (merge_rb w7 _ _ r6 _ _ r5 fan _ _ n HR6b.out HR5b.out (by omega) (by omega) (few_take HNUM.out k9 (by omega))).mono ?_
        rintro en w8 ⟨rfl, hr, G, hm, hG, hGr⟩
        have HM8 := Lib.hid hm
        have HG8 := Lib.hid hr
        have HB8 := Lib.hid (Mod.toBelow HB7.out hm fun q hq => by have := hGr q hq; have := HB1.out.size; omega)
        have HR3c := Lib.hid (HR3b.out.mod hm hG fun q hq hr => by have := hGr q hq; omega)
        have HR4c := Lib.hid (HR4b.out.mod hm hG fun q hq hr => by have := hGr q hq; omega)
        have HR5c := Lib.hid (HR5b.out.mod hm hG fun q hq hr => by have := hGr q hq; omega)
        have HR7c := Lib.hid (HR7.out.mod hm hG fun q hq hr => by have := hGr q hq; omega)
        have hz78 := hm.size
        clear hr hm hG hGr HR3b HR4b HR5b HR6b HR7 HM8
        go_wp2_with fail
        refine (merge_rb w8 _ _ r5 _ _ r7 fan _ _ n HR5c.out HR7c.out (by omega) (by omega) (few_drop HNUM.out k9 (by omega))).mono ?_
        rintro en w9 ⟨rfl, hr, G', hm, hG, hGr⟩
        have HR5d := Lib.hid hr
        have HB9 := Lib.hid (Mod.toBelow HB8.out hm fun q hq => by have := hGr q hq; have := HB1.out.size; omega)
        have HR3d := Lib.hid (HR3c.out.mod hm hG fun q hq hr => by have := hGr q hq; omega)
        have HR4d := Lib.hid (HR4c.out.mod hm hG fun q hq hr => by have := hGr q hq; omega)
        have HG8d := Lib.hid (HG8.out.mod hm hG fun q hq hr => by have := hGr q hq; omega)
        have hz89 := hm.size
        clear hr hm hG hGr HR3c HR4c HR5c HG8 HR7c
        have HR4e := Lib.hid (rb_eq HR4d.out (fills_perm (fun p hp => HNUM.out p (List.mem_reverse.1 hp)) (List.reverse_perm l)))
        have HR5e := Lib.hid (rb_eq HR5d.out (fills_split HNUM.out k9))
        have HG8e := Lib.hid (rb_eq HG8d.out (fills_split' HNUM.out k9))
        clear HR4d HR5d HG8d
        go_wp2_with fail
        refine (windows_rb w9 _ _ r fan _ n HR3d.out H2.out H16.out (by omega) HFEW'.out).mono ?_
        rintro en W1 ⟨B1, m1, c1, L1, rfl, hmc, ha, ht, hb⟩
        have HA1 := Lib.hid ha
        have HT1 := Lib.hid ht
        have HBw1 := Lib.hid hb
        have HBv1 := Lib.hid (btrans HB9.out hb)
        replace HR4e := Lib.hid (HR4e.out.below hb)
        replace HR5e := Lib.hid (HR5e.out.below hb)
        replace HG8e := Lib.hid (HG8e.out.below hb)
        clear ha ht hb hmc
        go_wp2_with fail
        refine (windows_rb W1 _ _ r4 fan _ n HR4e.out H2.out H16.out (by omega) HFEW'.out).mono ?_
        rintro en W2 ⟨B2, m2, c2, L2, rfl, hmc, ha, ht, hb⟩
        have HA2 := Lib.hid ha
        have HT2 := Lib.hid ht
        have HBw2 := Lib.hid hb
        have HBv2 := Lib.hid (btrans HBv1.out hb)
        replace HR5e := Lib.hid (HR5e.out.below hb)
        replace HG8e := Lib.hid (HG8e.out.below hb)
        clear ha ht hb hmc
        go_wp2_with fail
        refine (windows_rb W2 _ _ r5 fan _ n HR5e.out H2.out H16.out (by omega) HFEW'.out).mono ?_
        rintro en W3 ⟨B3, m3, c3, L3, rfl, hmc, ha, ht, hb⟩
        have HA3 := Lib.hid ha
        have HT3 := Lib.hid ht
        have HBw3 := Lib.hid hb
        have HBv3 := Lib.hid (btrans HBv2.out hb)
        replace HG8e := Lib.hid (HG8e.out.below hb)
        clear ha ht hb hmc
        go_wp2_with fail
        refine (windows_rb W3 _ _ r6 fan _ n HG8e.out H2.out H16.out (by omega) HFEW'.out).mono ?_
        rintro en W4 ⟨B4, m4, c4, L4, rfl, hmc, ha, ht, hb⟩
        have HA4 := Lib.hid ha
        have HT4 := Lib.hid ht
        have HBw4 := Lib.hid hb
        have HBv4 := Lib.hid (btrans HBv3.out hb)
        clear ha ht hb hmc
        go_wp2_with fail
        have e1 := Lib.hid (HA1.out.below (btrans HBw2.out (btrans HBw3.out HBw4.out)))
        have e2 := Lib.hid (HA2.out.below (btrans HBw3.out HBw4.out))
        have e3 := Lib.hid (HA3.out.below HBw4.out)
        refine (same_wins W4 _ n _ _ _ _ _ _ _ _ _ _ e1.out e2.out HT1.out HT2.out (by omega) HFEW'.out).mono ?_
        rintro en w10 ⟨rfl, hb⟩
        have HB10 := Lib.hid hb
        clear hb
        go_wp2_with fail
        refine (same_wins w10 _ n _ _ _ _ _ _ _ _ _ _ (e1.out.below HB10.out) (e3.out.below HB10.out) HT1.out HT3.out (by omega) HFEW'.out).mono ?_
        rintro en w11 ⟨rfl, hb⟩
        have HB11 := Lib.hid (btrans HB10.out hb)
        clear hb
        go_wp2_with fail
        refine (same_wins w11 _ n _ _ _ _ _ _ _ _ _ _ (e1.out.below HB11.out) (HA4.out.below HB11.out) HT1.out HT4.out (by omega) HFEW'.out).mono ?_
        rintro en w12 ⟨rfl, hb⟩
        have HB12 := Lib.hid (btrans HB11.out hb)
        clear hb
        go_wp2_with fail
        go_ret
        exact ⟨rfl, btrans HBv4.out HB12.out⟩
      · have HPD := Lib.hid (fun (W : World) (hb : Below w5.heap.size w5 W) => (HL45.out.below hb).map hk9)
        refine (filled_rb w5 fan _ (n - k9) _ (l.drop k9) H2.out H16.out (HPD.out w5 (brefl _)) (by omega)).mono ?_
        rintro en w6 ⟨r6, rfl, hr, hb⟩
        have HR6 := Lib.hid hr
        have HB6 := Lib.hid (btrans HB5.out hb)
        have HB56 := Lib.hid hb
        have HR3a := Lib.hid (HR3''.out.below hb)
        have HR4a := Lib.hid (HR4'.out.below hb)
        have HR5a := Lib.hid (HR5.out.below hb)
        have hz56 := hb.size
        clear hr hb HR3'' HR4' HR5
        go_wp2_with fail
        refine (filled_rb w6 fan _ (n - k9) _ (l.drop k9) H2.out H16.out (HPD.out w6 HB56.out) (by omega)).mono ?_
        rintro en w7 ⟨r7, rfl, hr, hb⟩
        have HR7 := Lib.hid hr
        have HB7 := Lib.hid (btrans HB6.out hb)
        have HR3b := Lib.hid (HR3a.out.below hb)
        have HR4b := Lib.hid (HR4a.out.below hb)
        have HR5b := Lib.hid (HR5a.out.below hb)
        have HR6b := Lib.hid (HR6.out.below hb)
        have hz67 := hb.size
        clear hr hb HR3a HR4a HR5a HR6
        go_wp2_with fail
        refine (merge_rb w7 _ _ r6 _ _ r5 fan _ _ n HR6b.out HR5b.out (by omega) (by omega) (few_take HNUM.out k9 (by omega))).mono ?_
        rintro en w8 ⟨rfl, hr, G, hm, hG, hGr⟩
        have HM8 := Lib.hid hm
        have HG8 := Lib.hid hr
        have HB8 := Lib.hid (Mod.toBelow HB7.out hm fun q hq => by have := hGr q hq; have := HB1.out.size; omega)
        have HR3c := Lib.hid (HR3b.out.mod hm hG fun q hq hr => by have := hGr q hq; omega)
        have HR4c := Lib.hid (HR4b.out.mod hm hG fun q hq hr => by have := hGr q hq; omega)
        have HR5c := Lib.hid (HR5b.out.mod hm hG fun q hq hr => by have := hGr q hq; omega)
        have HR7c := Lib.hid (HR7.out.mod hm hG fun q hq hr => by have := hGr q hq; omega)
        have hz78 := hm.size
        clear hr hm hG hGr HR3b HR4b HR5b HR6b HR7 HM8
        go_wp2_with fail
        refine (merge_rb w8 _ _ r5 _ _ r7 fan _ _ n HR5c.out HR7c.out (by omega) (by omega) (few_drop HNUM.out k9 (by omega))).mono ?_
        rintro en w9 ⟨rfl, hr, G', hm, hG, hGr⟩
        have HR5d := Lib.hid hr
        have HB9 := Lib.hid (Mod.toBelow HB8.out hm fun q hq => by have := hGr q hq; have := HB1.out.size; omega)
        have HR3d := Lib.hid (HR3c.out.mod hm hG fun q hq hr => by have := hGr q hq; omega)
        have HR4d := Lib.hid (HR4c.out.mod hm hG fun q hq hr => by have := hGr q hq; omega)
        have HG8d := Lib.hid (HG8.out.mod hm hG fun q hq hr => by have := hGr q hq; omega)
        have hz89 := hm.size
        clear hr hm hG hGr HR3c HR4c HR5c HG8 HR7c
        have HR4e := Lib.hid (rb_eq HR4d.out (fills_perm (fun p hp => HNUM.out p (List.mem_reverse.1 hp)) (List.reverse_perm l)))
        have HR5e := Lib.hid (rb_eq HR5d.out (fills_split HNUM.out k9))
        have HG8e := Lib.hid (rb_eq HG8d.out (fills_split' HNUM.out k9))
        clear HR4d HR5d HG8d
        go_wp2_with fail
        refine (windows_rb w9 _ _ r fan _ n HR3d.out H2.out H16.out (by omega) HFEW'.out).mono ?_
        rintro en W1 ⟨B1, m1, c1, L1, rfl, hmc, ha, ht, hb⟩
        have HA1 := Lib.hid ha
        have HT1 := Lib.hid ht
        have HBw1 := Lib.hid hb
        have HBv1 := Lib.hid (btrans HB9.out hb)
        replace HR4e := Lib.hid (HR4e.out.below hb)
        replace HR5e := Lib.hid (HR5e.out.below hb)
        replace HG8e := Lib.hid (HG8e.out.below hb)
        clear ha ht hb hmc
        go_wp2_with fail
        refine (windows_rb W1 _ _ r4 fan _ n HR4e.out H2.out H16.out (by omega) HFEW'.out).mono ?_
        rintro en W2 ⟨B2, m2, c2, L2, rfl, hmc, ha, ht, hb⟩
        have HA2 := Lib.hid ha
        have HT2 := Lib.hid ht
        have HBw2 := Lib.hid hb
        have HBv2 := Lib.hid (btrans HBv1.out hb)
        replace HR5e := Lib.hid (HR5e.out.below hb)
        replace HG8e := Lib.hid (HG8e.out.below hb)
        clear ha ht hb hmc
        go_wp2_with fail
        refine (windows_rb W2 _ _ r5 fan _ n HR5e.out H2.out H16.out (by omega) HFEW'.out).mono ?_
        rintro en W3 ⟨B3, m3, c3, L3, rfl, hmc, ha, ht, hb⟩
        have HA3 := Lib.hid ha
        have HT3 := Lib.hid ht
        have HBw3 := Lib.hid hb
        have HBv3 := Lib.hid (btrans HBv2.out hb)
        replace HG8e := Lib.hid (HG8e.out.below hb)
        clear ha ht hb hmc
        go_wp2_with fail
        refine (windows_rb W3 _ _ r6 fan _ n HG8e.out H2.out H16.out (by omega) HFEW'.out).mono ?_
        rintro en W4 ⟨B4, m4, c4, L4, rfl, hmc, ha, ht, hb⟩
        have HA4 := Lib.hid ha
        have HT4 := Lib.hid ht
        have HBw4 := Lib.hid hb
        have HBv4 := Lib.hid (btrans HBv3.out hb)
        clear ha ht hb hmc
        go_wp2_with fail
        have e1 := Lib.hid (HA1.out.below (btrans HBw2.out (btrans HBw3.out HBw4.out)))
        have e2 := Lib.hid (HA2.out.below (btrans HBw3.out HBw4.out))
        have e3 := Lib.hid (HA3.out.below HBw4.out)
        refine (same_wins W4 _ n _ _ _ _ _ _ _ _ _ _ e1.out e2.out HT1.out HT2.out (by omega) HFEW'.out).mono ?_
        rintro en w10 ⟨rfl, hb⟩
        have HB10 := Lib.hid hb
        clear hb
        go_wp2_with fail
        refine (same_wins w10 _ n _ _ _ _ _ _ _ _ _ _ (e1.out.below HB10.out) (e3.out.below HB10.out) HT1.out HT3.out (by omega) HFEW'.out).mono ?_
        rintro en w11 ⟨rfl, hb⟩
        have HB11 := Lib.hid (btrans HB10.out hb)
        clear hb
        go_wp2_with fail
        refine (same_wins w11 _ n _ _ _ _ _ _ _ _ _ _ (e1.out.below HB11.out) (HA4.out.below HB11.out) HT1.out HT4.out (by omega) HFEW'.out).mono ?_
        rintro en w12 ⟨rfl, hb⟩
        have HB12 := Lib.hid (btrans HB11.out hb)
        clear hb
        go_wp2_with fail
        go_ret
        exact ⟨rfl, btrans HBv4.out HB12.out⟩

    · have hi' := hi.trans (show Value.int .i64 (((m + 1 : Nat) : Int) - 1) = .int .i64 (m : Nat) from by congr 1; omega)
      subst hi'
      have hmn : m < n := by omega
      obtain ⟨b, off, hA, hc⟩ := HEX.out (by omega)
      subst hA
      obtain ⟨q, hq⟩ : ∃ q, qs[m]? = some q := ⟨qs[m]'(by omega), List.getElem?_eq_getElem _⟩
      have hcell := hc m q hq
      have HQ := Lib.hid hq
      have HO := Lib.hid hown
      have HB3 := Lib.hid hb
      have r0 : wr.cell? ⟨b, off + m * 10, none⟩ = some (.int .i64 q.1.hour) := bcell1 hb (hcell 0 _ rfl)
      have r1 : wr.cell? ⟨b, off + m * 10 + 1, none⟩ = some (.string q.1.e.1) := bcell1 hb (hcell 1 _ rfl)
      have r2 : wr.cell? ⟨b, off + m * 10 + 2, none⟩ = some (.string q.1.e.2) := bcell1 hb (hcell 2 _ rfl)
      have r3 : wr.cell? ⟨b, off + m * 10 + 3, none⟩ = some (.int .u64 (natHi q.1.t.calls)) := bcell1 hb (hcell 3 _ rfl)
      have r4 : wr.cell? ⟨b, off + m * 10 + 4, none⟩ = some (.int .u64 (natLo q.1.t.calls)) := bcell1 hb (hcell 4 _ rfl)
      have r5 : wr.cell? ⟨b, off + m * 10 + 5, none⟩ = some (.int .u64 (natHi q.1.t.errors)) := bcell1 hb (hcell 5 _ rfl)
      have r6 : wr.cell? ⟨b, off + m * 10 + 6, none⟩ = some (.int .u64 (natLo q.1.t.errors)) := bcell1 hb (hcell 6 _ rfl)
      have r7 : wr.cell? ⟨b, off + m * 10 + 7, none⟩ = some (.int .u64 (natHi q.1.t.took)) := bcell1 hb (hcell 7 _ rfl)
      have r8 : wr.cell? ⟨b, off + m * 10 + 8, none⟩ = some (.int .u64 (natLo q.1.t.took)) := bcell1 hb (hcell 8 _ rfl)
      have r9 : wr.cell? ⟨b, off + m * 10 + 9, none⟩ = some (.slice q.2.1 q.2.2.1 q.2.2.2) := bcell1 hb (hcell 9 _ rfl)
      clear hi hown hb hc hcell hq
      go_wp2_with (at_builtin; refine wpList_append_own _ rfl _ _ 22 rfl V.heap.size 48 i0 (.agg #[.int .i64 0, .string ByteArray.empty, .string ByteArray.empty, .int .u64 0, .int .u64 0, .int .u64 0, .int .u64 0, .int .u64 0, .int .u64 0, .slice none 0 0]) 10 112 Try.underlying22 hi0 hz0 hz1 hz2 rfl (by decide) _ _ _ rfl (HO.out.alloc _) ⟨wr.heap.size, 0, none⟩ 1 1 (putCell q.1 q.2) rfl rfl ?c1 ?c2 ?c3 ?c4 ?c5 ?_)
      case c1 => exact fun j u h => cells_new wr (putCell q.1 q.2) 48 j u h
      case c2 => simp [putCell, Value.oneCell']
      case c3 => unfold maxLen; omega
      case c4 => omega
      case c5 => have := HB3.out.size; simp; omega
      intro v' w3 hown3 hgrow _
      have HB4 := Lib.hid (bgrown (bal HB3.out _) hgrow (HO.out.alloc _))
      have HO4 := Lib.hid (show w3.ownsRow V.heap.size 48 10 v' (k + 1) (pvCells (qs.reverse.take (k + 1))) by
        have e : qs.reverse[k]? = some q := by
          rw [List.getElem?_reverse (by omega), show qs.length - 1 - k = m by omega]
          exact HQ.out
        rw [List.take_add_one, e, pvCells_append]
        have e2 : pvCells (some q).toList = putCell q.1 q.2 := by show putCell q.1 q.2 ++ [] = _; simp
        rw [e2]
        exact hown3)
      have hwm : wrap64 ((m : Int) - 1) = (m : Int) - 1 := by unfold wrap64; omega
      clear hown3 hgrow
      go_wp2
      try rw [hwm]
      go_roundw
      case rel => exact ⟨k + 1, m, by omega, rfl, HO4.out, HB4.out⟩
      case measure => simp [intOf] <;> omega

set_option maxRecDepth 100000 in
set_option maxHeartbeats 4000000 in
theorem Order_far (w : World) (fan : Nat) (A : Option Addr) (n c : Nat) (l : List RPut) (at_ : Int) (h2 : 2 ≤ fan) (h16 : fan ≤ 16) (hl : PutsAt w A n l) (hn : n * 112 ≤ 140737488355328) (hnc : n ≤ c) (q9 : Nat) (hat : at_ = (q9 : Int)) (hq9 : n < q9) :
    Calls Try.prog 4 #[.int .i64 fan, .slice A n c, .int .i64 at_] w (OrderPost w) := by
  subst hat
  have HQ9 := Lib.hid hq9
  clear hq9
  obtain ⟨i0, hi0, hz0, hz1, hz2⟩ := info_parts putInfo
  have HAL := Lib.hid (alive_any w)
  have H2 := Lib.hid h2
  have H16 := Lib.hid h16
  have HL := Lib.hid hl
  have HLN := Lib.hid hl.1
  have HFEW := Lib.hid (fills_few (fun p hp => (hl.2.1 p hp).1))
  have HFEW' := Lib.hid (Few.mono (fills_few (fun p hp => (hl.2.1 p hp).1)) (show l.length ≤ n by rw [hl.1]; exact Nat.le_refl _))
  have HNUM := Lib.hid (show ∀ p ∈ l, p.t.Num from fun p hp => (hl.2.1 p hp).1)
  have hn1 : n ≤ l.length := by rw [hl.1]; exact Nat.le_refl _
  have hn2 : l.length ≤ n := by rw [hl.1]; exact Nat.le_refl _
  have hn3 : n ≤ 140737488351232 := by omega
  have g1 : ¬ ((fan : Int) < 2) := by omega
  have g2 : ¬ (16 < (fan : Int)) := by omega
  have HFI := Lib.hid (fun w' (hb : Below w.heap.size w w') => filled_rb w' fan A n c l h2 h16 (hl.below hb) hn3)
  clear hl h2 h16
  go_enter Try.func4, Try.ntmps4
  go_wp2_with fail
  refine HAL.out.mono ?_
  rintro en w1 ⟨rfl, hb⟩
  have HB1 := Lib.hid hb
  clear hb HAL
  go_wp2_with fail
  refine (HFI.out w1 HB1.out).mono ?_
  rintro en w2 ⟨r, rfl, hr, hb⟩
  have HR2 := Lib.hid hr
  have HB2 := Lib.hid (btrans HB1.out hb)
  have hz12 := hb.size
  clear hr hb HFI
  go_wp2_with fail
  -- the list turned round
  obtain ⟨x1, x2, d, hd, htt, hex⟩ := HL.out.below HB2.out
  obtain ⟨qs, hqs⟩ : ∃ qs, qs = l.zip d := ⟨_, rfl⟩
  have hq1 : qs.map (·.1) = l := by rw [hqs]; exact List.map_fst_zip (by omega)
  have hql : qs.length = l.length := by rw [hqs, List.length_zip]; omega
  have hqg : ∀ (i : Nat) (q : RPut × SL), qs[i]? = some q → l[i]? = some q.1 ∧ d[i]? = some q.2 := fun i q hq => by
    rw [hqs, List.getElem?_zip_eq_some] at hq
    exact hq
  have HQ1 := Lib.hid hq1
  have HQN := Lib.hid (show ∀ q ∈ qs, q.1.t.Num ∧ EdgeOk q.1.e from fun q hq => x2 _ (by rw [← hq1]; exact List.mem_map.2 ⟨q, hq, rfl⟩))
  have HQT := Lib.hid (show ∀ q ∈ qs, TalAt w2 (talVal q.1.t.calls q.1.t.errors q.1.t.took (.slice q.2.1 q.2.2.1 q.2.2.2)) q.1.t from fun q hq => by
    obtain ⟨i, hi⟩ := List.getElem?_of_mem hq
    exact htt i _ _ (hqg i q hi).1 (hqg i q hi).2)
  have HEX := Lib.hid (show 0 < n → ∃ b off, A = some ⟨b, off, none⟩ ∧ ∀ (i : Nat) (q : RPut × SL), qs[i]? = some q → ∀ (j : Nat) u, (putCell q.1 q.2)[j]? = some u → w2.cell? ⟨b, off + i * 10 + j, none⟩ = some u from fun h0 => by
    obtain ⟨b, off, e, hc⟩ := hex h0
    exact ⟨b, off, e, fun i q hq => hc i _ _ (hqg i q hq).1 (hqg i q hq).2⟩)
  have hqn1 : qs.length ≤ n := by omega
  have hqn2 : n ≤ qs.length := by omega
  clear x1 x2 hd htt hex hqs hq1 hql hqg
  obtain ⟨V, rfl⟩ : ∃ V, V = w2 := ⟨_, rfl⟩
  go_loopw [9, 10] (fun v i wr => TurnLoop V qs v i wr) (fun _ i _ => (intOf i + 1).toNat)
  case atStart => exact ⟨0, n, by omega, by first | rfl | go_num, World.ownsRow_nil _ _ _ _, brefl _⟩
  case round =>
    obtain ⟨k, m, hkm, hi, hown, hb⟩ := hrel
    rcases m with _ | m
    · have hi' := hi.trans (show Value.int .i64 (((0 : Nat) : Int) - 1) = .int .i64 (-1) from rfl)
      subst hi'
      have hkq : k = qs.length := by omega
      have hown1 := hown
      have hkr : k = qs.reverse.length := by rw [List.length_reverse]; exact hkq
      rw [hkr, List.take_length] at hown1
      obtain ⟨TA, tc, hv, htc, hpt⟩ := puts_of_own (qs := qs.reverse) hown1 (by simp) (fun q hq => HQN.out q (List.mem_reverse.1 hq)) (fun q hq => (HQT.out q (List.mem_reverse.1 hq)).below hb)
      subst hv
      have hptl : PutsAt wr TA qs.length l.reverse := by
        rw [List.map_reverse, HQ1.out] at hpt
        simpa using hpt
      have HPT := Lib.hid hptl
      have HB3 := Lib.hid (btrans HB2.out hb)
      have HR3 := Lib.hid (HR2.out.below hb)
      have hz23 := hb.size
      have HQL := Lib.hid (show qs.length = n by omega)
      clear hown hown1 hb hpt hptl hi hkm hkq
      obtain ⟨k9, hk90⟩ : ∃ k9, k9 = n / 2 := ⟨_, rfl⟩
      have hk9 : k9 ≤ n := by omega
      have hdv : wrap64 ((n : Int) / 2) = (k9 : Int) := by unfold wrap64; omega
      have HDV := Lib.hid hdv
      have HDV2 := Lib.hid (show ((n : Int) / 2) = (k9 : Int) by omega)
      clear hdv hk90
      have d1 : ¬ ((q9 : Int) < 0) := by omega
      have d2 : (n : Int) < (q9 : Int) := by have := HQ9.out; omega

      go_wp2_with fail
      first | rw [HDV.out] | rw [HDV2.out]
      refine (filled_rb wr fan TA qs.length tc l.reverse H2.out H16.out HPT.out (by omega)).mono ?_
      rintro en w4 ⟨r4, rfl, hr, hb⟩
      have HR4 := Lib.hid hr
      have HB4 := Lib.hid (btrans HB3.out hb)
      have HR3' := Lib.hid (HR3.out.below hb)
      have HL4 := Lib.hid (HL.out.below HB4.out)
      have hz34 := hb.size
      clear hr hb HPT HL
      go_wp2_with fail
      refine (filled_rb w4 fan A k9 c (l.take k9) H2.out H16.out (HL4.out.take (by omega)) (by omega)).mono ?_
      rintro en w5 ⟨r5, rfl, hr, hb⟩
      have HR5 := Lib.hid hr
      have HB5 := Lib.hid (btrans HB4.out hb)
      have HR3'' := Lib.hid (HR3'.out.below hb)
      have HR4' := Lib.hid (HR4.out.below hb)
      have hz45 := hb.size
      have HL45 := Lib.hid (HL4.out.below hb)
      clear hr hb HR3 HR3' HR4
      go_wp2_with fail
      · have HPD := Lib.hid (fun (W : World) (hb : Below w5.heap.size w5 W) => (HL45.out.below hb).end_ hk9 (by omega))
        refine (filled_rb w5 fan _ (n - k9) _ (l.drop k9) H2.out H16.out (HPD.out w5 (brefl _)) (by omega)).mono ?_
        rintro en w6 ⟨r6, rfl, hr, hb⟩
        have HR6 := Lib.hid hr
        have HB6 := Lib.hid (btrans HB5.out hb)
        have HB56 := Lib.hid hb
        have HR3a := Lib.hid (HR3''.out.below hb)
        have HR4a := Lib.hid (HR4'.out.below hb)
        have HR5a := Lib.hid (HR5.out.below hb)
        have hz56 := hb.size
        clear hr hb HR3'' HR4' HR5
        go_wp2_with fail
        refine (filled_rb w6 fan _ (n - k9) _ (l.drop k9) H2.out H16.out (HPD.out w6 HB56.out) (by omega)).mono ?_
        rintro en w7 ⟨r7, rfl, hr, hb⟩
        have HR7 := Lib.hid hr
        have HB7 := Lib.hid (btrans HB6.out hb)
        have HR3b := Lib.hid (HR3a.out.below hb)
        have HR4b := Lib.hid (HR4a.out.below hb)
        have HR5b := Lib.hid (HR5a.out.below hb)
        have HR6b := Lib.hid (HR6.out.below hb)
        have hz67 := hb.size
        clear hr hb HR3a HR4a HR5a HR6
        go_wp2_with fail
        refine (merge_rb w7 _ _ r6 _ _ r5 fan _ _ n HR6b.out HR5b.out (by omega) (by omega) (few_take HNUM.out k9 (by omega))).mono ?_
        rintro en w8 ⟨rfl, hr, G, hm, hG, hGr⟩
        have HM8 := Lib.hid hm
        have HG8 := Lib.hid hr
        have HB8 := Lib.hid (Mod.toBelow HB7.out hm fun q hq => by have := hGr q hq; have := HB1.out.size; omega)
        have HR3c := Lib.hid (HR3b.out.mod hm hG fun q hq hr => by have := hGr q hq; omega)
        have HR4c := Lib.hid (HR4b.out.mod hm hG fun q hq hr => by have := hGr q hq; omega)
        have HR5c := Lib.hid (HR5b.out.mod hm hG fun q hq hr => by have := hGr q hq; omega)
        have HR7c := Lib.hid (HR7.out.mod hm hG fun q hq hr => by have := hGr q hq; omega)
        have hz78 := hm.size
        clear hr hm hG hGr HR3b HR4b HR5b HR6b HR7 HM8
        go_wp2_with fail
        refine (merge_rb w8 _ _ r5 _ _ r7 fan _ _ n HR5c.out HR7c.out (by omega) (by omega) (few_drop HNUM.out k9 (by omega))).mono ?_
        rintro en w9 ⟨rfl, hr, G', hm, hG, hGr⟩
        have HR5d := Lib.hid hr
        have HB9 := Lib.hid (Mod.toBelow HB8.out hm fun q hq => by have := hGr q hq; have := HB1.out.size; omega)
        have HR3d := Lib.hid (HR3c.out.mod hm hG fun q hq hr => by have := hGr q hq; omega)
        have HR4d := Lib.hid (HR4c.out.mod hm hG fun q hq hr => by have := hGr q hq; omega)
        have HG8d := Lib.hid (HG8.out.mod hm hG fun q hq hr => by have := hGr q hq; omega)
        have hz89 := hm.size
        clear hr hm hG hGr HR3c HR4c HR5c HG8 HR7c
        have HR4e := Lib.hid (rb_eq HR4d.out (fills_perm (fun p hp => HNUM.out p (List.mem_reverse.1 hp)) (List.reverse_perm l)))
        have HR5e := Lib.hid (rb_eq HR5d.out (fills_split HNUM.out k9))
        have HG8e := Lib.hid (rb_eq HG8d.out (fills_split' HNUM.out k9))
        clear HR4d HR5d HG8d
        go_wp2_with fail
        refine (windows_rb w9 _ _ r fan _ n HR3d.out H2.out H16.out (by omega) HFEW'.out).mono ?_
        rintro en W1 ⟨B1, m1, c1, L1, rfl, hmc, ha, ht, hb⟩
        have HA1 := Lib.hid ha
        have HT1 := Lib.hid ht
        have HBw1 := Lib.hid hb
        have HBv1 := Lib.hid (btrans HB9.out hb)
        replace HR4e := Lib.hid (HR4e.out.below hb)
        replace HR5e := Lib.hid (HR5e.out.below hb)
        replace HG8e := Lib.hid (HG8e.out.below hb)
        clear ha ht hb hmc
        go_wp2_with fail
        refine (windows_rb W1 _ _ r4 fan _ n HR4e.out H2.out H16.out (by omega) HFEW'.out).mono ?_
        rintro en W2 ⟨B2, m2, c2, L2, rfl, hmc, ha, ht, hb⟩
        have HA2 := Lib.hid ha
        have HT2 := Lib.hid ht
        have HBw2 := Lib.hid hb
        have HBv2 := Lib.hid (btrans HBv1.out hb)
        replace HR5e := Lib.hid (HR5e.out.below hb)
        replace HG8e := Lib.hid (HG8e.out.below hb)
        clear ha ht hb hmc
        go_wp2_with fail
        refine (windows_rb W2 _ _ r5 fan _ n HR5e.out H2.out H16.out (by omega) HFEW'.out).mono ?_
        rintro en W3 ⟨B3, m3, c3, L3, rfl, hmc, ha, ht, hb⟩
        have HA3 := Lib.hid ha
        have HT3 := Lib.hid ht
        have HBw3 := Lib.hid hb
        have HBv3 := Lib.hid (btrans HBv2.out hb)
        replace HG8e := Lib.hid (HG8e.out.below hb)
        clear ha ht hb hmc
        go_wp2_with fail
        refine (windows_rb W3 _ _ r6 fan _ n HG8e.out H2.out H16.out (by omega) HFEW'.out).mono ?_
        rintro en W4 ⟨B4, m4, c4, L4, rfl, hmc, ha, ht, hb⟩
        have HA4 := Lib.hid ha
        have HT4 := Lib.hid ht
        have HBw4 := Lib.hid hb
        have HBv4 := Lib.hid (btrans HBv3.out hb)
        clear ha ht hb hmc
        go_wp2_with fail
        have e1 := Lib.hid (HA1.out.below (btrans HBw2.out (btrans HBw3.out HBw4.out)))
        have e2 := Lib.hid (HA2.out.below (btrans HBw3.out HBw4.out))
        have e3 := Lib.hid (HA3.out.below HBw4.out)
        refine (same_wins W4 _ n _ _ _ _ _ _ _ _ _ _ e1.out e2.out HT1.out HT2.out (by omega) HFEW'.out).mono ?_
        rintro en w10 ⟨rfl, hb⟩
        have HB10 := Lib.hid hb
        clear hb
        go_wp2_with fail
        refine (same_wins w10 _ n _ _ _ _ _ _ _ _ _ _ (e1.out.below HB10.out) (e3.out.below HB10.out) HT1.out HT3.out (by omega) HFEW'.out).mono ?_
        rintro en w11 ⟨rfl, hb⟩
        have HB11 := Lib.hid (btrans HB10.out hb)
        clear hb
        go_wp2_with fail
        refine (same_wins w11 _ n _ _ _ _ _ _ _ _ _ _ (e1.out.below HB11.out) (HA4.out.below HB11.out) HT1.out HT4.out (by omega) HFEW'.out).mono ?_
        rintro en w12 ⟨rfl, hb⟩
        have HB12 := Lib.hid (btrans HB11.out hb)
        clear hb
        go_wp2_with fail
        go_ret
        exact ⟨rfl, btrans HBv4.out HB12.out⟩
      · have HPD := Lib.hid (fun (W : World) (hb : Below w5.heap.size w5 W) => (HL45.out.below hb).map hk9)
        refine (filled_rb w5 fan _ (n - k9) _ (l.drop k9) H2.out H16.out (HPD.out w5 (brefl _)) (by omega)).mono ?_
        rintro en w6 ⟨r6, rfl, hr, hb⟩
        have HR6 := Lib.hid hr
        have HB6 := Lib.hid (btrans HB5.out hb)
        have HB56 := Lib.hid hb
        have HR3a := Lib.hid (HR3''.out.below hb)
        have HR4a := Lib.hid (HR4'.out.below hb)
        have HR5a := Lib.hid (HR5.out.below hb)
        have hz56 := hb.size
        clear hr hb HR3'' HR4' HR5
        go_wp2_with fail
        refine (filled_rb w6 fan _ (n - k9) _ (l.drop k9) H2.out H16.out (HPD.out w6 HB56.out) (by omega)).mono ?_
        rintro en w7 ⟨r7, rfl, hr, hb⟩
        have HR7 := Lib.hid hr
        have HB7 := Lib.hid (btrans HB6.out hb)
        have HR3b := Lib.hid (HR3a.out.below hb)
        have HR4b := Lib.hid (HR4a.out.below hb)
        have HR5b := Lib.hid (HR5a.out.below hb)
        have HR6b := Lib.hid (HR6.out.below hb)
        have hz67 := hb.size
        clear hr hb HR3a HR4a HR5a HR6
        go_wp2_with fail
        refine (merge_rb w7 _ _ r6 _ _ r5 fan _ _ n HR6b.out HR5b.out (by omega) (by omega) (few_take HNUM.out k9 (by omega))).mono ?_
        rintro en w8 ⟨rfl, hr, G, hm, hG, hGr⟩
        have HM8 := Lib.hid hm
        have HG8 := Lib.hid hr
        have HB8 := Lib.hid (Mod.toBelow HB7.out hm fun q hq => by have := hGr q hq; have := HB1.out.size; omega)
        have HR3c := Lib.hid (HR3b.out.mod hm hG fun q hq hr => by have := hGr q hq; omega)
        have HR4c := Lib.hid (HR4b.out.mod hm hG fun q hq hr => by have := hGr q hq; omega)
        have HR5c := Lib.hid (HR5b.out.mod hm hG fun q hq hr => by have := hGr q hq; omega)
        have HR7c := Lib.hid (HR7.out.mod hm hG fun q hq hr => by have := hGr q hq; omega)
        have hz78 := hm.size
        clear hr hm hG hGr HR3b HR4b HR5b HR6b HR7 HM8
        go_wp2_with fail
        refine (merge_rb w8 _ _ r5 _ _ r7 fan _ _ n HR5c.out HR7c.out (by omega) (by omega) (few_drop HNUM.out k9 (by omega))).mono ?_
        rintro en w9 ⟨rfl, hr, G', hm, hG, hGr⟩
        have HR5d := Lib.hid hr
        have HB9 := Lib.hid (Mod.toBelow HB8.out hm fun q hq => by have := hGr q hq; have := HB1.out.size; omega)
        have HR3d := Lib.hid (HR3c.out.mod hm hG fun q hq hr => by have := hGr q hq; omega)
        have HR4d := Lib.hid (HR4c.out.mod hm hG fun q hq hr => by have := hGr q hq; omega)
        have HG8d := Lib.hid (HG8.out.mod hm hG fun q hq hr => by have := hGr q hq; omega)
        have hz89 := hm.size
        clear hr hm hG hGr HR3c HR4c HR5c HG8 HR7c
        have HR4e := Lib.hid (rb_eq HR4d.out (fills_perm (fun p hp => HNUM.out p (List.mem_reverse.1 hp)) (List.reverse_perm l)))
        have HR5e := Lib.hid (rb_eq HR5d.out (fills_split HNUM.out k9))
        have HG8e := Lib.hid (rb_eq HG8d.out (fills_split' HNUM.out k9))
        clear HR4d HR5d HG8d
        go_wp2_with fail
        refine (windows_rb w9 _ _ r fan _ n HR3d.out H2.out H16.out (by omega) HFEW'.out).mono ?_
        rintro en W1 ⟨B1, m1, c1, L1, rfl, hmc, ha, ht, hb⟩
        have HA1 := Lib.hid ha
        have HT1 := Lib.hid ht
        have HBw1 := Lib.hid hb
        have HBv1 := Lib.hid (btrans HB9.out hb)
        replace HR4e := Lib.hid (HR4e.out.below hb)
        replace HR5e := Lib.hid (HR5e.out.below hb)
        replace HG8e := Lib.hid (HG8e.out.below hb)
        clear ha ht hb hmc
        go_wp2_with fail
        refine (windows_rb W1 _ _ r4 fan _ n HR4e.out H2.out H16.out (by omega) HFEW'.out).mono ?_
        rintro en W2 ⟨B2, m2, c2, L2, rfl, hmc, ha, ht, hb⟩
        have HA2 := Lib.hid ha
        have HT2 := Lib.hid ht
        have HBw2 := Lib.hid hb
        have HBv2 := Lib.hid (btrans HBv1.out hb)
        replace HR5e := Lib.hid (HR5e.out.below hb)
        replace HG8e := Lib.hid (HG8e.out.below hb)
        clear ha ht hb hmc
        go_wp2_with fail
        refine (windows_rb W2 _ _ r5 fan _ n HR5e.out H2.out H16.out (by omega) HFEW'.out).mono ?_
        rintro en W3 ⟨B3, m3, c3, L3, rfl, hmc, ha, ht, hb⟩
        have HA3 := Lib.hid ha
        have HT3 := Lib.hid ht
        have HBw3 := Lib.hid hb
        have HBv3 := Lib.hid (btrans HBv2.out hb)
        replace HG8e := Lib.hid (HG8e.out.below hb)
        clear ha ht hb hmc
        go_wp2_with fail
        refine (windows_rb W3 _ _ r6 fan _ n HG8e.out H2.out H16.out (by omega) HFEW'.out).mono ?_
        rintro en W4 ⟨B4, m4, c4, L4, rfl, hmc, ha, ht, hb⟩
        have HA4 := Lib.hid ha
        have HT4 := Lib.hid ht
        have HBw4 := Lib.hid hb
        have HBv4 := Lib.hid (btrans HBv3.out hb)
        clear ha ht hb hmc
        go_wp2_with fail
        have e1 := Lib.hid (HA1.out.below (btrans HBw2.out (btrans HBw3.out HBw4.out)))
        have e2 := Lib.hid (HA2.out.below (btrans HBw3.out HBw4.out))
        have e3 := Lib.hid (HA3.out.below HBw4.out)
        refine (same_wins W4 _ n _ _ _ _ _ _ _ _ _ _ e1.out e2.out HT1.out HT2.out (by omega) HFEW'.out).mono ?_
        rintro en w10 ⟨rfl, hb⟩
        have HB10 := Lib.hid hb
        clear hb
        go_wp2_with fail
        refine (same_wins w10 _ n _ _ _ _ _ _ _ _ _ _ (e1.out.below HB10.out) (e3.out.below HB10.out) HT1.out HT3.out (by omega) HFEW'.out).mono ?_
        rintro en w11 ⟨rfl, hb⟩
        have HB11 := Lib.hid (btrans HB10.out hb)
        clear hb
        go_wp2_with fail
        refine (same_wins w11 _ n _ _ _ _ _ _ _ _ _ _ (e1.out.below HB11.out) (HA4.out.below HB11.out) HT1.out HT4.out (by omega) HFEW'.out).mono ?_
        rintro en w12 ⟨rfl, hb⟩
        have HB12 := Lib.hid (btrans HB11.out hb)
        clear hb
        go_wp2_with fail
        go_ret
        exact ⟨rfl, btrans HBv4.out HB12.out⟩

    · have hi' := hi.trans (show Value.int .i64 (((m + 1 : Nat) : Int) - 1) = .int .i64 (m : Nat) from by congr 1; omega)
      subst hi'
      have hmn : m < n := by omega
      obtain ⟨b, off, hA, hc⟩ := HEX.out (by omega)
      subst hA
      obtain ⟨q, hq⟩ : ∃ q, qs[m]? = some q := ⟨qs[m]'(by omega), List.getElem?_eq_getElem _⟩
      have hcell := hc m q hq
      have HQ := Lib.hid hq
      have HO := Lib.hid hown
      have HB3 := Lib.hid hb
      have r0 : wr.cell? ⟨b, off + m * 10, none⟩ = some (.int .i64 q.1.hour) := bcell1 hb (hcell 0 _ rfl)
      have r1 : wr.cell? ⟨b, off + m * 10 + 1, none⟩ = some (.string q.1.e.1) := bcell1 hb (hcell 1 _ rfl)
      have r2 : wr.cell? ⟨b, off + m * 10 + 2, none⟩ = some (.string q.1.e.2) := bcell1 hb (hcell 2 _ rfl)
      have r3 : wr.cell? ⟨b, off + m * 10 + 3, none⟩ = some (.int .u64 (natHi q.1.t.calls)) := bcell1 hb (hcell 3 _ rfl)
      have r4 : wr.cell? ⟨b, off + m * 10 + 4, none⟩ = some (.int .u64 (natLo q.1.t.calls)) := bcell1 hb (hcell 4 _ rfl)
      have r5 : wr.cell? ⟨b, off + m * 10 + 5, none⟩ = some (.int .u64 (natHi q.1.t.errors)) := bcell1 hb (hcell 5 _ rfl)
      have r6 : wr.cell? ⟨b, off + m * 10 + 6, none⟩ = some (.int .u64 (natLo q.1.t.errors)) := bcell1 hb (hcell 6 _ rfl)
      have r7 : wr.cell? ⟨b, off + m * 10 + 7, none⟩ = some (.int .u64 (natHi q.1.t.took)) := bcell1 hb (hcell 7 _ rfl)
      have r8 : wr.cell? ⟨b, off + m * 10 + 8, none⟩ = some (.int .u64 (natLo q.1.t.took)) := bcell1 hb (hcell 8 _ rfl)
      have r9 : wr.cell? ⟨b, off + m * 10 + 9, none⟩ = some (.slice q.2.1 q.2.2.1 q.2.2.2) := bcell1 hb (hcell 9 _ rfl)
      clear hi hown hb hc hcell hq
      go_wp2_with (at_builtin; refine wpList_append_own _ rfl _ _ 22 rfl V.heap.size 48 i0 (.agg #[.int .i64 0, .string ByteArray.empty, .string ByteArray.empty, .int .u64 0, .int .u64 0, .int .u64 0, .int .u64 0, .int .u64 0, .int .u64 0, .slice none 0 0]) 10 112 Try.underlying22 hi0 hz0 hz1 hz2 rfl (by decide) _ _ _ rfl (HO.out.alloc _) ⟨wr.heap.size, 0, none⟩ 1 1 (putCell q.1 q.2) rfl rfl ?c1 ?c2 ?c3 ?c4 ?c5 ?_)
      case c1 => exact fun j u h => cells_new wr (putCell q.1 q.2) 48 j u h
      case c2 => simp [putCell, Value.oneCell']
      case c3 => unfold maxLen; omega
      case c4 => omega
      case c5 => have := HB3.out.size; simp; omega
      intro v' w3 hown3 hgrow _
      have HB4 := Lib.hid (bgrown (bal HB3.out _) hgrow (HO.out.alloc _))
      have HO4 := Lib.hid (show w3.ownsRow V.heap.size 48 10 v' (k + 1) (pvCells (qs.reverse.take (k + 1))) by
        have e : qs.reverse[k]? = some q := by
          rw [List.getElem?_reverse (by omega), show qs.length - 1 - k = m by omega]
          exact HQ.out
        rw [List.take_add_one, e, pvCells_append]
        have e2 : pvCells (some q).toList = putCell q.1 q.2 := by show putCell q.1 q.2 ++ [] = _; simp
        rw [e2]
        exact hown3)
      have hwm : wrap64 ((m : Int) - 1) = (m : Int) - 1 := by unfold wrap64; omega
      clear hown3 hgrow
      go_wp2
      try rw [hwm]
      go_roundw
      case rel => exact ⟨k + 1, m, by omega, rfl, HO4.out, HB4.out⟩
      case measure => simp [intOf] <;> omega

theorem Order_any (w : World) (fan : Int) (A : Option Addr) (n c : Nat) (l : List RPut) (at_ : Int) (hl : PutsAt w A n l) (hn : n * 112 ≤ 140737488355328) (hnc : n ≤ c) :
    Calls Try.prog 4 #[.int .i64 fan, .slice A n c, .int .i64 at_] w (OrderPost w) := by
  by_cases hb : fan < 2 ∨ 16 < fan
  · exact Order_bad w fan A n c at_ hb
  obtain ⟨f, rfl⟩ : ∃ f : Nat, fan = (f : Int) := ⟨fan.toNat, by omega⟩
  by_cases h0 : at_ < 0
  · exact Order_neg w f A n c l at_ (by omega) (by omega) hl hn hnc h0
  obtain ⟨k, rfl⟩ : ∃ k : Nat, at_ = (k : Int) := ⟨at_.toNat, by omega⟩
  by_cases h1 : n < k
  · exact Order_far w f A n c l _ (by omega) (by omega) hl hn hnc k rfl h1
  · exact Order_in w f A n c l _ (by omega) (by omega) hl hn hnc k rfl (by omega)
end Go.Proofs.Ytjfeeampcgmngaa

namespace Go.Proofs.Ytjfeeampcgmngaa
open Go.RowKit Go.Shelf Go.Maps Go.ChangeShapes Go.WideShapes Go.Deep

theorem weights_mem_all {H : Type} {P : Program} {e : TypeId} {d : DataW H} {n : Nat} : ∀ {l : List (DataW H)}, d ∈ l → n ∈ d.weights P e → n ∈ DataW.weightsAll P e l
  | [], h, _ => by cases h
  | x :: l, h, hn => by
    simp only [DataW.weightsAll, List.mem_append]
    rcases List.mem_cons.1 h with rfl | h
    · exact .inl hn
    · exact .inr (weights_mem_all h hn)

theorem len1 {cs : List Value} (h : cs.length = 1) : ∃ a, cs = [a] := by
  match cs, h with
  | [a], _ => exact ⟨a, rfl⟩
theorem len2 {cs : List Value} (h : cs.length = 2) : ∃ a b, cs = [a, b] := by
  match cs, h with
  | [a, b], _ => exact ⟨a, b, rfl⟩
theorem len7 {cs : List Value} (h : cs.length = 7) : ∃ a b c d e f g, cs = [a, b, c, d, e, f, g] := by
  match cs, h with
  | [a, b, c, d, e, f, g], _ => exact ⟨a, b, c, d, e, f, g, rfl⟩
theorem len10 {cs : List Value} (h : cs.length = 10) : ∃ a b c d e f g i j k, cs = [a, b, c, d, e, f, g, i, j, k] := by
  match cs, h with
  | [a, b, c, d, e, f, g, i, j, k], _ => exact ⟨a, b, c, d, e, f, g, i, j, k, rfl⟩

theorem cellsInt64 : Try.prog.cellsOf 2 = 1 := by kernel_rfl
theorem cellsInt : Try.prog.cellsOf 3 = 1 := by kernel_rfl
theorem cellsUint64 : Try.prog.cellsOf 41 = 1 := by kernel_rfl
theorem cellsString : Try.prog.cellsOf 9 = 1 := by kernel_rfl
theorem cellsNat : Try.prog.cellsOf 43 = 2 := by kernel_rfl
theorem cellsEdge : Try.prog.cellsOf 40 = 2 := by kernel_rfl
theorem cellsBar : Try.prog.cellsOf 82 = 2 := by kernel_rfl
theorem cellsBars : Try.prog.cellsOf 44 = 1 := by kernel_rfl
theorem cellsTally : Try.prog.cellsOf 46 = 7 := by kernel_rfl
theorem cellsPut : Try.prog.cellsOf 48 = 10 := by kernel_rfl
theorem bytesBar : Try.prog.bytesOf 82 = 16 := by kernel_rfl
theorem bytesPut : Try.prog.bytesOf 48 = 112 := by kernel_rfl

section
variable {H : Type} {enc : TypeId × Value → H} {w : World} {base : Nat} {spare : Nat → Bool} {held : Bool}

theorem word_of_wf {n : Int} (h : (Lit.int .u64 n).wf = true) : Word n := by
  have := bounds_u64 h
  unfold Word
  omega

set_option maxRecDepth 100000 in
theorem open_nat {fuel : Nat} {cs : List Value} {x : DataW H × List MemPlace} (h : DataW.trod enc Try.prog w base spare held fuel 43 cs = some x) :
    ∃ n, n < M128 ∧ cs = [.int .u64 (natHi n), .int .u64 (natLo n)] := by
  obtain ⟨y0, y1, m, _, hl, h0, h1⟩ := trod_struct2 Try.underlying43 h
  rw [cellsNat] at hl
  obtain ⟨a, b, rfl⟩ := len2 hl
  obtain ⟨p, hp, _, wp⟩ := DataW.trod_int Try.underlying41 h0
  obtain ⟨q, hq, _, wq⟩ := DataW.trod_int Try.underlying41 h1
  have ha : a = .int .u64 p := by simpa [cellsUint64] using hp
  have hb : b = .int .u64 q := by simpa [cellsUint64] using hq
  subst ha
  subst hb
  obtain ⟨n, hn, h1, h2⟩ := nat_of_words (word_of_wf wp) (word_of_wf wq)
  exact ⟨n, hn, by rw [h1, h2]⟩

set_option maxRecDepth 100000 in
theorem open_edge {fuel : Nat} {cs : List Value} {x : DataW H × List MemPlace} (h : DataW.trod enc Try.prog w base spare held fuel 40 cs = some x) :
    ∃ e : Edge, EdgeOk e ∧ cs = [.string e.1, .string e.2] := by
  obtain ⟨y0, y1, m, _, hl, h0, h1⟩ := trod_struct2 Try.underlying40 h
  rw [cellsEdge] at hl
  obtain ⟨a, b, rfl⟩ := len2 hl
  obtain ⟨p, hp, _, wp⟩ := DataW.trod_string Try.underlying9 h0
  obtain ⟨q, hq, _, wq⟩ := DataW.trod_string Try.underlying9 h1
  have ha : a = .string p := by simpa [cellsString] using hp
  have hb : b = .string q := by simpa [cellsString] using hq
  subst ha
  subst hb
  exact ⟨(p, q), ⟨wp, wq⟩, rfl⟩

set_option maxRecDepth 100000 in
theorem open_bar {fuel : Nat} {cs : List Value} {x : DataW H × List MemPlace} (h : DataW.trod enc Try.prog w base spare held fuel 82 cs = some x) :
    ∃ p : RBar, (0 ≤ p.2 ∧ p.2 < 18446744073709551616) ∧ cs = [.int .i64 p.1, .int .u64 p.2] := by
  obtain ⟨y0, y1, m, _, hl, h0, h1⟩ := trod_struct2 Try.underlying82 h
  rw [cellsBar] at hl
  obtain ⟨a, b, rfl⟩ := len2 hl
  obtain ⟨p, hp, _, wp⟩ := DataW.trod_int Try.underlying3 h0
  obtain ⟨q, hq, _, wq⟩ := DataW.trod_int Try.underlying41 h1
  have ha : a = .int .i64 p := by simpa [cellsInt] using hp
  have hb : b = .int .u64 q := by simpa [cellsUint64] using hq
  subst ha
  subst hb
  have := word_of_wf wq
  exact ⟨(p, q), ⟨this.1, this.2⟩, rfl⟩

/-- The address of a row that has cells. -/
theorem plain_addr {a : Addr} {n : Nat} {cs : List Value} (h : w.cells? base a n = some cs) (hn : 0 < n) : ∃ b off, a = ⟨b, off, none⟩ := by
  obtain ⟨_, hl, hc⟩ := World.cells?_some h
  have h0 := hc 0 hn
  have : ∃ v, cs[0]? = some v := ⟨cs[0]'(by omega), List.getElem?_eq_getElem _⟩
  obtain ⟨v, hv⟩ := this
  rw [hv] at h0
  have hs : (a.add 0).spot = none := World.cell?_spot h0
  obtain ⟨b, off, spot⟩ := a
  have : spot = none := by simpa [Addr.add] using hs
  subst this
  exact ⟨b, off, rfl⟩

set_option maxRecDepth 100000 in
theorem open_bars {fuel : Nat} {v : Value} {x : DataW H × List MemPlace} (h : DataW.trod enc Try.prog w base spare held fuel 44 [v] = some x) :
    ∃ A n c l, v = .slice A n c ∧ BarsAt w A n l ∧ RawOk l ∧ n ≤ c ∧ (0 < n → n * 16 ≤ (match x.1 with | .slice elems spare => (elems.length + spare.length) * 16 | _ => 0) ∧ ∃ elems spare, x.1 = .slice elems spare) := by
  rcases open_slice Try.underlying44 h with ⟨hcs, rfl⟩ | ⟨a, len, cap, m, n, D, Pl, hcs, hb, hl, hm, hmm, rfl, hx⟩
  · simp only [List.cons.injEq, and_true] at hcs
    subst hcs
    exact ⟨none, 0, 0, [], rfl, ⟨rfl, fun h => by omega⟩, by intro p hp; simp at hp, Nat.le_refl _, fun h => by omega⟩
  · simp only [List.cons.injEq, and_true] at hcs
    subst hcs
    have hlm : len ≤ m := by rw [hmm]; split <;> omega
    rcases Nat.eq_zero_or_pos len with h0 | h0
    · subst h0
      exact ⟨some a, 0, cap, [], rfl, ⟨rfl, fun h => by omega⟩, by intro p hp; simp at hp, hl, fun h => by omega⟩
    · rw [cellsBar] at hx
      obtain ⟨b, off, rfl⟩ : ∃ b off, a = ⟨b, off, none⟩ := by
        obtain ⟨cs0, hc0, _⟩ := hx 0 (by omega)
        simp only [Nat.zero_mul] at hc0
        obtain ⟨b, off, e⟩ := plain_addr hc0 (by omega)
        have e' : a = ⟨b, off, none⟩ := by simpa [Addr.add] using e
        exact ⟨b, off, e'⟩
      have hp : ∀ i, i < len → ∃ p : RBar, (0 ≤ p.2 ∧ p.2 < 18446744073709551616) ∧ w.cell? ⟨b, off + i * 2, none⟩ = some (.int .i64 p.1) ∧ w.cell? ⟨b, off + i * 2 + 1, none⟩ = some (.int .u64 p.2) := fun i hi => by
        obtain ⟨cs', hc', ht⟩ := hx i (by omega)
        obtain ⟨p, hp, rfl⟩ := open_bar ht
        obtain ⟨_, _, hcell⟩ := World.cells?_some hc'
        have c0 := hcell 0 (by omega)
        have c1 := hcell 1 (by omega)
        rw [Go.WideShapes.add_plain, Go.WideShapes.add_plain] at c0 c1
        exact ⟨p, hp, c0, c1⟩
      haveI : Inhabited RBar := ⟨(0, 0)⟩
      obtain ⟨F, hF⟩ := choose_lt hp
      refine ⟨some ⟨b, off, none⟩, len, cap, (List.range len).map F, rfl, ⟨by simp, fun _ => ⟨b, off, rfl, fun i j c hi => ?_⟩⟩, fun p hp => ?_, hl, fun _ => ⟨?_, _, _, rfl⟩⟩
      · rw [List.getElem?_map] at hi
        by_cases hil : i < len
        · rw [List.getElem?_range hil] at hi
          simp only [Option.map_some, Option.some.injEq] at hi
          have := hF i hil
          rw [hi] at this
          exact this.2
        · rw [List.getElem?_eq_none (by simpa using hil)] at hi
          cases hi
      · obtain ⟨i, hi, rfl⟩ := List.mem_map.1 hp
        exact (hF i (List.mem_range.1 hi)).1
      · show len * 16 ≤ _
        simp
        omega

theorem trod_struct4 {P : Program} {t : TypeId} {f0 f1 f2 f3 : Field} {fuel : Nat} {cs : List Value} {x : DataW H × List MemPlace} (ht : P.underlying t = some (.struct #[f0, f1, f2, f3])) (h : DataW.trod enc P w base spare held fuel t cs = some x) :
    ∃ y0 y1 y2 y3 n ps, x = (.agg [y0.1, y1.1, y2.1, y3.1], ps) ∧ cs.length = P.cellsOf t ∧ DataW.trod enc P w base spare held n f0.type ((cs.drop f0.offset).take (P.cellsOf f0.type)) = some y0 ∧
      DataW.trod enc P w base spare held n f1.type ((cs.drop f1.offset).take (P.cellsOf f1.type)) = some y1 ∧ DataW.trod enc P w base spare held n f2.type ((cs.drop f2.offset).take (P.cellsOf f2.type)) = some y2 ∧
      DataW.trod enc P w base spare held n f3.type ((cs.drop f3.offset).take (P.cellsOf f3.type)) = some y3 := by
  obtain ⟨xs, n, _, rfl, hl, hlen, hf⟩ := DataW.trod_struct ht h
  match xs, hlen with
  | [y0, y1, y2, y3], _ => exact ⟨y0, y1, y2, y3, n, _, rfl, hl, by simpa using hf 0 f0 rfl, by simpa using hf 1 f1 rfl, by simpa using hf 2 f2 rfl, by simpa using hf 3 f3 rfl⟩

set_option maxRecDepth 100000 in
theorem open_tally {fuel : Nat} {cs : List Value} {x : DataW H × List MemPlace} (h : DataW.trod enc Try.prog w base spare held fuel 46 cs = some x) (hsz : ∀ n ∈ x.1.weights Try.prog 46, n ≤ reachBytes) :
    ∃ (t : RTal) (y : SL), t.Num ∧ TalAt w (talVal t.calls t.errors t.took (.slice y.1 y.2.1 y.2.2)) t ∧ cs = [.int .u64 (natHi t.calls), .int .u64 (natLo t.calls), .int .u64 (natHi t.errors), .int .u64 (natLo t.errors), .int .u64 (natHi t.took), .int .u64 (natLo t.took), .slice y.1 y.2.1 y.2.2] := by
  obtain ⟨y0, y1, y2, y3, m, ps, rfl, hl, h0, h1, h2, h3⟩ := trod_struct4 Try.underlying46 h
  rw [cellsTally] at hl
  obtain ⟨a, b, c, d, e, f, g, rfl⟩ := len7 hl
  simp only [cellsNat, cellsBars, List.drop_succ_cons, List.drop_zero, List.take_succ_cons, List.take_zero] at h0 h1 h2 h3
  obtain ⟨n0, hn0, e0⟩ := open_nat h0
  obtain ⟨n1, hn1, e1⟩ := open_nat h1
  obtain ⟨n2, hn2, e2⟩ := open_nat h2
  obtain ⟨A, n, cp, l, e3, hb, hr, hnc, hw⟩ := open_bars h3
  simp only [List.cons.injEq, and_true] at e0 e1 e2
  obtain ⟨rfl, rfl⟩ := e0
  obtain ⟨rfl, rfl⟩ := e1
  obtain ⟨rfl, rfl⟩ := e2
  subst e3
  refine ⟨⟨n0, n1, n2, l⟩, (A, n, cp), ⟨hn0, hn1, hn2, hr⟩, ⟨A, n, cp, rfl, hb, ?_, hnc⟩, rfl⟩
  rcases Nat.eq_zero_or_pos n with hz | hz
  · omega
  · obtain ⟨h4, els, sp, h5⟩ := hw hz
    rw [h5] at h4
    have h6 := hsz ((els.length + sp.length) * 16) (by
      show _ ∈ DataW.weights Try.prog 46 (.agg [y0.1, y1.1, y2.1, y3.1])
      rw [DataW.weights, Try.underlying46]
      refine DataW.weights_mem_each (j := 3) (t := 44) rfl rfl _ ?_
      rw [h5]
      simp [DataW.weights, Try.underlying44, bytesBar])
    unfold reachBytes at h6
    simp only at h4
    omega

set_option maxRecDepth 100000 in
theorem open_put {fuel : Nat} {cs : List Value} {x : DataW H × List MemPlace} (h : DataW.trod enc Try.prog w base spare held fuel 48 cs = some x) (hsz : ∀ n ∈ x.1.weights Try.prog 48, n ≤ reachBytes) :
    ∃ (p : RPut) (y : SL), p.t.Num ∧ EdgeOk p.e ∧ TalAt w (talVal p.t.calls p.t.errors p.t.took (.slice y.1 y.2.1 y.2.2)) p.t ∧ cs = putCell p y := by
  obtain ⟨y0, y1, y2, m, rfl, hl, h0, h1, h2⟩ := trod_struct3 Try.underlying48 h
  rw [cellsPut] at hl
  obtain ⟨a, b, c, d, e, f, g, i, j, k, rfl⟩ := len10 hl
  simp only [cellsEdge, cellsTally, cellsInt64, List.drop_succ_cons, List.drop_zero, List.take_succ_cons, List.take_zero] at h0 h1 h2
  obtain ⟨hr, e0, _, _⟩ := DataW.trod_int Try.underlying2 h0
  obtain ⟨ed, hed, e1⟩ := open_edge h1
  obtain ⟨t, y, ht, hta, e2⟩ := open_tally h2 (fun n hn => hsz n (by
    show n ∈ DataW.weights Try.prog 48 (.agg [y0.1, y1.1, y2.1])
    rw [DataW.weights, Try.underlying48]
    exact DataW.weights_mem_each (j := 2) (t := 46) rfl rfl _ hn))
  simp only [List.cons.injEq, and_true] at e0 e1 e2
  obtain ⟨rfl⟩ := e0
  obtain ⟨rfl, rfl⟩ := e1
  obtain ⟨rfl, rfl, rfl, rfl, rfl, rfl, rfl⟩ := e2
  exact ⟨⟨hr, ed, t⟩, y, ht, hed, hta, rfl⟩

set_option maxRecDepth 100000 in
/-- A list of puts that came in. -/
theorem open_puts {v : Value} {d : DataW H} {ps : List MemPlace} (h : DataW.Trod enc Try.prog w base spare held 22 v d ps) (hv : ∃ A n c, v = .slice A n c) (hsz : ∀ n ∈ d.weights Try.prog 22, n ≤ reachBytes) :
    ∃ A n c l, v = .slice A n c ∧ n ≤ c ∧ n * 112 ≤ 140737488355328 ∧ PutsAt w A n l := by
  obtain ⟨A, n, c, rfl⟩ := hv
  obtain ⟨fuel, hf⟩ := h
  rcases open_slice Try.underlying22 hf with ⟨hcs, _⟩ | ⟨a, len, cap, m, k, D, Pl, hcs, hb, hl, hm, hmm, hx0, hx⟩
  · simp only [Value.cells, List.cons.injEq, and_true, Value.slice.injEq] at hcs
    obtain ⟨rfl, rfl, rfl⟩ := hcs
    exact ⟨none, 0, 0, [], rfl, Nat.le_refl _, by omega, rfl, by intro p hp; simp at hp, [], rfl, by intro i p x hp; simp at hp, fun h => by omega⟩
  · simp only [Value.cells, List.cons.injEq, and_true, Value.slice.injEq] at hcs
    obtain ⟨rfl, rfl, rfl⟩ := hcs
    have hlm : n ≤ m := by rw [hmm]; split <;> omega
    simp only [Prod.mk.injEq] at hx0
    obtain ⟨rfl, _⟩ := hx0
    rw [cellsPut] at hx
    have hn112 : n * 112 ≤ 140737488355328 := by
      have := hsz (((List.range n).map D).length * 112 + ((List.range (m - n)).map fun j => D (n + j)).length * 112) (by
        simp only [DataW.weights, Try.underlying22, bytesPut, Nat.add_mul]
        exact List.mem_cons_self)
      unfold reachBytes at this
      simp at this
      omega
    have hp : ∀ i, i < n → ∃ q : RPut × SL, (q.1.t.Num ∧ EdgeOk q.1.e) ∧ TalAt w (talVal q.1.t.calls q.1.t.errors q.1.t.took (.slice q.2.1 q.2.2.1 q.2.2.2)) q.1.t ∧ ∃ cs, w.cells? base (a.add (i * 10)) 10 = some cs ∧ cs = putCell q.1 q.2 := fun i hi => by
      obtain ⟨cs', hc', ht⟩ := hx i (by omega)
      obtain ⟨p, y, h1, h2, h3, h4⟩ := open_put ht (fun z hz => hsz z (by
        simp only [DataW.weights, Try.underlying22]
        refine List.mem_cons_of_mem _ (List.mem_append_left _ (weights_mem_all (List.mem_map.2 ⟨i, List.mem_range.2 hi, rfl⟩) hz))))
      exact ⟨(p, y), ⟨h1, h2⟩, h3, cs', hc', h4⟩
    haveI : Inhabited (RPut × SL) := ⟨(⟨0, (ByteArray.empty, ByteArray.empty), ⟨0, 0, 0, []⟩⟩, (none, 0, 0))⟩
    obtain ⟨F, hF⟩ := choose_lt hp
    have hget : ∀ (i : Nat) (q : RPut × SL), ((List.range n).map F)[i]? = some q → i < n ∧ q = F i := fun i q hi => by
      rw [List.getElem?_map] at hi
      by_cases hil : i < n
      · rw [List.getElem?_range hil] at hi
        simp only [Option.map_some, Option.some.injEq] at hi
        exact ⟨hil, hi.symm⟩
      · rw [List.getElem?_eq_none (by simpa using hil)] at hi
        cases hi
    have hget1 : ∀ (i : Nat) (p : RPut), ((List.range n).map fun i => (F i).1)[i]? = some p → i < n ∧ p = (F i).1 := fun i p hi => by
      rw [List.getElem?_map] at hi
      by_cases hil : i < n
      · rw [List.getElem?_range hil] at hi
        simp only [Option.map_some, Option.some.injEq] at hi
        exact ⟨hil, hi.symm⟩
      · rw [List.getElem?_eq_none (by simpa using hil)] at hi
        cases hi
    have hget2 : ∀ (i : Nat) (p : SL), ((List.range n).map fun i => (F i).2)[i]? = some p → i < n ∧ p = (F i).2 := fun i p hi => by
      rw [List.getElem?_map] at hi
      by_cases hil : i < n
      · rw [List.getElem?_range hil] at hi
        simp only [Option.map_some, Option.some.injEq] at hi
        exact ⟨hil, hi.symm⟩
      · rw [List.getElem?_eq_none (by simpa using hil)] at hi
        cases hi
    refine ⟨some a, n, c, (List.range n).map (fun i => (F i).1), rfl, hl, hn112, by simp, fun p hp => ?_, (List.range n).map (fun i => (F i).2), by simp, fun i p x hp hx => ?_, fun h0 => ?_⟩
    · obtain ⟨i, hi, rfl⟩ := List.mem_map.1 hp
      exact (hF i (List.mem_range.1 hi)).1
    · obtain ⟨hi, rfl⟩ := hget1 i p hp
      obtain ⟨_, rfl⟩ := hget2 i x hx
      exact (hF i hi).2.1
    · obtain ⟨b, off, rfl⟩ : ∃ b off, a = ⟨b, off, none⟩ := by
        obtain ⟨_, _, cs0, hc0, _⟩ := hF 0 h0
        simp only [Nat.zero_mul] at hc0
        obtain ⟨b, off, e⟩ := plain_addr hc0 (by omega)
        exact ⟨b, off, by simpa [Addr.add] using e⟩
      refine ⟨b, off, rfl, fun i p x hp hx j u hu => ?_⟩
      obtain ⟨hi, rfl⟩ := hget1 i p hp
      obtain ⟨_, rfl⟩ := hget2 i x hx
      obtain ⟨_, _, cs, hc, he⟩ := hF i hi
      subst he
      obtain ⟨_, hlen, hcell⟩ := World.cells?_some hc
      have hj : j < 10 := (List.getElem?_eq_some_iff.1 hu).1
      have := hcell j hj
      rw [Go.WideShapes.add_plain, Go.WideShapes.add_plain, hu] at this
      exact this
end
end Go.Proofs.Ytjfeeampcgmngaa

namespace Go.Proofs.Ytjfeeampcgmngaa
open Go.RowKit Go.Shelf Go.Maps Go.ChangeShapes Go.WideShapes Go.ChangeAt

theorem ordOwn : ownKnob Try.prog.godebug = none := by kernel_rfl
theorem ordLaidOut : laidOutB Try.prog = true := by kernel_rfl

set_option maxRecDepth 100000 in
theorem order_lifted (os : Os) (started : os.Started) (H : Type) (enc : TypeId × Value → H) :
    ReturnsInHanded {} Try.checked os 4 .any (Rows.rollupOrderSpec.pre6 enc Try.prog Try.f4 Rows.rollupOrderRow.domain false) (Rows.rollupOrderSpec.post enc Try.prog Try.f4 false true false false) := by
  refine returnsInHanded_of_change_sized (C := Try.checked) ordOwn started (by kernel_rfl) Try.func4
    (ChangeSpec.witness6 (enc := enc) (C := Try.checked) false ⟨#[], #[.int .i64 0, .slice none 0 0, .int .i64 0], []⟩ 8 (by kernel_rfl) (by kernel_rfl) (by kernel_rfl) (by kernel_rfl)) ?_
  intro W base args ds gs before hval0 hW _ hsz0 _
  have hsz : (DataW.weightsEach Try.prog (Try.f4.params.toList ++ Rows.rollupOrderSpec.plain.varTypes Try.prog) (ds ++ gs)).all (· ≤ reachBytes) = true := hsz0
  clear hsz0
  have hval : ∀ (j : Nat) t v, Try.f4.params[j]? = some t → args[j]? = some v → Value.okWide Try.prog W .any base t v := hval0
  have hW' := hW
  obtain ⟨p, q, hA0, hV, rfl, _, _⟩ := hW
  have hA : DataW.TrodAll enc Try.prog W 0 (fun _ => true) true Try.f4.params.toList args.toList ds p := hA0
  rw [Try.params4] at hA hval hsz
  obtain ⟨v0, v1, v2, d0, d1, d2, p0, p1, p2, rfl, rfl, rfl, h0, h1, h2⟩ := trodAll_three hA
  obtain ⟨rfl, rfl⟩ := trodVars_none hV
  obtain ⟨fan, rfl, rfl, rfl, wf⟩ := open_int Try.underlying3 (hval 0 3 v0 rfl rfl) h0
  obtain ⟨at_, rfl, rfl, rfl, wa⟩ := open_int Try.underlying3 (hval 2 3 v2 rfl rfl) h2
  have hsl := okWide_slice Try.underlying22 (hval 1 22 v1 rfl rfl)
  have h1k := h1
  have hreach : ∀ n ∈ d1.weights Try.prog 22, n ≤ reachBytes := fun n hn => by
    simpa using List.all_eq_true.1 hsz _ (DataW.weights_mem_each (j := 1) (t := 22) (d := d1) rfl rfl n hn)
  clear hA0 hval0
  simp only [List.append_nil] at hW'
  have hlt : ∀ x ∈ p1, x.block < W.heap.size := fun x hx => by
    have := hW'.lt x (by simp [hx])
    simpa using this
  have hargs : ∀ (W' : World), Below W.heap.size W W' → DataW.Trod enc Try.prog W' 0 (fun b => decide (b < W.heap.size)) true 22 v1 d1 p1 :=
    fun W' hn => Below.trod ordLaidOut (by kernel_rfl) (of_decide_eq_true (by kernel_rfl)) h1k hn hlt
  obtain ⟨A, n, c, l, rfl, hnc, hn, hp⟩ := open_puts h1 hsl hreach
  refine (Order_any W fan A n c l at_ hp hn hnc).mono fun e W' ⟨he, hb⟩ => ?_
  subst he
  refine ⟨_, rfl, _, _, _, [], [] ++ (p1 ++ []), [], hW', ?_, ?_, rfl, hb.frame _, fun h => by cases h⟩
  · exact trodAll_mk1 (shut_bool Try.underlying4 _)
  · exact trodAll_mk3 (shut_int Try.underlying3 wf) (hargs _ hb) (shut_int Try.underlying3 wa)

theorem order_holds : Rows.RollupOrderSaid :=
  OpenClaim.holds_of_wide 4 Try.f4 rfl rfl rfl rfl rfl rfl rfl ⟨rfl, rfl, rfl, rfl, rfl⟩ rfl rfl rfl rfl rfl (by kernel_rfl) Try.func4 (by kernel_rfl)
    (of_decide_eq_true (by kernel_rfl)) (by unfold Func.isWrapper; first | (rw [if_pos (by decide +kernel)]; kernel_rfl) | (rw [if_neg (by decide +kernel)]; exact ⟨rfl, rfl⟩))
    (fun os started H enc _ => order_lifted os started H enc)
end Go.Proofs.Ytjfeeampcgmngaa
