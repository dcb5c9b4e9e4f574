/- The plain mathematics of tallies: sums that stop at the greatest number, bars as rows, sorted lists of edges; no program stands in this text. -/
namespace Go.Proofs.Ytjfeeampcgmngaa

def M64 : Nat := 18446744073709551616
def M128 : Nat := 340282366920938463463374607431768211456
theorem M64_pos : 1 < M64 := by decide
theorem M128_pos : 1 < M128 := by decide

/-! ### sums that stop -/
def satAdd (m a b : Nat) : Nat := min (a + b) (m - 1)
theorem satAdd_comm (m a b : Nat) : satAdd m a b = satAdd m b a := by unfold satAdd; omega
theorem satAdd_assoc (m a b c : Nat) : satAdd m (satAdd m a b) c = satAdd m a (satAdd m b c) := by unfold satAdd; omega
theorem satAdd_zero {m a : Nat} (h : a < m) : satAdd m 0 a = a := by unfold satAdd; omega
theorem satAdd_lt {m : Nat} (a b : Nat) (h : 0 < m) : satAdd m a b < m := by unfold satAdd; omega
theorem satAdd_eq_zero {m a b : Nat} (h : 1 < m) (h0 : satAdd m a b = 0) : a = 0 ∧ b = 0 := by unfold satAdd at h0; omega

/-! ### bars -/
def cnt : List (Nat × Nat) → Nat → Nat
  | [], _ => 0
  | (j, c) :: l, i => if j = i then c else cnt l i

def Valid : Nat → List (Nat × Nat) → Prop
  | _, [] => True
  | lo, (j, c) :: l => lo ≤ j ∧ j < 1920 ∧ 0 < c ∧ c < M64 ∧ Valid (j + 1) l

def canon (f : Nat → Nat) : Nat → Nat → List (Nat × Nat)
  | _, 0 => []
  | lo, n + 1 => if f lo = 0 then canon f (lo + 1) n else (lo, f lo) :: canon f (lo + 1) n

theorem Valid.mono : ∀ {l : List (Nat × Nat)} {lo lo' : Nat}, Valid lo l → lo' ≤ lo → Valid lo' l
  | [], _, _, _, _ => trivial
  | (_, _) :: _, _, _, h, hl => ⟨Nat.le_trans hl h.1, h.2⟩

theorem cnt_below : ∀ {l : List (Nat × Nat)} {lo i : Nat}, Valid lo l → i < lo → cnt l i = 0
  | [], _, _, _, _ => rfl
  | (j, c) :: l, lo, i, h, hi => by
    obtain ⟨h1, _, _, _, h5⟩ := h
    unfold cnt
    rw [if_neg (by omega)]
    exact cnt_below h5 (by omega)

theorem cnt_lt : ∀ {l : List (Nat × Nat)} {lo : Nat}, Valid lo l → ∀ i, cnt l i < M64
  | [], _, _, _ => by unfold cnt; decide
  | (j, c) :: l, lo, h, i => by
    obtain ⟨_, _, _, h4, h5⟩ := h
    unfold cnt
    split
    · exact h4
    · exact cnt_lt h5 i

theorem cnt_canon (f : Nat → Nat) : ∀ (n lo i : Nat), cnt (canon f lo n) i = if lo ≤ i ∧ i < lo + n then f i else 0
  | 0, lo, i => by
    unfold canon cnt
    rw [if_neg (by omega)]
  | n + 1, lo, i => by
    unfold canon
    have ih := cnt_canon f n (lo + 1) i
    by_cases h0 : f lo = 0
    · rw [if_pos h0, ih]
      by_cases hi : i = lo
      · subst hi
        rw [if_neg (by omega), if_pos (by omega), h0]
      · by_cases hc : lo + 1 ≤ i ∧ i < lo + 1 + n
        · rw [if_pos hc, if_pos (by omega)]
        · rw [if_neg hc, if_neg (by omega)]
    · rw [if_neg h0]
      unfold cnt
      by_cases hi : lo = i
      · subst hi
        rw [if_pos rfl, if_pos (by omega)]
      · rw [if_neg hi, ih]
        by_cases hc : lo + 1 ≤ i ∧ i < lo + 1 + n
        · rw [if_pos hc, if_pos (by omega)]
        · rw [if_neg hc, if_neg (by omega)]

theorem canon_congr {f g : Nat → Nat} : ∀ (n lo : Nat), (∀ i, lo ≤ i → i < lo + n → f i = g i) → canon f lo n = canon g lo n
  | 0, _, _ => rfl
  | n + 1, lo, h => by
    unfold canon
    rw [h lo (by omega) (by omega), canon_congr n (lo + 1) (fun i h1 h2 => h i (by omega) (by omega))]

theorem valid_canon {f : Nat → Nat} (hf : ∀ i, f i < M64) : ∀ (n lo : Nat), lo + n ≤ 1920 → Valid lo (canon f lo n)
  | 0, _, _ => trivial
  | n + 1, lo, h => by
    unfold canon
    have ih := valid_canon hf n (lo + 1) (by omega)
    split
    · exact ih.mono (by omega)
    · rename_i h0
      exact ⟨Nat.le_refl _, by omega, by omega, hf lo, ih⟩

theorem canon_cnt : ∀ (n lo : Nat) (l : List (Nat × Nat)), lo + n = 1920 → Valid lo l → canon (cnt l) lo n = l
  | 0, lo, [], _, _ => rfl
  | 0, lo, (j, c) :: l, h, hv => by
    obtain ⟨h1, h2, _⟩ := hv
    omega
  | n + 1, lo, [], h, hv => by
    unfold canon
    rw [if_pos (by rfl)]
    exact canon_cnt n (lo + 1) [] (by omega) trivial
  | n + 1, lo, (j, c) :: l, h, hv => by
    by_cases hj : j = lo
    · subst hj
      obtain ⟨_, _, h3, _, h5⟩ := hv
      have hc : cnt ((j, c) :: l) j = c := by unfold cnt; rw [if_pos rfl]
      unfold canon
      rw [hc, if_neg (by omega)]
      congr 1
      rw [canon_congr (g := cnt l) n (j + 1) (fun i h1 _ => by
        show cnt ((j, c) :: l) i = cnt l i
        conv => lhs; unfold cnt
        rw [if_neg (by omega)])]
      exact canon_cnt n (j + 1) l (by omega) h5
    · have hv' : Valid (lo + 1) ((j, c) :: l) := ⟨by have := hv.1; omega, hv.2⟩
      unfold canon
      rw [if_pos (cnt_below hv' (by omega))]
      exact canon_cnt n (lo + 1) _ (by omega) hv'

theorem canon_zero {f : Nat → Nat} : ∀ (n lo : Nat), canon f lo n = [] → ∀ i, lo ≤ i → i < lo + n → f i = 0
  | 0, _, _, _, _, _ => by omega
  | n + 1, lo, h, i, h1, h2 => by
    unfold canon at h
    split at h
    · rename_i h0
      by_cases hi : i = lo
      · subst hi; exact h0
      · exact canon_zero n (lo + 1) h i (by omega) (by omega)
    · cases h

theorem canon_of_zero {f : Nat → Nat} (n lo : Nat) (h : ∀ i, lo ≤ i → i < lo + n → f i = 0) : canon f lo n = [] := by
  induction n generalizing lo with
  | zero => rfl
  | succ n ih =>
    unfold canon
    rw [if_pos (h lo (by omega) (by omega))]
    exact ih (lo + 1) (fun i h1 h2 => h i (by omega) (by omega))

def addBars (a b : List (Nat × Nat)) : List (Nat × Nat) := canon (fun i => satAdd M64 (cnt a i) (cnt b i)) 0 1920

theorem addBars_comm (a b : List (Nat × Nat)) : addBars a b = addBars b a := by
  unfold addBars
  exact canon_congr _ _ fun i _ _ => satAdd_comm _ _ _

theorem cnt_addBars (a b : List (Nat × Nat)) {i : Nat} (hi : i < 1920) : cnt (addBars a b) i = satAdd M64 (cnt a i) (cnt b i) := by
  unfold addBars
  rw [cnt_canon, if_pos (by omega)]

theorem addBars_assoc (a b c : List (Nat × Nat)) : addBars (addBars a b) c = addBars a (addBars b c) := by
  show canon _ _ _ = canon _ _ _
  refine canon_congr _ _ fun i _ hi => ?_
  rw [cnt_addBars a b (by omega), cnt_addBars b c (by omega), satAdd_assoc]

theorem addBars_nil {b : List (Nat × Nat)} (h : Valid 0 b) : addBars [] b = b := by
  unfold addBars
  rw [canon_congr (g := cnt b) _ _ (fun i _ _ => by show satAdd M64 0 (cnt b i) = _; exact satAdd_zero (cnt_lt h i))]
  exact canon_cnt 1920 0 b rfl h

theorem valid_addBars (a b : List (Nat × Nat)) : Valid 0 (addBars a b) := valid_canon (fun _ => satAdd_lt _ _ (by decide)) _ _ (by omega)

theorem addBars_eq_nil {a b : List (Nat × Nat)} (ha : Valid 0 a) (h : addBars a b = []) : a = [] := by
  have h0 := canon_zero _ _ h
  rw [← canon_cnt 1920 0 a rfl ha]
  exact canon_of_zero _ _ fun i h1 h2 => (satAdd_eq_zero (by decide) (h0 i h1 h2)).1

/-! ### tallies -/
structure Tal where
  calls : Nat
  errors : Nat
  took : Nat
  bars : List (Nat × Nat)

def tzero : Tal := ⟨0, 0, 0, []⟩
structure Tal.Ok (t : Tal) : Prop where
  calls : t.calls < M128
  errors : t.errors < M128
  took : t.took < M128
  bars : Valid 0 t.bars

def tadd (a b : Tal) : Tal := ⟨satAdd M128 a.calls b.calls, satAdd M128 a.errors b.errors, satAdd M128 a.took b.took, addBars a.bars b.bars⟩

theorem tzero_ok : tzero.Ok := ⟨by decide, by decide, by decide, trivial⟩
theorem tadd_ok (a b : Tal) : (tadd a b).Ok := ⟨satAdd_lt _ _ (by decide), satAdd_lt _ _ (by decide), satAdd_lt _ _ (by decide), valid_addBars _ _⟩
theorem tadd_comm (a b : Tal) : tadd a b = tadd b a := by
  unfold tadd
  rw [satAdd_comm _ a.calls, satAdd_comm _ a.errors, satAdd_comm _ a.took, addBars_comm]
theorem tadd_assoc (a b c : Tal) : tadd (tadd a b) c = tadd a (tadd b c) := by
  unfold tadd
  simp only [satAdd_assoc, addBars_assoc]
theorem tzero_tadd {b : Tal} (h : b.Ok) : tadd tzero b = b := by
  unfold tadd tzero
  simp only [satAdd_zero h.calls, satAdd_zero h.errors, satAdd_zero h.took, addBars_nil h.bars]
theorem tadd_tzero {b : Tal} (h : b.Ok) : tadd b tzero = b := by rw [tadd_comm]; exact tzero_tadd h
theorem tadd_eq_zero {a b : Tal} (ha : a.Ok) (h : tadd a b = tzero) : a = tzero := by
  unfold tadd tzero at h
  simp only [Tal.mk.injEq] at h
  obtain ⟨h1, h2, h3, h4⟩ := h
  have e1 := (satAdd_eq_zero (by decide) h1).1
  have e2 := (satAdd_eq_zero (by decide) h2).1
  have e3 := (satAdd_eq_zero (by decide) h3).1
  have e4 := addBars_eq_nil ha.bars h4
  cases a
  simp only at e1 e2 e3 e4
  rw [e1, e2, e3, e4]
  rfl

/-- The sum of a list of tallies. -/
def tsum : List Tal → Tal
  | [] => tzero
  | t :: l => tadd t (tsum l)
theorem tsum_ok : ∀ (l : List Tal), (tsum l).Ok
  | [] => tzero_ok
  | _ :: _ => tadd_ok _ _
theorem tsum_append : ∀ (l m : List Tal), tsum (l ++ m) = tadd (tsum l) (tsum m)
  | [], m => (tzero_tadd (tsum_ok m)).symm
  | t :: l, m => by
    show tadd t (tsum (l ++ m)) = tadd (tadd t (tsum l)) (tsum m)
    rw [tsum_append l m, tadd_assoc]
theorem tsum_perm {l m : List Tal} (h : l.Perm m) : tsum l = tsum m := by
  induction h with
  | nil => rfl
  | cons x _ ih => show tadd x _ = tadd x _; rw [ih]
  | swap x y l =>
    show tadd y (tadd x (tsum l)) = tadd x (tadd y (tsum l))
    rw [← tadd_assoc, ← tadd_assoc, tadd_comm y x]
  | trans _ _ ih1 ih2 => exact ih1.trans ih2
theorem tsum_zero : ∀ (l : List Tal), (∀ t ∈ l, t = tzero) → tsum l = tzero
  | [], _ => rfl
  | t :: l, h => by
    show tadd t (tsum l) = tzero
    rw [h t (by simp), tsum_zero l (fun x hx => h x (by simp [hx]))]
    exact tzero_tadd tzero_ok
theorem tsum_eq_zero : ∀ (l : List Tal), (∀ t ∈ l, t.Ok) → tsum l = tzero → ∀ t ∈ l, t = tzero
  | [], _, _, t, ht => by cases ht
  | x :: l, hok, h, t, ht => by
    have h' : tadd x (tsum l) = tzero := h
    have hx := tadd_eq_zero (hok x (by simp)) h'
    have hl : tsum l = tzero := tadd_eq_zero (tsum_ok l) (by rw [tadd_comm]; exact h')
    rcases List.mem_cons.1 ht with rfl | ht
    · exact hx
    · exact tsum_eq_zero l (fun y hy => hok y (by simp [hy])) hl t ht
theorem tsum_add {α : Type} (f g : α → Tal) : ∀ (l : List α), tsum (l.map fun x => tadd (f x) (g x)) = tadd (tsum (l.map f)) (tsum (l.map g))
  | [] => (tzero_tadd tzero_ok).symm
  | x :: l => by
    show tadd (tadd (f x) (g x)) (tsum (l.map fun x => tadd (f x) (g x))) = tadd (tadd (f x) (tsum (l.map f))) (tadd (g x) (tsum (l.map g)))
    rw [tsum_add f g l, tadd_assoc, tadd_assoc, ← tadd_assoc (g x), tadd_comm (g x) (tsum (l.map f)), tadd_assoc]

/-- Only one of a list without doubles counts. -/
theorem tsum_one {f : Nat → Tal} (h : Nat) : ∀ (l : List Nat), l.Nodup → (h ∈ l ∨ f h = tzero) → (f h).Ok → tsum (l.map fun x => if x = h then f x else tzero) = f h
  | [], _, hm, _ => by
    rcases hm with hm | hm
    · cases hm
    · exact hm.symm
  | x :: l, hn, hm, hok => by
    have hn' := List.nodup_cons.1 hn
    show tadd (if x = h then f x else tzero) (tsum (l.map fun x => if x = h then f x else tzero)) = f h
    by_cases hx : x = h
    · subst hx
      rw [if_pos rfl, tsum_zero _ (fun t ht => by
        obtain ⟨y, hy, rfl⟩ := List.mem_map.1 ht
        rw [if_neg]
        intro e
        subst e
        exact hn'.1 hy)]
      exact tadd_tzero hok
    · rw [if_neg hx, tzero_tadd (tsum_ok _)]
      refine tsum_one h l hn'.2 ?_ hok
      rcases hm with hm | hm
      · rcases List.mem_cons.1 hm with e | hm
        · exact absurd e.symm hx
        · exact .inl hm
      · exact .inr hm

/-! ### the tallies of some hours -/
abbrev Edge := ByteArray × ByteArray
abbrev Cont := Nat → Edge → Tal
/-- What the n hours from lo on come to, at an edge. -/
def hsum (M : Cont) (e : Edge) : Nat → Nat → Tal
  | _, 0 => tzero
  | lo, n + 1 => tadd (M lo e) (hsum M e (lo + 1) n)
theorem hsum_ok (M : Cont) (e : Edge) : ∀ lo n, (hsum M e lo n).Ok
  | _, 0 => tzero_ok
  | _, _ + 1 => tadd_ok _ _
theorem hsum_append (M : Cont) (e : Edge) : ∀ (a b lo : Nat), hsum M e lo (a + b) = tadd (hsum M e lo a) (hsum M e (lo + a) b)
  | 0, b, lo => by
    rw [Nat.zero_add, Nat.add_zero]
    exact (tzero_tadd (hsum_ok M e lo b)).symm
  | a + 1, b, lo => by
    rw [show a + 1 + b = (a + b) + 1 by omega]
    show tadd (M lo e) (hsum M e (lo + 1) (a + b)) = tadd (tadd (M lo e) (hsum M e (lo + 1) a)) (hsum M e (lo + (a + 1)) b)
    rw [hsum_append M e a b (lo + 1), tadd_assoc, show lo + 1 + a = lo + (a + 1) by omega]
theorem hsum_one (M : Cont) (e : Edge) (lo : Nat) (h : (M lo e).Ok) : hsum M e lo 1 = M lo e := tadd_tzero h
/-- Summed up over any list of hours that has all that have something, once each. -/
theorem hsum_list (M : Cont) (e : Edge) (hs : List Nat) (hn : hs.Nodup) (hok : ∀ h, (M h e).Ok) (hall : ∀ h, M h e ≠ tzero → h ∈ hs) :
    ∀ (n lo : Nat), tsum (hs.map fun h => if lo ≤ h ∧ h < lo + n then M h e else tzero) = hsum M e lo n
  | 0, lo => tsum_zero _ fun t ht => by
    obtain ⟨y, _, rfl⟩ := List.mem_map.1 ht
    rw [if_neg (by omega)]
  | n + 1, lo => by
    have ih := hsum_list M e hs hn hok hall n (lo + 1)
    have h1 := tsum_one (f := fun h => M h e) lo hs hn (by
      by_cases h0 : M lo e = tzero
      · exact .inr h0
      · exact .inl (hall lo h0)) (hok lo)
    show _ = tadd (M lo e) (hsum M e (lo + 1) n)
    rw [← ih, ← h1, ← tsum_add]
    congr 1
    refine List.map_congr_left fun h _ => ?_
    by_cases h2 : h = lo
    · subst h2
      rw [if_pos (by omega), if_pos rfl, if_neg (by omega)]
      exact (tadd_tzero (hok h)).symm
    · rw [if_neg h2, tzero_tadd (by split; exact hok h; exact tzero_ok)]
      by_cases hc : lo ≤ h ∧ h < lo + (n + 1)
      · rw [if_pos hc, if_pos (by omega)]
      · rw [if_neg hc, if_neg (by omega)]

end Go.Proofs.Ytjfeeampcgmngaa
