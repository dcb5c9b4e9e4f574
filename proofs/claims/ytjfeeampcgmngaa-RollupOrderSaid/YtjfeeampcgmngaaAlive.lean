/- The law's alive: the chapter's examples. -/
import Derived.Test.YtjfeeampcgmngaaLaw0
namespace Go.Proofs.Ytjfeeampcgmngaa
open Go.RowKit Go.Shelf Go.Maps

/-! ### plain -/
theorem tsmall_add (a b : Nat) (ha : 0 < a) (hb : 0 < b) (h : a + b < M64) : tadd (tsmall a) (tsmall b) = tsmall (a + b) := by
  have hM : M64 ≤ M128 := by decide
  unfold tadd tsmall
  simp only
  have e1 : satAdd M128 a b = a + b := by unfold satAdd; omega
  have e2 : satAdd M128 0 0 = 0 := by unfold satAdd; omega
  have e3 : addBars [(0, a)] [(0, b)] = [(0, a + b)] := by
    unfold addBars
    have h0 : satAdd M64 (cnt [(0, a)] 0) (cnt [(0, b)] 0) = a + b := by
      show satAdd M64 a b = a + b
      unfold satAdd
      omega
    have hz : ∀ i, 1 ≤ i → satAdd M64 (cnt [(0, a)] i) (cnt [(0, b)] i) = 0 := fun i hi => by
      have g : ∀ c, cnt [(0, c)] i = 0 := fun c => by
        show (if 0 = i then c else 0) = 0
        rw [if_neg (by omega)]
      rw [g, g]
      exact sat_zero
    rw [canon_end (fun i => satAdd M64 (cnt [(0, a)] i) (cnt [(0, b)] i)) (show 1 ≤ 1920 by omega) (fun i h1 _ => hz i h1)]
    have := canon_to (fun i => satAdd M64 (cnt [(0, a)] i) (cnt [(0, b)] i)) (lo := 0) (j := 0) (Nat.le_refl _) (fun i h1 h2 => by omega) (by rw [h0]; omega)
    rw [this, h0]
    rfl
  rw [e1, e2, e3]
theorem tsmall_ne {n : Nat} (h : 0 < n) : tsmall n ≠ tzero := fun e => by
  have := congrArg Tal.calls e
  simp [tsmall, tzero] at this
  omega
def eab : Edge := (⟨#[97]⟩, ⟨#[98]⟩)
/-- What alive's rollup has. -/
def M0 : Cont := fun _ _ => tzero
def M1 : Cont := upd M0 7 eab (tadd (M0 7 eab) (tsmall 1))
def M2 : Cont := upd M1 8 eab (tadd (M1 8 eab) (tsmall 2))
theorem s1_ok : (tsmall 1).Ok := tsmall_ok (by omega) (by decide)
theorem s2_ok : (tsmall 2).Ok := tsmall_ok (by omega) (by decide)
theorem M2_at (h : Nat) (e : Edge) : M2 h e = if e = eab then (if h = 7 then tsmall 1 else if h = 8 then tsmall 2 else tzero) else tzero := by
  have e1 : tadd (M0 7 eab) (tsmall 1) = tsmall 1 := tzero_tadd s1_ok
  have e2 : tadd (M1 8 eab) (tsmall 2) = tsmall 2 := by
    have : M1 8 eab = tzero := by unfold M1 upd; simp [M0]
    rw [this]
    exact tzero_tadd s2_ok
  unfold M2 upd
  rw [e2]
  unfold M1 upd
  rw [e1]
  by_cases he : e = eab
  · subst he
    by_cases h8 : h = 8
    · subst h8; simp
    · by_cases h7 : h = 7
      · subst h7; simp
      · simp [h8, h7, M0]
  · simp [he, M0]
theorem M2_few : Few 2 M2 := ⟨[(7, eab), (8, eab)], by simp, fun h e hz => by
  rw [M2_at] at hz
  by_cases he : e = eab
  · subst he
    by_cases h7 : h = 7
    · subst h7; simp
    · by_cases h8 : h = 8
      · subst h8; simp
      · simp [h7, h8] at hz
  · simp [he] at hz⟩
theorem hsum_step (M : Cont) (e : Edge) (lo n : Nat) : hsum M e lo (n + 1) = tadd (M lo e) (hsum M e (lo + 1) n) := rfl
theorem hsum_nil (M : Cont) (e : Edge) (lo : Nat) : hsum M e lo 0 = tzero := rfl
theorem range_79 {L : List ET} (h : Tells L fun e => hsum M2 e 7 2) : L = [(eab, tsmall 3)] := by
  refine h.unique (L' := [(eab, tsmall 3)]) ⟨by simp [Rises], ?_, fun e => ?_⟩
  · intro p hp
    simp at hp
    subst hp
    exact tsmall_ne (by omega)
  · rw [hsum_step, hsum_step, hsum_nil, M2_at, M2_at]
    unfold look look
    by_cases he : e = eab
    · subst he
      rw [if_pos rfl]
      simp only [show ¬ (7 + 1 = 7) by omega, show 7 + 1 = 8 by omega, show ¬ (8 = 7) by omega, if_false, if_true]
      rw [tadd_tzero s2_ok, tsmall_add 1 2 (by omega) (by omega) (by decide)]
    · rw [if_neg (Ne.symm he)]
      simp only [he, if_false]
      rw [tzero_tadd tzero_ok, tzero_tadd tzero_ok]
theorem window_44 {L : List ET} (h : Tells L fun e => hsum M2 e 4 4) : L = [(eab, tsmall 1)] := by
  refine h.unique (L' := [(eab, tsmall 1)]) ⟨by simp [Rises], ?_, fun e => ?_⟩
  · intro p hp
    simp at hp
    subst hp
    exact tsmall_ne (by omega)
  · rw [hsum_step, hsum_step, hsum_step, hsum_step, hsum_nil, M2_at, M2_at, M2_at, M2_at]
    unfold look look
    by_cases he : e = eab
    · subst he
      rw [if_pos rfl]
      simp only [if_true]
      simp only [show ¬ (4 = 7) by omega, show ¬ (4 = 8) by omega, show ¬ (4 + 1 = 7) by omega, show ¬ (4 + 1 = 8) by omega, show ¬ (4 + 1 + 1 = 7) by omega, show ¬ (4 + 1 + 1 = 8) by omega, show 4 + 1 + 1 + 1 = 7 by omega, if_false, if_true]
      rw [tadd_tzero s1_ok, tzero_tadd s1_ok, tzero_tadd s1_ok, tzero_tadd s1_ok]
    · rw [if_neg (Ne.symm he)]
      simp only [he, if_false]
      rw [tzero_tadd tzero_ok, tzero_tadd tzero_ok, tzero_tadd tzero_ok, tzero_tadd tzero_ok]
theorem pow4 {k : Nat} : k = 0 ∨ k = 1 ∨ (16 ∣ 4 ^ k) := by
  rcases k with _ | _ | k
  · exact .inl rfl
  · exact .inr (.inl rfl)
  · exact .inr (.inr ⟨4 ^ k, by rw [Nat.pow_succ, Nat.pow_succ]; omega⟩)
theorem good_k {s k : Nat} (h : Good 4 13 s k) (h16 : s % 16 ≠ 0) : k = 0 ∨ k = 1 := by
  rcases pow4 (k := k) with h1 | h1 | h1
  · exact .inl h1
  · exact .inr h1
  · exact absurd (mod_of_dvd h1 h.dvd) h16
theorem cover_list {l : List (Nat × Nat)} (h : Chain 4 13 3 l 13) : l = [(3, 0), (4, 1), (8, 1), (12, 0)] := by
  match l, h with
  | [], h => exact absurd h (by show ¬ (3 = 13); omega)
  | (a, k) :: l, ⟨ha, g, h⟩ =>
    subst ha
    have hk : k = 0 := by
      rcases good_k g (by omega) with h1 | h1
      · exact h1
      · subst h1; have := g.dvd; omega
    subst hk
    match l, h with
    | [], h => exact absurd h (by show ¬ (3 + 4 ^ 0 = 13); omega)
    | (a, k) :: l, ⟨ha, g, h⟩ =>
      have hk : k = 1 := by
        rcases good_k g (by omega) with h1 | h1
        · subst h1; exact absurd ⟨by decide, by decide, by decide⟩ g.most
        · exact h1
      subst hk
      match l, h with
      | [], h => exact absurd h (by show ¬ (3 + 4 ^ 0 + 4 ^ 1 = 13); omega)
      | (a2, k) :: l, ⟨ha2, g, h⟩ =>
        have hk : k = 1 := by
          rcases good_k g (by omega) with h1 | h1
          · subst h1; exact absurd ⟨by decide, by decide, by decide⟩ g.most
          · exact h1
        subst hk
        match l, h with
        | [], h => exact absurd h (by show ¬ (3 + 4 ^ 0 + 4 ^ 1 + 4 ^ 1 = 13); omega)
        | (a3, k) :: l, ⟨ha3, g, h⟩ =>
          have hk : k = 0 := by
            rcases good_k g (by omega) with h1 | h1
            · exact h1
            · subst h1; have := g.fits; omega
          subst hk
          match l, h with
          | [], h => rw [ha, ha2, ha3]
          | (_, _) :: _, ⟨_, g, _⟩ => have := g.lt; omega

structure AliveAt (w : World) (g : Nat) (M : Cont) (w' : World) : Prop where
  roll : ∃ es F, RollAt w' (w.heap.size + 1) w.heap.size 4 es M F ∧ ∀ q, F q → w.heap.size ≤ q
  blk : Blk w' g 40 [.string eab.1, .string eab.2]
  below : Below w.heap.size w w'
theorem AliveAt.next {w w' w'' : World} {g : Nat} {M : Cont} (h : AliveAt w g M w') (hb : Below w'.heap.size w' w'') : AliveAt w g M w'' := by
  obtain ⟨⟨es, F, h1, h2⟩, h3, h4⟩ := h
  exact ⟨⟨es, F, h1.below hb, h2⟩, h3.below hb, btrans h4 hb⟩
theorem eab_ok : EdgeOk eab := ⟨by decide, by decide⟩
theorem alive_put {w wx : World} {g : Nat} {M : Cont} (h : AliveAt w g M wx) (hr : Nat) (hh : hr < limit) (sv : Value) (t : Tal) (ht : t.Ok) (hv : TalAt wx sv t.raw) :
    Calls Try.prog 15 #[.pointer (some ⟨w.heap.size + 1, 0, none⟩), hourVal hr, .agg #[.string ⟨#[97]⟩, .string ⟨#[98]⟩], sv] wx fun en w3 => en = .returned (.int .i64 0) ∧ AliveAt w g (upd M hr eab (tadd (M hr eab) t)) w3 := by
  obtain ⟨⟨es, F, h1, h2⟩, h3, h4⟩ := h
  refine (Put_ok wx (w.heap.size + 1) w.heap.size 4 es M F hr eab sv t h1 hh eab_ok hv ht).mono ?_
  rintro en w3 ⟨rfl, ⟨es', F', h5, h6⟩, h7⟩
  refine ⟨rfl, ⟨es', F', h5, fun q hq => ?_⟩, h7.cells h1.maps h3, Mod.toBelow h4 h7 h2⟩
  rcases h6 q hq with h8 | h8
  · exact h2 q h8
  · exact Nat.le_trans h4.size h8
theorem alive_put_far {w wx : World} {g : Nat} {M : Cont} (h : AliveAt w g M wx) (sv : Value) (t : Tal) (hv : TalAt wx sv t.raw) :
    Calls Try.prog 15 #[.pointer (some ⟨w.heap.size + 1, 0, none⟩), .int .i64 2097152, .agg #[.string ⟨#[97]⟩, .string ⟨#[98]⟩], sv] wx fun en w3 => en = .returned (.int .i64 151) ∧ AliveAt w g M w3 := by
  obtain ⟨A, n, c, rfl, _⟩ := hv
  refine (Put_hour wx (.pointer (some ⟨w.heap.size + 1, 0, none⟩)) 2097152 eab (natHi t.raw.calls) (natLo t.raw.calls) (natHi t.raw.errors) (natLo t.raw.errors) (natHi t.raw.took) (natLo t.raw.took) (.slice A n c) (by omega) ⟨A, n, c, rfl⟩).mono ?_
  rintro en w3 ⟨rfl, h1⟩
  exact ⟨rfl, h.next h1⟩
theorem alive_take {w wx : World} {g : Nat} (h : AliveAt w g M2 wx) (sv : Value) (hv : TalAt wx sv (tsmall 2).raw) :
    Calls Try.prog 18 #[.pointer (some ⟨w.heap.size + 1, 0, none⟩), hourVal 7, .agg #[.string ⟨#[97]⟩, .string ⟨#[98]⟩], sv] wx fun en w3 => en = .returned (.int .i64 152) ∧ AliveAt w g M2 w3 ∧ Below wx.heap.size wx w3 := by
  obtain ⟨⟨es, F, h1, h2⟩, h3, h4⟩ := h
  refine (Take_any wx (w.heap.size + 1) w.heap.size 4 es M2 F 7 eab sv (tsmall 2) h1 (by decide) eab_ok hv s2_ok).mono ?_
  rintro en w3 (⟨hle, _⟩ | ⟨_, rfl, hb⟩)
  · have := hle.calls
    rw [M2_at] at this
    simp [tsmall] at this
  · exact ⟨rfl, (AliveAt.mk ⟨es, F, h1, h2⟩ h3 h4).next hb, hb⟩
theorem hours_79 {w : World} {r m fan f b : Nat} {es : List MapEntry} {F : Nat → Prop} (h : RollAt w r m fan es M2 F) (hs : Span es [] f b) : f = 7 ∧ b = 9 := by
  have h7 : ∃ x ∈ es, x.key = hourVal 7 := (h.all 7 eab (by rw [M2_at]; simp; exact tsmall_ne (by omega))).2.2
  have h8 : ∃ x ∈ es, x.key = hourVal 8 := (h.all 8 eab (by rw [M2_at]; simp; exact tsmall_ne (by omega))).2.2
  have hin : ∀ x ∈ es, ∀ k, x.key = hourVal k → k = 7 ∨ k = 8 := fun x hx k hk => by
    obtain ⟨hr, e, _, hk2, hz⟩ := h.someE x hx
    have hkk : k = hr := hourVal_inj (hk.symm.trans hk2)
    subst hkk
    rw [M2_at] at hz
    by_cases he : e = eab
    · subst he
      by_cases g7 : k = 7
      · exact .inl g7
      · by_cases g8 : k = 8
        · exact .inr g8
        · simp [g7, g8] at hz
    · simp [he] at hz
  obtain ⟨x7, hx7, hk7⟩ := h7
  obtain ⟨x8, hx8, hk8⟩ := h8
  have hb : b ≠ 0 := fun h0 => by
    have := (hs.none_ h0).2 x7 hx7
    cases this
  have a7 := (hs.all x7 hx7).resolve_left (by simp)
  have a8 := (hs.all x8 hx8).resolve_left (by simp)
  rw [hk7, keyNat_hour] at a7
  rw [hk8, keyNat_hour] at a8
  obtain ⟨xf, hxf, hkf⟩ := hs.first hb
  obtain ⟨xl, hxl, hkl⟩ := hs.last hb
  have := hin xf hxf _ hkf
  have := hin xl hxl _ hkl
  omega
def AlivePost (w : World) (en : Ending) (w' : World) : Prop := en = .returned (.bool true) ∧ Below w.heap.size w w'
set_option maxRecDepth 100000 in
set_option maxHeartbeats 8000000 in
theorem alive_any (w : World) : Calls Try.prog 5 #[] w (AlivePost w) := by
  have HNEW := Lib.hid (New_ok w 4 (by omega) (by omega))
  go_enter Try.func5, Try.ntmps5
  go_wp2_with fail
  refine HNEW.out.mono ?_
  rintro en w1 ⟨rfl, hroll, hb⟩
  have HR0 := Lib.hid hroll
  have HB0 := Lib.hid hb
  clear HNEW hroll hb
  go_wp2_with fail
  refine (New_bad w1 1 (by omega)).mono ?_
  rintro en w2 ⟨rfl, rfl⟩
  go_wp2_with fail
  obtain ⟨V, hV⟩ : ∃ V, V = w2.alloc (Obj.cells #[.string ⟨#[97]⟩, .string ⟨#[98]⟩] 40) := ⟨_, rfl⟩
  rw [← hV]
  have HA0 := Lib.hid (show AliveAt w w2.heap.size M0 V by
    rw [hV]
    exact ⟨⟨_, _, HR0.out.below (bal (brefl _) _), by intro q hq; rw [hq]; exact Nat.le_refl _⟩, Blk.new w2 _ [.string eab.1, .string eab.2], bal HB0.out _⟩)
  generalize w2.heap.size = g at HA0 ⊢
  clear hV HR0 HB0
  have e0_1 : V.cell? ⟨g, 0, none⟩ = some (.string ⟨#[97]⟩) := HA0.out.blk.cell 0 rfl
  have e1_1 : V.cell? ⟨g, 1, none⟩ = some (.string ⟨#[98]⟩) := HA0.out.blk.cell 1 rfl
  have hgl_1 := HA0.out.blk.lt
  go_region_held3 (fun w' => w'.cell? ⟨g, 0, none⟩ = some (.string ⟨#[97]⟩) ∧ w'.cell? ⟨g, 1, none⟩ = some (.string ⟨#[98]⟩))
    (first
      | go_keep
      | (go_split_ands; refine ⟨?_, ?_⟩ <;> (first | exact hA1.blk.cell 0 rfl | exact hA1.blk.cell 1 rfl | (apply bcell1 hbs1; assumption))))
    ((first
      | (go_at_call 16; refine (small_any V.drew 1 (by omega)).mono ?_; rintro en ws1 ⟨sv1, rfl, hts1, hbs1⟩)
      | (go_at_call 15; refine (alive_put (HA0.out.next (btrans (bdrew (brefl _)) hbs1)) 7 (by decide) sv1 (tsmall 1) s1_ok hts1).mono ?_; rintro en w3 ⟨rfl, hA1⟩)))
  have HA1 := Lib.hid hA1
  clear hA1 hts1 hbs1 e0_1 e1_1 hgl_1
  go_wp2_with fail
  have e0_2 : w3.cell? ⟨g, 0, none⟩ = some (.string ⟨#[97]⟩) := HA1.out.blk.cell 0 rfl
  have e1_2 : w3.cell? ⟨g, 1, none⟩ = some (.string ⟨#[98]⟩) := HA1.out.blk.cell 1 rfl
  have hgl_2 := HA1.out.blk.lt
  go_region_held3 (fun w' => w'.cell? ⟨g, 0, none⟩ = some (.string ⟨#[97]⟩) ∧ w'.cell? ⟨g, 1, none⟩ = some (.string ⟨#[98]⟩))
    (first
      | go_keep
      | (go_split_ands; refine ⟨?_, ?_⟩ <;> (first | exact hA2.blk.cell 0 rfl | exact hA2.blk.cell 1 rfl | (apply bcell1 hbs2; assumption))))
    ((first
      | (go_at_call 16; refine (small_any w3.drew 2 (by omega)).mono ?_; rintro en ws2 ⟨sv2, rfl, hts2, hbs2⟩)
      | (go_at_call 15; refine (alive_put (HA1.out.next (btrans (bdrew (brefl _)) hbs2)) 8 (by decide) sv2 (tsmall 2) s2_ok hts2).mono ?_; rintro en w4 ⟨rfl, hA2⟩)))
  have HA2 := Lib.hid hA2
  clear hA2 hts2 hbs2 e0_2 e1_2 hgl_2
  go_wp2_with fail
  have e0_3 : w4.cell? ⟨g, 0, none⟩ = some (.string ⟨#[97]⟩) := HA2.out.blk.cell 0 rfl
  have e1_3 : w4.cell? ⟨g, 1, none⟩ = some (.string ⟨#[98]⟩) := HA2.out.blk.cell 1 rfl
  have hgl_3 := HA2.out.blk.lt
  go_region_held3 (fun w' => w'.cell? ⟨g, 0, none⟩ = some (.string ⟨#[97]⟩) ∧ w'.cell? ⟨g, 1, none⟩ = some (.string ⟨#[98]⟩))
    (first
      | go_keep
      | (go_split_ands; refine ⟨?_, ?_⟩ <;> (first | exact hA3.blk.cell 0 rfl | exact hA3.blk.cell 1 rfl | (apply bcell1 hbs3; assumption))))
    ((first
      | (go_at_call 16; refine (small_any w4.drew 1 (by omega)).mono ?_; rintro en ws3 ⟨sv3, rfl, hts3, hbs3⟩)
      | (go_at_call 15; refine (alive_put_far (HA2.out.next (btrans (bdrew (brefl _)) hbs3)) sv3 (tsmall 1) hts3).mono ?_; rintro en w5 ⟨rfl, hA3⟩)))
  have HA3 := Lib.hid hA3
  clear hA3 hts3 hbs3 e0_3 e1_3 hgl_3
  go_wp2_with fail
  have HA3' := Lib.hid (show AliveAt w g M2 w5 from HA3.out)
  obtain ⟨es5, F5, hR5, hF5⟩ := HA3'.out.roll
  have hrg := Lib.hid (Range_ok w5 (w.heap.size + 1) w.heap.size 4 es5 M2 F5 7 2 9 hR5 2 (by omega) M2_few (by omega) (by omega))
  refine hrg.out.mono ?_
  rintro en w6 ⟨A6, k6, c6, L6, rfl, hed6, htl6, hb6⟩
  have hL6 := range_79 htl6
  subst hL6
  have hk6 : k6 = 1 := hed6.len
  subst hk6
  have HE6 := Lib.hid hed6
  have HA6 := Lib.hid (HA3'.out.next hb6)
  clear hed6 htl6 hb6 hrg hR5 hF5
  go_wp2_with fail
  obtain ⟨es6, F6, hR6, hF6⟩ := HA6.out.roll
  have hcv := Lib.hid (Cover_ok w6 (w.heap.size + 1) w.heap.size 4 3 13 es6 M2 F6 hR6 (by omega) (by omega) (by omega) (by omega) 2 (by omega) M2_few)
  refine hcv.out.mono ?_
  rintro en w7 ⟨A7, k7, c7, l7, L7, rfl, hnc7, hwi7, hct7, hb7⟩
  have hl7 := cover_list hct7.chain
  subst hl7
  have HE7 := Lib.hid (HE6.out.below hb7)
  have HA7 := Lib.hid (HA6.out.next hb7)
  have HW7 := Lib.hid hwi7
  have HT7 := Lib.hid hct7
  have hlen7 : L7.length = 4 := by have h9 := congrArg List.length hct7.eq; simpa using h9
  have hk7 : k7 = 4 := by rw [hwi7.len]; exact hlen7
  subst hk7
  have HLEN := Lib.hid hlen7
  clear hnc7 hwi7 hct7 hb7 hcv hR6 hF6 hlen7
  go_wp2_with fail
  have e0_4 : w7.cell? ⟨g, 0, none⟩ = some (.string ⟨#[97]⟩) := HA7.out.blk.cell 0 rfl
  have e1_4 : w7.cell? ⟨g, 1, none⟩ = some (.string ⟨#[98]⟩) := HA7.out.blk.cell 1 rfl
  have hgl_4 := HA7.out.blk.lt
  go_region_held3 (fun w' => w'.cell? ⟨g, 0, none⟩ = some (.string ⟨#[97]⟩) ∧ w'.cell? ⟨g, 1, none⟩ = some (.string ⟨#[98]⟩))
    (first
      | go_keep
      | (go_split_ands; refine ⟨?_, ?_⟩ <;> (first | exact hA4.blk.cell 0 rfl | exact hA4.blk.cell 1 rfl | (apply bcell1 hbs4; assumption))))
    ((first
      | (go_at_call 16; refine (small_any w7.drew 2 (by omega)).mono ?_; rintro en ws4 ⟨sv4, rfl, hts4, hbs4⟩)
      | (go_at_call 18; refine (alive_take (HA7.out.next (btrans (bdrew (brefl _)) hbs4)) sv4 hts4).mono ?_; rintro en w8 ⟨rfl, hA4, hbt4⟩)))
  have hb78 : Below w7.heap.size w7 w8 := btrans (bdrew (brefl _)) (btrans hbs4 hbt4)
  have HA8 := Lib.hid hA4
  have HE8 := Lib.hid (HE7.out.below hb78)
  have HW8 := Lib.hid (HW7.out.below hb78)
  clear hb78 hbt4 hA4 hts4 hbs4 e0_4 e1_4 hgl_4
  go_wp2_with fail
  obtain ⟨es8, F8, hR8, hF8⟩ := HA8.out.roll
  refine (Hours_any w8 _ _ 4 es8 M2 F8 hR8).mono ?_
  rintro en w9 ⟨f, b, rfl, hsp, hb9⟩
  obtain ⟨rfl, rfl⟩ := hours_79 hR8 hsp
  have HB9 := Lib.hid (btrans HA8.out.below hb9)
  obtain ⟨d6, a1, a2, a3, a4⟩ := HE8.out.below hb9
  obtain ⟨b6, o6, hA6, hB6, hc6⟩ := a4 (by omega)
  subst hA6
  obtain ⟨x, hx⟩ : ∃ x, d6[0]? = some x := ⟨d6[0]'(by omega), List.getElem?_eq_getElem _⟩
  have hxx := a3 0 x _ hx rfl
  obtain ⟨d7, c1, c2, c3, c4⟩ := HW8.out.below hb9
  obtain ⟨b7, o7, hA7, hB7, hc7⟩ := c4 (by omega)
  subst hA7
  obtain ⟨y, hy⟩ : ∃ y, d7[1]? = some y := ⟨d7[1]'(by omega), List.getElem?_eq_getElem _⟩
  obtain ⟨q, hq⟩ : ∃ q, L7[1]? = some q := ⟨L7[1]'(by have := HLEN.out; omega), List.getElem?_eq_getElem _⟩
  have hqe : (q.1, q.2.1) = (4, 4) := by have h9 := congrArg (fun l => l[1]?) HT7.out.eq; simp [hq] at h9; exact Prod.ext h9.1 h9.2
  simp only [Prod.mk.injEq] at hqe
  have hyy := c3 1 y q hy hq
  have hqt := HT7.out.tells q (List.mem_of_getElem? hq)
  rw [hqe.1, hqe.2] at hqt
  have hq2 := window_44 hqt
  have hyn : y.n = 1 := by rw [hyy.2.2.len, hq2]; rfl
  have r2 : w9.cell? ⟨b6, o6 + 2, none⟩ = some (.int .u64 (natHi x.calls)) := by have h9 := hc6 0 x hx 2 _ rfl; simpa using h9
  have r3 : w9.cell? ⟨b6, o6 + 3, none⟩ = some (.int .u64 (natLo x.calls)) := by have h9 := hc6 0 x hx 3 _ rfl; simpa using h9
  have r4 : w9.cell? ⟨b6, o6 + 4, none⟩ = some (.int .u64 (natHi x.errors)) := by have h9 := hc6 0 x hx 4 _ rfl; simpa using h9
  have r5 : w9.cell? ⟨b6, o6 + 5, none⟩ = some (.int .u64 (natLo x.errors)) := by have h9 := hc6 0 x hx 5 _ rfl; simpa using h9
  have r6 : w9.cell? ⟨b6, o6 + 6, none⟩ = some (.int .u64 (natHi x.took)) := by have h9 := hc6 0 x hx 6 _ rfl; simpa using h9
  have r7 : w9.cell? ⟨b6, o6 + 7, none⟩ = some (.int .u64 (natLo x.took)) := by have h9 := hc6 0 x hx 7 _ rfl; simpa using h9
  have r8 : w9.cell? ⟨b6, o6 + 8, none⟩ = some (.slice x.A x.n x.c) := by have h9 := hc6 0 x hx 8 _ rfl; simpa using h9
  have s0 : w9.cell? ⟨b7, o7 + 3, none⟩ = some (.int .i64 4) := by have h9 := hc7 1 y hy 0 _ rfl; rw [hyy.1, hqe.1] at h9; exact h9
  have s1 : w9.cell? ⟨b7, o7 + 4, none⟩ = some (.int .i64 4) := by have h9 := hc7 1 y hy 1 _ rfl; rw [hyy.2.1, hqe.2] at h9; exact h9
  have s2 : w9.cell? ⟨b7, o7 + 5, none⟩ = some (.slice y.A 1 y.c) := by have h9 := hc7 1 y hy 2 _ rfl; rw [hyn] at h9; exact h9
  have lb6 := cell_lt r2
  have lb7 := cell_lt s0
  have HX := Lib.hid hxx.2.2.1
  clear a1 a2 a3 a4 hc6 hx hxx c1 c2 c3 c4 hc7 hy hq hqe hyy hqt hq2 hyn hb9 hsp hR8 hF8 hB6 hB7
  go_wp2_with fail
  go_region_held3 (fun w' => w'.cell? ⟨b6, o6 + 2, none⟩ = some (.int .u64 (natHi x.calls)) ∧ w'.cell? ⟨b6, o6 + 3, none⟩ = some (.int .u64 (natLo x.calls)) ∧ w'.cell? ⟨b6, o6 + 4, none⟩ = some (.int .u64 (natHi x.errors)) ∧ w'.cell? ⟨b6, o6 + 5, none⟩ = some (.int .u64 (natLo x.errors)) ∧ w'.cell? ⟨b6, o6 + 6, none⟩ = some (.int .u64 (natHi x.took)) ∧ w'.cell? ⟨b6, o6 + 7, none⟩ = some (.int .u64 (natLo x.took)) ∧ w'.cell? ⟨b6, o6 + 8, none⟩ = some (.slice x.A x.n x.c) ∧ w'.cell? ⟨b7, o7 + 3, none⟩ = some (.int .i64 4) ∧ w'.cell? ⟨b7, o7 + 4, none⟩ = some (.int .i64 4) ∧ w'.cell? ⟨b7, o7 + 5, none⟩ = some (.slice y.A 1 y.c))
    (first
      | go_keep
      | (go_split_ands; refine ⟨?_, ?_, ?_, ?_, ?_, ?_, ?_, ?_, ?_, ?_⟩ <;> (first | (apply bcell1 hbq; assumption) | (apply bcell1 hbs9; assumption))))
    ((first
      | (go_at_call 16; refine (small_any w9.drew 3 (by omega)).mono ?_; rintro en ws9 ⟨sv9, rfl, hts9, hbs9⟩)
      | (go_at_call 20; refine (SameTally_eq ws9 x.val sv9 (tsmall 3).raw (HX.out.below (btrans (bdrew (brefl _)) hbs9)) hts9).mono ?_; rintro en wq ⟨rfl, hbq⟩)))
  have HBF := Lib.hid (btrans HB9.out (btrans (btrans (bdrew (brefl _)) hbs9) hbq))
  clear hbs9 hbq hts9 r2 r3 r4 r5 r6 r7 r8 s0 s1 s2
  go_wp2_with fail
  go_ret
  exact ⟨rfl, HBF.out⟩
end Go.Proofs.Ytjfeeampcgmngaa
