/- The plain mathematics of windows: their edges come to the whole; a range is covered by few windows of one width. -/
import Derived.Test.YtjfeeampcgmngaaEdges
namespace Go.Proofs.Ytjfeeampcgmngaa

/-! ### lists put together -/
/-- All tallies of a list at an edge, summed up. -/
def allAt (x : Edge) : List ET → Tal
  | [] => tzero
  | p :: l => if p.1 = x then tadd p.2 (allAt x l) else allAt x l
theorem allAt_ok (x : Edge) : ∀ l, (allAt x l).Ok
  | [] => tzero_ok
  | p :: l => by
    unfold allAt
    split
    · exact tadd_ok _ _
    · exact allAt_ok x l
theorem allAt_absent {x : Edge} : ∀ {l : List ET}, (∀ p ∈ l, p.1 ≠ x) → allAt x l = tzero
  | [], _ => rfl
  | p :: l, h => by
    unfold allAt
    rw [if_neg (h p (by simp))]
    exact allAt_absent fun q hq => h q (by simp [hq])
theorem allAt_look {x : Edge} : ∀ {l : List ET}, Rises l → (∀ p ∈ l, p.2.Ok) → allAt x l = look l x
  | [], _, _ => rfl
  | p :: l, h, hok => by
    have h' := List.pairwise_cons.1 h
    unfold allAt look
    by_cases hx : p.1 = x
    · subst hx
      rw [if_pos rfl, if_pos rfl, allAt_absent (fun q hq e => elt_irrefl _ (by have := h'.1 q hq; rw [e] at this; exact this))]
      exact tadd_tzero (hok p (by simp))
    · rw [if_neg hx, if_neg hx]
      exact allAt_look h'.2 fun q hq => hok q (by simp [hq])
theorem allAt_append (x : Edge) : ∀ l m : List ET, allAt x (l ++ m) = tadd (allAt x l) (allAt x m)
  | [], m => (tzero_tadd (allAt_ok x m)).symm
  | p :: l, m => by
    show (if p.1 = x then tadd p.2 (allAt x (l ++ m)) else allAt x (l ++ m)) = tadd (if p.1 = x then tadd p.2 (allAt x l) else allAt x l) (allAt x m)
    rw [allAt_append x l m]
    split
    · rw [tadd_assoc]
    · rfl
theorem withT_ok : ∀ {l : List ET} {e : Edge} {t : Tal}, (∀ p ∈ l, p.2.Ok) → t.Ok → ∀ p ∈ withT l e t, p.2.Ok
  | [], e, t, _, ht, p, hp => by
    simp [withT] at hp
    rw [hp]; exact ht
  | q :: l, e, t, h, ht, p, hp => by
    unfold withT at hp
    split at hp
    · rcases List.mem_cons.1 hp with rfl | hp
      · exact h _ (by simp)
      · exact withT_ok (fun x hx => h x (by simp [hx])) ht p hp
    · split at hp
      · rcases List.mem_cons.1 hp with rfl | hp
        · exact tadd_ok _ _
        · exact h p (by simp [hp])
      · rcases List.mem_cons.1 hp with rfl | hp
        · exact ht
        · exact h p hp
theorem sumT_ok : ∀ {l acc : List ET}, (∀ p ∈ acc, p.2.Ok) → (∀ p ∈ l, p.2.Ok) → ∀ p ∈ sumT acc l, p.2.Ok
  | [], _, h, _ => h
  | q :: l, acc, h, hl => by
    unfold sumT
    exact sumT_ok (withT_ok h (hl q (by simp))) fun x hx => hl x (by simp [hx])
theorem look_ok {l : List ET} (h : ∀ p ∈ l, p.2.Ok) (x : Edge) : (look l x).Ok := by
  by_cases h0 : look l x = tzero
  · rw [h0]; exact tzero_ok
  · exact h _ (mem_of_look h0)
theorem sumT_look (x : Edge) : ∀ (l acc : List ET), Rises acc → (∀ p ∈ acc, p.2.Ok) → (∀ p ∈ l, p.2.Ok) → look (sumT acc l) x = tadd (look acc x) (allAt x l)
  | [], acc, _, h, _ => (tadd_tzero (look_ok h x)).symm
  | p :: l, acc, hr, h, hl => by
    have hp := hl p (by simp)
    unfold sumT
    rw [sumT_look x l _ (withT_rises _ _ hr) (withT_ok h hp) (fun y hy => hl y (by simp [hy])), withT_look p.1 p.2 x hr hp]
    conv => rhs; unfold allAt
    by_cases hx : p.1 = x
    · subst hx
      rw [if_pos rfl, if_pos rfl, tadd_assoc]
    · rw [if_neg (Ne.symm hx), if_neg hx]
theorem withT_some : ∀ {l : List ET} {e : Edge} {t : Tal}, (∀ p ∈ l, p.2 ≠ tzero) → (∀ p ∈ l, p.2.Ok) → t ≠ tzero → ∀ p ∈ withT l e t, p.2 ≠ tzero
  | [], e, t, _, _, ht, p, hp => by
    simp [withT] at hp
    rw [hp]; exact ht
  | q :: l, e, t, h, hok, ht, p, hp => by
    unfold withT at hp
    split at hp
    · rcases List.mem_cons.1 hp with rfl | hp
      · exact h _ (by simp)
      · exact withT_some (fun x hx => h x (by simp [hx])) (fun x hx => hok x (by simp [hx])) ht p hp
    · split at hp
      · rcases List.mem_cons.1 hp with rfl | hp
        · exact fun e => h q (by simp) (tadd_eq_zero (hok q (by simp)) e)
        · exact h p (by simp [hp])
      · rcases List.mem_cons.1 hp with rfl | hp
        · exact ht
        · exact h p hp
theorem sumT_some : ∀ {l acc : List ET}, (∀ p ∈ acc, p.2 ≠ tzero) → (∀ p ∈ acc, p.2.Ok) → (∀ p ∈ l, p.2 ≠ tzero) → (∀ p ∈ l, p.2.Ok) → ∀ p ∈ sumT acc l, p.2 ≠ tzero
  | [], _, h, _, _, _ => h
  | q :: l, acc, h, hok, hl, hlok => by
    unfold sumT
    exact sumT_some (withT_some h hok (hl q (by simp))) (withT_ok hok (hlok q (by simp))) (fun x hx => hl x (by simp [hx])) (fun x hx => hlok x (by simp [hx]))

/-- A list that tells what some tallies come to. -/
theorem Tells.ok {L : List ET} {g : Edge → Tal} (h : Tells L g) (hg : ∀ e, (g e).Ok) : ∀ p ∈ L, p.2.Ok := fun p hp => by
  rw [← look_mem h.rises.ne hp, h.at_]
  exact hg _

/-- The edges of some windows, put together. -/
theorem sum_windows {α : Type} (g : α → Edge → Tal) (hg : ∀ a e, (g a e).Ok) : ∀ (ws : List (α × List ET)) (acc : List ET) (g0 : Edge → Tal), Tells acc g0 → (∀ e, (g0 e).Ok) → (∀ p ∈ ws, Tells p.2 (g p.1)) →
    Tells (sumT acc (ws.flatMap (·.2))) fun e => tadd (g0 e) (tsum (ws.map fun p => g p.1 e))
  | [], acc, g0, h0, hok, _ => by
    have e1 : (fun e => tadd (g0 e) (tsum (([] : List (α × List ET)).map fun p => g p.1 e))) = g0 := funext fun e => tadd_tzero (hok e)
    rw [e1]
    exact h0
  | p :: ws, acc, g0, h0, hok, hw => by
    have hp := hw p (by simp)
    have hpok := hp.ok (hg p.1)
    have haok := h0.ok hok
    have step : Tells (sumT acc p.2) fun e => tadd (g0 e) (g p.1 e) := ⟨sumT_rises _ h0.rises, sumT_some h0.some_ haok hp.some_ hpok, fun e => by
      rw [sumT_look e p.2 acc h0.rises haok hpok, h0.at_, allAt_look hp.rises hpok, hp.at_]⟩
    rw [List.flatMap_cons, sumT_append]
    have := sum_windows g hg ws (sumT acc p.2) _ step (fun e => tadd_ok _ _) (fun q hq => hw q (by simp [hq]))
    refine ⟨this.rises, this.some_, fun e => ?_⟩
    rw [this.at_]
    show tadd (tadd (g0 e) (g p.1 e)) _ = tadd (g0 e) (tadd (g p.1 e) _)
    rw [tadd_assoc]

theorem tells_nil : Tells [] fun _ => tzero := ⟨by simp [Rises], by simp, fun _ => rfl⟩

theorem tsum_swap {α β : Type} (f : α → β → Tal) (hf : ∀ a b, (f a b).Ok) : ∀ (l : List α) (m : List β), tsum (l.map fun a => tsum (m.map fun b => f a b)) = tsum (m.map fun b => tsum (l.map fun a => f a b))
  | [], m => (tsum_zero _ fun t ht => by obtain ⟨b, _, rfl⟩ := List.mem_map.1 ht; rfl).symm
  | a :: l, m => by
    show tadd (tsum (m.map fun b => f a b)) (tsum (l.map fun a => tsum (m.map fun b => f a b))) = _
    rw [tsum_swap f hf l m, ← tsum_add]
    rfl

/-- The windows of one width, as many as have something, come to all hours. -/
theorem windows_whole (M : Cont) (e : Edge) (W : Nat) (hW : 0 < W) (N : Nat) (bs hs : List Nat) (hbn : bs.Nodup) (hbW : ∀ b ∈ bs, b % W = 0) (hhn : hs.Nodup) (hok : ∀ h, (M h e).Ok) (hall : ∀ h, M h e ≠ tzero → h ∈ hs) (hN : ∀ h, M h e ≠ tzero → h < N)
    (hbs : ∀ h, M h e ≠ tzero → h - h % W ∈ bs) : tsum (bs.map fun b => hsum M e b W) = hsum M e 0 N := by
  have e1 : (bs.map fun b => hsum M e b W) = bs.map fun b => tsum (hs.map fun h => if b ≤ h ∧ h < b + W then M h e else tzero) :=
    List.map_congr_left fun b _ => (hsum_list M e hs hhn hok hall W b).symm
  rw [e1, tsum_swap _ (fun b h => by split; exact hok h; exact tzero_ok), ← hsum_list M e hs hhn hok hall N 0]
  congr 1
  refine List.map_congr_left fun h _ => ?_
  by_cases h0 : M h e = tzero
  · have e3 : (if 0 ≤ h ∧ h < 0 + N then M h e else tzero) = tzero := by rw [h0]; split <;> rfl
    rw [e3, h0]
    exact tsum_zero _ fun t ht => by
      obtain ⟨b, _, rfl⟩ := List.mem_map.1 ht
      split <;> rfl
  · rw [if_pos ⟨Nat.zero_le _, by have := hN h h0; omega⟩]
    have hlt := Nat.mod_lt h hW
    have hle := Nat.mod_le h W
    have e2 : (bs.map fun b => if b ≤ h ∧ h < b + W then M h e else tzero) = bs.map fun b => if b = h - h % W then M h e else tzero := by
      refine List.map_congr_left fun b hb => ?_
      have hbm := hbW b hb
      by_cases hc : b = h - h % W
      · rw [if_pos hc, if_pos (by omega)]
      · rw [if_neg hc, if_neg]
        rintro ⟨h1, h2⟩
        apply hc
        have hd := Nat.div_add_mod b W
        rw [hbm] at hd
        have hd' := Nat.div_add_mod h W
        have : h / W = b / W := by
          have a1 : b / W ≤ h / W := Nat.div_le_div_right h1
          have a2 : h / W < b / W + 1 := by
            rw [Nat.div_lt_iff_lt_mul hW, Nat.succ_mul]
            rw [Nat.mul_comm] at hd
            omega
          omega
        rw [this] at hd'
        omega
    rw [e2]
    exact tsum_one (f := fun _ => M h e) (h - h % W) bs hbn (.inl (hbs h h0)) (hok h)

/-! ### a range, covered -/
def limit : Nat := 2097152
/-- A window of the width F ^ k at s, as wide as it can be. -/
structure Good (F to s k : Nat) : Prop where
  lt : s < to
  dvd : s % F ^ k = 0
  fits : s + F ^ k ≤ to
  most : ¬ (F ^ k < limit ∧ s % F ^ (k + 1) = 0 ∧ s + F ^ (k + 1) ≤ to)
/-- Windows one behind the other. -/
def Chain (F to : Nat) : Nat → List (Nat × Nat) → Nat → Prop
  | s, [], e => s = e
  | s, (a, k) :: l, e => a = s ∧ Good F to s k ∧ Chain F to (s + F ^ k) l e
theorem Chain.snoc {F to : Nat} : ∀ {s : Nat} {l : List (Nat × Nat)} {e k : Nat}, Chain F to s l e → Good F to e k → Chain F to s (l ++ [(e, k)]) (e + F ^ k)
  | _, [], _, _, h, g => by
    cases h
    exact ⟨rfl, g, rfl⟩
  | _, (_, _) :: _, _, _, ⟨h1, h2, h3⟩, g => ⟨h1, h2, h3.snoc g⟩
theorem Chain.good {F to : Nat} : ∀ {s : Nat} {l : List (Nat × Nat)} {e : Nat}, Chain F to s l e → ∀ p ∈ l, Good F to p.1 p.2
  | _, [], _, _, p, hp => by cases hp
  | _, (_, _) :: _, _, ⟨h1, h2, h3⟩, p, hp => by
    rcases List.mem_cons.1 hp with rfl | hp
    · subst h1; exact h2
    · exact h3.good p hp
theorem Chain.le {F to : Nat} : ∀ {s : Nat} {l : List (Nat × Nat)} {e : Nat}, Chain F to s l e → s ≤ to → e ≤ to
  | _, [], _, h, hs => by cases h; exact hs
  | _, (_, _) :: _, _, ⟨_, h2, h3⟩, _ => h3.le h2.fits

def many (k0 : Nat) : List (Nat × Nat) → Nat
  | [] => 0
  | p :: l => (if p.2 = k0 then 1 else 0) + many k0 l

theorem mod_of_dvd {a b c : Nat} (h : b ∣ c) (ha : a % c = 0) : a % b = 0 := Nat.mod_eq_zero_of_dvd (Nat.dvd_trans h (Nat.dvd_of_mod_eq_zero ha))

/-- There are at most so many windows of a width as can't be put together. -/
theorem many_le {F to k0 : Nat} (hF : 2 ≤ F) (hto : to ≤ limit) : ∀ (l : List (Nat × Nat)) (s e : Nat), Chain F to s l e → s ≤ to →
    (to < s + F ^ (k0 + 1) → many k0 l * F ^ k0 ≤ to - s) ∧
    (s + F ^ (k0 + 1) ≤ to → s % F ^ (k0 + 1) = 0 → many k0 l * F ^ k0 ≤ F ^ (k0 + 1) - F ^ k0) ∧
    (s + F ^ (k0 + 1) ≤ to → s % F ^ (k0 + 1) ≠ 0 → many k0 l * F ^ k0 ≤ F ^ (k0 + 1) - F ^ k0 + (F ^ (k0 + 1) - s % F ^ (k0 + 1)))
  | [], s, e, _, hs => by simp [many]
  | (a, k) :: l, s, e, ⟨h1, g, h3⟩, hs => by
    have hd : 0 < F ^ k0 := Nat.pow_pos (by omega)
    have hDd : F ^ (k0 + 1) = F ^ k0 * F := Nat.pow_succ ..
    have hdD : F ^ k0 * 2 ≤ F ^ k0 * F := Nat.mul_le_mul_left _ hF
    have hD : 0 < F ^ (k0 + 1) := Nat.pow_pos (by omega)
    have hw : 0 < F ^ k := Nat.pow_pos (by omega)
    obtain ⟨i1, i2, i3⟩ := many_le hF hto l (s + F ^ k) e h3 g.fits
    -- what is counted here
    have hm : many k0 ((a, k) :: l) * F ^ k0 = (if k = k0 then F ^ k0 else 0) + many k0 l * F ^ k0 := by
      show ((if k = k0 then 1 else 0) + many k0 l) * F ^ k0 = _
      rw [Nat.add_mul]
      split <;> simp
    rw [hm]
    -- the rest, behind all
    have hfin : to < s + F ^ k + F ^ (k0 + 1) → many k0 l * F ^ k0 ≤ F ^ (k0 + 1) - F ^ k0 := fun h => by
      have := i1 h
      have hlt : many k0 l * F ^ k0 < F ^ k0 * F := by rw [← hDd]; omega
      have h5 : many k0 l < F := by
        rw [Nat.mul_comm] at hlt
        exact Nat.lt_of_mul_lt_mul_left hlt
      have h6 : (many k0 l + 1) * F ^ k0 ≤ F * F ^ k0 := Nat.mul_le_mul_right _ (by omega)
      rw [Nat.add_mul, Nat.one_mul, Nat.mul_comm F] at h6
      rw [hDd]
      omega
    refine ⟨fun h => ?_, fun h h0 => ?_, fun h h0 => ?_⟩
    · have := i1 (by omega)
      have := g.fits
      split
      · rename_i hk; subst hk; omega
      · omega
    · -- a window that is wider
      have hlim : F ^ k0 < limit := by omega
      have hk : k0 + 1 ≤ k := by
        rcases Nat.lt_or_ge k (k0 + 1) with hlt | hge
        · exfalso
          have hdv : F ^ (k + 1) ∣ F ^ (k0 + 1) := Nat.pow_dvd_pow _ (by omega)
          have hle : F ^ (k + 1) ≤ F ^ (k0 + 1) := Nat.le_of_dvd hD hdv
          have hle2 : F ^ k ≤ F ^ k0 := Nat.pow_le_pow_right (by omega) (by omega)
          exact g.most ⟨by omega, mod_of_dvd hdv h0, by omega⟩
        · exact hge
      have hdv : F ^ (k0 + 1) ∣ F ^ k := Nat.pow_dvd_pow _ hk
      have h0' : (s + F ^ k) % F ^ (k0 + 1) = 0 := by
        rw [Nat.add_mod, h0, Nat.mod_eq_zero_of_dvd hdv]
        simp
      rw [if_neg (by omega)]
      rcases Nat.lt_or_ge to (s + F ^ k + F ^ (k0 + 1)) with hlt | hge
      · have := hfin hlt; omega
      · have := i2 hge h0'; omega
    · -- up to the next multiple
      have hk : k ≤ k0 := by
        rcases Nat.lt_or_ge k0 k with hlt | hge
        · exact absurd (mod_of_dvd (Nat.pow_dvd_pow _ hlt) g.dvd) h0
        · exact hge
      have hdv : F ^ k ∣ F ^ (k0 + 1) := Nat.pow_dvd_pow _ (by omega)
      have hle2 : F ^ k ≤ F ^ k0 := Nat.pow_le_pow_right (by omega) hk
      have hr := Nat.mod_lt s hD
      have hnext : s % F ^ (k0 + 1) + F ^ k ≤ F ^ (k0 + 1) := by
        obtain ⟨q, hq⟩ := hdv
        have hs' := Nat.dvd_of_mod_eq_zero g.dvd
        have hr' : F ^ k ∣ s % F ^ (k0 + 1) := (Nat.dvd_mod_iff ⟨q, hq⟩).2 hs'
        obtain ⟨p, hp⟩ := hr'
        rw [hp, hq] at hr
        have hpq : p < q := Nat.lt_of_mul_lt_mul_left hr
        rw [hp, hq, ← Nat.mul_succ]
        exact Nat.mul_le_mul_left _ hpq
      have key : many k0 l * F ^ k0 ≤ F ^ (k0 + 1) - F ^ k0 + (F ^ (k0 + 1) - s % F ^ (k0 + 1) - F ^ k) := by
        rcases Nat.lt_or_ge to (s + F ^ k + F ^ (k0 + 1)) with hlt | hge
        · have := hfin hlt; omega
        · by_cases h0' : (s + F ^ k) % F ^ (k0 + 1) = 0
          · have := i2 hge h0'; omega
          · have h7 := i3 hge h0'
            have hmod : (s + F ^ k) % F ^ (k0 + 1) = s % F ^ (k0 + 1) + F ^ k := by
              rcases Nat.lt_or_ge (s % F ^ (k0 + 1) + F ^ k) (F ^ (k0 + 1)) with hlt | hge2
              · rw [← Nat.mod_add_mod, Nat.mod_eq_of_lt hlt]
              · exfalso
                apply h0'
                rw [← Nat.mod_add_mod, show s % F ^ (k0 + 1) + F ^ k = F ^ (k0 + 1) by omega]
                simp
            rw [hmod] at h7
            omega
      split
      · rename_i hkk; subst hkk; omega
      · omega

theorem many_bound {F to from_ k0 e : Nat} {l : List (Nat × Nat)} (hF : 2 ≤ F) (hto : to ≤ limit) (hs : from_ ≤ to) (h : Chain F to from_ l e) : many k0 l ≤ 2 * (F - 1) := by
  have hd : 0 < F ^ k0 := Nat.pow_pos (by omega)
  have hDd : F ^ (k0 + 1) = F ^ k0 * F := Nat.pow_succ ..
  obtain ⟨i1, i2, i3⟩ := many_le (k0 := k0) hF hto l from_ e h hs
  have e1 : F ^ k0 * F - F ^ k0 = F ^ k0 * (F - 1) := by rw [Nat.mul_sub, Nat.mul_one]
  have hD : 0 < F ^ (k0 + 1) := Nat.pow_pos (by omega)
  have h2 : many k0 l * F ^ k0 < F ^ k0 * (2 * (F - 1) + 1) := by
    have e2 : F ^ k0 * (2 * (F - 1) + 1) = F ^ k0 * (F - 1) + F ^ k0 * (F - 1) + F ^ k0 := by
      rw [Nat.mul_add, Nat.mul_one, Nat.mul_left_comm, Nat.two_mul]
    have e3 : F ^ k0 * F = F ^ k0 * (F - 1) + F ^ k0 := by
      have : F ^ k0 * 1 ≤ F ^ k0 * F := Nat.mul_le_mul_left _ (by omega)
      omega
    rw [e2]
    rcases Nat.lt_or_ge to (from_ + F ^ (k0 + 1)) with hlt | hge
    · have := i1 hlt; omega
    · by_cases h0 : from_ % F ^ (k0 + 1) = 0
      · have := i2 hge h0; omega
      · have h7 := i3 hge h0
        have hr := Nat.mod_lt from_ hD
        generalize from_ % F ^ (k0 + 1) = r at h0 h7 hr
        rw [hDd] at h7 hr
        omega
  rw [Nat.mul_comm] at h2
  have := Nat.lt_of_mul_lt_mul_left h2
  omega

end Go.Proofs.Ytjfeeampcgmngaa
