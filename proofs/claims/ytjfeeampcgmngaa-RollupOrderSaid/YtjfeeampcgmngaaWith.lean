/- The document's 'with': a tally is put to an edge's, among others that rise. -/
import Derived.Test.YtjfeeampcgmngaaWith1
namespace Go.Proofs.Ytjfeeampcgmngaa
open Go.RowKit Go.Shelf Go.Maps

def WithLoop (W : World) (L : List ET) (e : Edge) (lo hi : Value) (wr : World) : Prop :=
  ∃ l h : Nat, lo = .int .i64 l ∧ hi = .int .i64 h ∧ l ≤ h ∧ h ≤ L.length ∧ (∀ (i : Nat) (p : ET), L[i]? = some p → i < l → elt p.1 e) ∧ (∀ (i : Nat) (p : ET), L[i]? = some p → h ≤ i → ¬ elt p.1 e) ∧ Below W.heap.size W wr
def WithPost (a : World) (L : List ET) (e : Edge) (t : Tal) (en : Ending) (w' : World) : Prop :=
  ∃ v', en = .returned v' ∧ EtOwn a.heap.size w' v' (withT L e t) ∧ Below a.heap.size a w'
theorem bars_few {l : List (Nat × Nat)} (h : Valid 0 l) : l.length ≤ 1920 := by
  rw [← canon_cnt 1920 0 l rfl h]
  exact canon_length _ _ _

set_option maxRecDepth 100000 in
set_option maxHeartbeats 4000000 in
theorem with_some (a w : World) (v : Value) (L : List ET) (e : Edge) (tv : Value) (t : Tal) (hb : Below a.heap.size a w) (hl : EtOwn a.heap.size w v L) (hnil : v ≠ .slice none 0 0) (hr : Rises L) (hok : ∀ p ∈ L, p.2.Ok) (he : EdgeOk e) (ht : TalAt w tv t.raw) (hto : t.Ok) (hN : (L.length + 1) * 104 ≤ 140737488355328) :
    Calls Try.prog 25 #[v, edgeVal e, tv] w (WithPost a L e t) := by
  obtain ⟨i0, hi0, hz0, hz1, hz2⟩ := info_parts etInfo
  obtain ⟨d, hown, heach⟩ := hl
  obtain ⟨TA, Tn, Tc, rfl, ht1, ht2, ht3⟩ := ht
  have hdl := heach.1
  obtain ⟨gO, c, rfl, hnc⟩ : ∃ gO c, v = .slice (some ⟨gO, 0, none⟩) d.length c ∧ d.length ≤ c := by
    rcases hown.2 with ⟨rfl, h0⟩ | ⟨g, cap, cur, rfl, _, _, hnc, _⟩
    · exact absurd rfl hnil
    · exact ⟨g, cap, rfl, hnc⟩
  clear hnil
  have ht0 : TalAt w (talVal t.calls t.errors t.took (.slice TA Tn Tc)) t.raw := ⟨TA, Tn, Tc, rfl, ht1, ht2, ht3⟩
  have HT0 := Lib.hid ht0
  clear ht1 ht2 ht3 ht0
  have eT : talVal t.raw.calls t.raw.errors t.raw.took (.slice TA Tn Tc) = talVal t.calls t.errors t.took (.slice TA Tn Tc) := rfl
  rw [eT]
  clear eT
  unfold talVal at *
  generalize natHi t.calls = y1 at *
  generalize natLo t.calls = y2 at *
  generalize natHi t.errors = y3 at *
  generalize natLo t.errors = y4 at *
  generalize natHi t.took = y5 at *
  generalize natLo t.took = y6 at *
  obtain ⟨W, hW⟩ : ∃ W, W = (w.alloc (Obj.cells #[.string e.1, .string e.2] 40)).alloc (Obj.cells #[.int .u64 y1, .int .u64 y2, .int .u64 y3, .int .u64 y4, .int .u64 y5, .int .u64 y6, .slice TA Tn Tc] 46) := ⟨_, rfl⟩
  have hbW : Below w.heap.size w W := by rw [hW]; exact bal (bal (brefl w) _) _
  have k1 : Blk W w.heap.size 40 [.string e.1, .string e.2] := by rw [hW]; exact (Blk.new _ _ _).alloc _
  have k2 : Blk W (w.heap.size + 1) 46 [.int .u64 y1, .int .u64 y2, .int .u64 y3, .int .u64 y4, .int .u64 y5, .int .u64 y6, .slice TA Tn Tc] := by rw [hW]; exact Blk.new_ _ _ _ (by simp)
  have HW := Lib.hid hW
  have HT := Lib.hid (HT0.out.below hbW)
  have HBW := Lib.hid (btrans hb hbW)
  have HBL := Lib.hid hbW
  have K1 := Lib.hid k1
  have K2 := Lib.hid k2
  have HOWN := Lib.hid (own_below hown hbW)
  have HEACH := Lib.hid (heach.below hbW)
  have HSRC := Lib.hid (own_src (own_below hown hbW))
  have HR := Lib.hid hr
  have HOK := Lib.hid hok
  have HTO := Lib.hid hto
  have HE := Lib.hid he
  have HDL := Lib.hid hdl
  have hdb : d.length * 104 ≤ 140737488355328 - 104 := by rw [hdl]; omega
  have hLd : L.length ≤ d.length := by omega
  have hLd2 : d.length ≤ L.length := by omega
  clear hW hbW hown heach hr hok hto he hdl HT0 hb k1 k2 hN
  unfold edgeVal
  go_enter Try.func25, Try.ntmps25
  go_wp2_with fail
  rw [← HW.out]
  go_loopw [7, 8] (fun lo hi wr => WithLoop W L e lo hi wr) (fun lo hi _ => (intOf hi).toNat - (intOf lo).toNat)
  case atStart => exact ⟨0, d.length, rfl, rfl, Nat.zero_le _, by omega, (by intro i p _ h; omega), (by intro i p hp h; have := (List.getElem?_eq_some_iff.1 hp).1; omega), brefl _⟩
  case round =>
    obtain ⟨lo, hi, rfl, rfl, hlh, hhl, hbel, habv, hbr⟩ := hrel
    have HBEL := Lib.hid hbel
    have HABV := Lib.hid habv
    have HBR := Lib.hid hbr
    by_cases hlt : lo < hi
    · obtain ⟨m, hm⟩ : ∃ m, m = (lo + hi) / 2 := ⟨_, rfl⟩
      have hm1 : lo ≤ m := by omega
      have hm2 : m < hi := by omega
      have hmd : m < d.length := by omega
      have hq : ((lo : Int) + (hi : Int)) / 2 = (m : Int) := by omega
      obtain ⟨gA, oA, hA, hcA⟩ := HSRC.out.2 (by omega)
      cases hA
      obtain ⟨x, hx⟩ : ∃ x, d[m]? = some x := ⟨d[m]'(by omega), List.getElem?_eq_getElem _⟩
      obtain ⟨p, hp⟩ : ∃ p, L[m]? = some p := ⟨L[m]'(by omega), List.getElem?_eq_getElem _⟩
      have hxp := (HEACH.out.2 m x p hx hp).1
      have r0 : wr.cell? ⟨gO, m * 9, none⟩ = some (.string p.1.1) := by rw [← hxp]; exact by have h9 := bcell1 hbr (hcA (m * 9 + 0) _ (by rw [etCells_get d m x hx 0 (by omega)]; rfl)); simpa using h9
      have r1 : wr.cell? ⟨gO, m * 9 + 1, none⟩ = some (.string p.1.2) := by rw [← hxp]; exact by have h9 := bcell1 hbr (hcA (m * 9 + 1) _ (by rw [etCells_get d m x hx 1 (by omega)]; rfl)); simpa using h9
      have e0 := bcell1 hbr (K1.out.cell 0 rfl)
      have e1 := bcell1 hbr (K1.out.cell 1 rfl)
      have HLS := Lib.hid (EdgeLess_any wr.drew p.1 e)
      have HM := Lib.hid (And.intro hm hp)
      clear hbel habv hbr hm hx hp hxp hcA
      go_wp2_with fail
      rw [hq]
      clear hq
      refine wp_region_still_tail 6 (by kernel_rfl) (by kernel_rfl) ?_
      change wpStill _ _ wr.drew (fun a' => wpList _ _ _ _ a' wr.drew) _ _
      simp only [List.take_succ_cons, List.take_zero, List.drop_succ_cons, List.drop_zero]
      repeat still_step
      refine wpStill_nil ?_
      go_wp2_with fail
      refine HLS.out.mono ?_
      rintro en w2 ⟨rfl, hb2⟩
      have HB2 := Lib.hid (btrans (bdrew HBR.out) hb2)
      clear hb2
      by_cases hel : elt p.1 e
      · have hd : decide (elt p.1 e) = true := by simpa using hel
        have HEL := Lib.hid hel
        clear hel
        go_wp2_with fail
        go_roundw
        case rel => exact ⟨m + 1, hi, by go_num, rfl, by omega, hhl, (by
          intro i p' hp' hi'
          by_cases him : i = m
          · subst him
            have := HM.out.2
            rw [this] at hp'
            cases hp'
            exact HEL.out
          · have := HR.out.at_ hp' HM.out.2 (by omega)
            exact elt_trans this HEL.out), HABV.out, HB2.out⟩
        case measure => simp [intOf]; omega
      · have hd : decide (elt p.1 e) = false := by simpa using hel
        have HEL := Lib.hid hel
        clear hel
        go_wp2_with fail
        go_roundw
        case rel => exact ⟨lo, m, rfl, rfl, hm1, by omega, HBEL.out, (by
          intro i p' hp' hi'
          by_cases him : i = m
          · subst him
            have := HM.out.2
            rw [this] at hp'
            cases hp'
            exact HEL.out
          · have := HR.out.at_ HM.out.2 hp' (by omega)
            exact elt_mono HEL.out this), HB2.out⟩
        case measure => simp [intOf]; omega
    · have hle : lo = hi := by omega
      subst hle
      have HSP := Lib.hid (SplitAt.mk hhl HBEL.out HABV.out)
      have HBR2 := Lib.hid (btrans HBW.out hbr)
      have hlc : lo ≤ c := by omega
      have hld : lo ≤ d.length := by omega
      have e0 := bcell1 hbr (K1.out.cell 0 rfl)
      have e1 := bcell1 hbr (K1.out.cell 1 rfl)
      by_cases hend : lo = d.length
      · have d1 : decide (lo < d.length) = false := by simp; omega
        have HMISS := Lib.hid (HSP.out.miss t (fun p hp => by have := (List.getElem?_eq_some_iff.1 hp).1; omega))
        have HEND := Lib.hid hend
        clear hend hbel habv hlt
        go_wp2_with fail
        go_quiet (fail)
        obtain ⟨V, hV⟩ : ∃ V, V = wr.drewN nq := ⟨_, rfl⟩
        rw [← hV]
        have hbV : Below wr.heap.size wr V := by rw [hV]; exact below_drewN (brefl _) _
        have HBV := Lib.hid (btrans hbr hbV)
        have HB0 := Lib.hid (btrans HBR2.out hbV)
        have HSV := Lib.hid ((HSRC.out.below (btrans hbr hbV)).take hld rfl)
        clear hV hbV hbr e0 e1
        have hsz := HB0.out.size
        have hsz2 := HBV.out.size
        have hwW : w.heap.size + 1 < W.heap.size := K2.out.lt
        go_wp2_with (at_builtin; refine wpList_app rfl _ _ 30 rfl a.heap.size 62 i0 (.agg #[.string ByteArray.empty, .string ByteArray.empty, .int .u64 0, .int .u64 0, .int .u64 0, .int .u64 0, .int .u64 0, .int .u64 0, .slice none 0 0]) 9 104 Try.underlying30 hi0 hz0 hz1 hz2 rfl (by decide) _ 0 [] rfl (World.ownsRow_nil _ _ _ _) (some ⟨gO, 0, none⟩) lo c (etCells (d.take lo)) rfl HSV.out (etCells_one _) ?g51 ?g52 ?g53 ?_)
        case g51 => unfold maxLen; omega
        case g52 => omega
        case g53 => omega
        intro v1 w1 hown1 hgrow1 hat1
        have hb1 : Below V.heap.size V w1 := (brefl V).grown hgrow1 (Nat.le_refl _) (fun q hq => by simp [Value.ownBlock] at hq)
        have hB1 : Below W.heap.size W w1 := btrans HBV.out hb1
        have HBV1 := Lib.hid hb1
        have HB1 := Lib.hid hB1
        have HBa1 := Lib.hid (btrans HB0.out hb1)
        have HK1 := Lib.hid (K1.out.below hB1)
        have HK2 := Lib.hid (K2.out.below hB1)
        have HO1 := Lib.hid (show w1.ownsRow a.heap.size 62 9 v1 (d.take lo).length (etCells (d.take lo)) by rw [List.length_take, Nat.min_eq_left hld]; simpa using hown1)
        have HEA1 := Lib.hid (show EtEach w1 v1.ownBlock (d.take lo) (L.take lo) from ((HEACH.out.below HBV.out).take lo).keep (own' := v1.ownBlock) (fun _ _ _ _ _ hc => bcell1 hb1 hc) hb1.size (fun b hb hlt => by rcases hat1 with h | h <;> rw [h] <;> simp [Value.ownBlock] <;> omega))
        have hsz1 := hb1.size
        have htl : (d.take lo).length ≤ d.length := by rw [List.length_take]; omega
        clear hown1 hgrow1 hb1 hB1
        go_wp2_with fail
        have HCP := Lib.hid (Copy_any w1.drew _ t (HT.out.below (btrans HB1.out (bdrew (brefl _)))) (bars_few HTO.out.bars))
        have p0 : w1.cell? ⟨w.heap.size, 0, none⟩ = some (.string e.1) := HK1.out.cell 0 rfl
        have p1 : w1.cell? ⟨w.heap.size, 1, none⟩ = some (.string e.2) := HK1.out.cell 1 rfl
        have q0 : w1.cell? ⟨w.heap.size + 1, 0, none⟩ = some (.int .u64 y1) := HK2.out.cell 0 rfl
        have q1 : w1.cell? ⟨w.heap.size + 1, 1, none⟩ = some (.int .u64 y2) := HK2.out.cell 1 rfl
        have q2 : w1.cell? ⟨w.heap.size + 1, 2, none⟩ = some (.int .u64 y3) := HK2.out.cell 2 rfl
        have q3 : w1.cell? ⟨w.heap.size + 1, 3, none⟩ = some (.int .u64 y4) := HK2.out.cell 3 rfl
        have q4 : w1.cell? ⟨w.heap.size + 1, 4, none⟩ = some (.int .u64 y5) := HK2.out.cell 4 rfl
        have q5 : w1.cell? ⟨w.heap.size + 1, 5, none⟩ = some (.int .u64 y6) := HK2.out.cell 5 rfl
        have q6 : w1.cell? ⟨w.heap.size + 1, 6, none⟩ = some (.slice TA Tn Tc) := HK2.out.cell 6 rfl
        have agf : some w.heap.size ≠ v1.ownBlock := by rcases hat1 with h | h <;> rw [h] <;> simp [Value.ownBlock] <;> omega
        have agg : some (w.heap.size + 1) ≠ v1.ownBlock := by rcases hat1 with h | h <;> rw [h] <;> simp [Value.ownBlock] <;> omega
        go_region_held3 (fun w' => w'.cell? ⟨w.heap.size, 0, none⟩ = some (.string e.1) ∧ w'.cell? ⟨w.heap.size, 1, none⟩ = some (.string e.2) ∧ w'.cell? ⟨w.heap.size + 1, 0, none⟩ = some (.int .u64 y1) ∧ w'.cell? ⟨w.heap.size + 1, 1, none⟩ = some (.int .u64 y2) ∧ w'.cell? ⟨w.heap.size + 1, 2, none⟩ = some (.int .u64 y3) ∧ w'.cell? ⟨w.heap.size + 1, 3, none⟩ = some (.int .u64 y4) ∧ w'.cell? ⟨w.heap.size + 1, 4, none⟩ = some (.int .u64 y5) ∧ w'.cell? ⟨w.heap.size + 1, 5, none⟩ = some (.int .u64 y6) ∧ w'.cell? ⟨w.heap.size + 1, 6, none⟩ = some (.slice TA Tn Tc))
          (first
            | go_keep
            | (go_split_ands; refine ⟨?_, ?_, ?_, ?_, ?_, ?_, ?_, ?_, ?_⟩ <;> (first | assumption | (apply bcell1 hcb; assumption) | (rw [hgrow2.cell_far _ (by simp; omega) agf]; assumption) | (rw [hgrow2.cell_far _ (by simp; omega) agg]; assumption))))
          ((first
            | ((refine step_append_lies _ (by rfl) _ _ _ (by rfl) a.heap.size 62 i0 _ 9 104 Try.underlying30 hi0 hz0 hz1 hz2 rfl (by omega) _ _ _ (by rfl) ((own_below HO1.out (btrans (bdrew (brefl _)) hcb)).alloc _) ⟨w2.heap.size, 0, none⟩ 1 1 [.string e.1, .string e.2, .int .u64 (natHi t.raw.calls), .int .u64 (natLo t.raw.calls), .int .u64 (natHi t.raw.errors), .int .u64 (natLo t.raw.errors), .int .u64 (natHi t.raw.took), .int .u64 (natLo t.raw.took), .slice CA Cn Cc] (by rfl) (by rfl) (World.news_of_block (cs := #[.string e.1, .string e.2, .int .u64 (natHi t.raw.calls), .int .u64 (natLo t.raw.calls), .int .u64 (natHi t.raw.errors), .int .u64 (natLo t.raw.errors), .int .u64 (natHi t.raw.took), .int .u64 (natLo t.raw.took), .slice CA Cn Cc]) (t := 62) (fr := (0, 0)) (heap_alloc_new w2 _)) (by simp [Value.oneCell']) (by omega) (by unfold maxLen; omega) (by omega) (by simp; omega) (w2.heap.size + 1) (by simp) ?_); intro gg cap w3 hown3 hgrow2 hat3 hlt3)
            | (go_at_call 34; refine HCP.out.mono ?_; rintro en w2 ⟨cv, rfl, hcv, hcb, hcf⟩; have hw2 : w1.heap.size ≤ w2.heap.size := hcb.size; obtain ⟨CA, Cn, Cc, hcve, hcv1, hcv2, hcv3⟩ := hcv; subst hcve; unfold talVal)))
        obtain ⟨y, hy⟩ : ∃ y : ETV, y = ⟨e, t.raw.calls, t.raw.errors, t.raw.took, CA, Cn, Cc⟩ := ⟨_, rfl⟩
        have hyc : etCells [y] = [.string e.1, .string e.2, .int .u64 (natHi t.raw.calls), .int .u64 (natLo t.raw.calls), .int .u64 (natHi t.raw.errors), .int .u64 (natLo t.raw.errors), .int .u64 (natHi t.raw.took), .int .u64 (natLo t.raw.took), .slice CA Cn Cc] := by rw [hy]; rfl
        have hown1 := own_lt HO1.out
        have hcf' : ∀ q, CA = some q → w1.heap.size ≤ q.block := fun q hq => hcf _ _ _ q Cn Cc (by rw [hq])
        have hB3 : Below a.heap.size a w3 := (bal (btrans (bdrew HBa1.out) hcb) _).grown hgrow2 (bal (btrans (bdrew HBa1.out) hcb) _).size (fun q hq => own_ge HO1.out hq)
        have HB3 := Lib.hid hB3
        have hkeep : ∀ b, some b ≠ v1.ownBlock → b < w2.heap.size → ∀ o v, w2.cell? ⟨b, o, none⟩ = some v → w3.cell? ⟨b, o, none⟩ = some v := fun b hb hlt o v hc => by
          rw [World.cell?_of_block (hgrow2.block b (by simp; omega) hb), World.cell?_of_block (Below.heap_alloc w2 _ b hlt)]
          exact hc
        have hw23 : w2.heap.size ≤ w3.heap.size := by have := hgrow2.size; simp at this; omega
        have hgg : ∀ b, some b ≠ v1.ownBlock → b < w2.heap.size → some b ≠ some gg := fun b hb hlt => by rcases hat3 with h | h <;> simp <;> intro e0 <;> subst e0 <;> first | exact hb h.symm | omega
        have he1 : EtEach w3 (some gg) (d.take lo) (L.take lo) := (HEA1.out.below (btrans (bdrew (brefl _)) hcb)).keep hkeep hw23 hgg
        have hty : TalAt w2 (ETV.val y) t.raw := by rw [hy]; exact ⟨CA, Cn, Cc, rfl, hcv1, hcv2, hcv3⟩
        have hya : ∀ q, y.A = some q → w1.heap.size ≤ q.block := by rw [hy]; exact hcf'
        have hyo : ∀ q, y.A = some q → some q.block ≠ v1.ownBlock := fun q hq e0 => by have h7 := hown1 _ e0.symm; have h8 := hya q hq; omega
        have hey : EtEach w2 v1.ownBlock [y] [(e, t)] := EtEach.one (by rw [hy]) HE.out hty hyo
        have he2 := he1.append (hey.keep hkeep hw23 hgg)
        have HE2 := Lib.hid he2
        have hl2 : (d.take lo ++ [y]).length = lo + 1 := by rw [List.length_append, List.length_take, Nat.min_eq_left hld]; rfl
        have HO3 := Lib.hid (show w3.ownsRow a.heap.size 62 9 (.slice (some ⟨gg, 0, none⟩) (lo + 1) cap) (lo + 1) (etCells (d.take lo ++ [y])) by rw [etCells_append, hyc]; rw [List.length_take, Nat.min_eq_left hld] at hown3; exact hown3)
        have hkp := HBV.out.size
        have hd1 : EtEach V (Value.slice (some ⟨gO, 0, none⟩) d.length c).ownBlock (d.drop lo) (L.drop lo) := (HEACH.out.below HBV.out).drop lo
        have hd2 : EtEach w1 v1.ownBlock (d.drop lo) (L.drop lo) := hd1.keep (fun _ _ _ _ _ hc => bcell1 HBV1.out hc) HBV1.out.size (fun b hb hlt => by rcases hat1 with h | h <;> rw [h] <;> simp [Value.ownBlock] <;> omega)
        have he3 : EtEach w3 (some gg) (d.drop lo) (L.drop lo) := (hd2.below (btrans (bdrew (brefl _)) hcb)).keep hkeep hw23 hgg
        have HE3 := Lib.hid he3
        have hbV3 : Below V.heap.size V w3 := (bal (btrans (bdrew HBV1.out) hcb) _).grown hgrow2 (bal (btrans (bdrew HBV1.out) hcb) _).size (fun q hq => by rcases hat1 with h | h <;> rw [h] at hq <;> cases hq <;> exact Nat.le_refl _)
        have HBV3 := Lib.hid hbV3
        have hsz3 : V.heap.size ≤ w3.heap.size := hbV3.size
        have hggl : gg < w3.heap.size := hlt3
        clear hcv1 hcv2 hcv3 hcf hcb hown3 hgrow2 hat3 hkeep hgg he1 hty hya hyo hey he2 hd1 hd2 he3 hbV3 hB3 p0 p1 q0 q1 q2 q3 q4 q5 q6 hyc hy hcf'
        by_cases hcl : c = lo
        · have hcl2 := hcl.symm
          subst hcl2
          go_wp2_with (at_builtin; refine wpList_app rfl _ _ 30 rfl a.heap.size 62 i0 (.agg #[.string ByteArray.empty, .string ByteArray.empty, .int .u64 0, .int .u64 0, .int .u64 0, .int .u64 0, .int .u64 0, .int .u64 0, .slice none 0 0]) 9 104 Try.underlying30 hi0 hz0 hz1 hz2 rfl (by decide) _ _ _ rfl HO3.out _ _ _ (etCells (d.drop lo)) rfl (by exact ⟨by rw [etCells_length, List.length_drop]; omega, fun h => absurd h (by omega)⟩) (etCells_one _) ?g11 ?g12 ?g13 ?_)
          case g11 => unfold maxLen; omega
          case g12 => omega
          case g13 => omega
          intro v4 w4 hown4 hgrow4 hat4
          have hB4 : Below a.heap.size a w4 := HB3.out.grown hgrow4 HB3.out.size (fun q hq => own_ge HO3.out hq)
          have hk4 : ∀ b, some b ≠ some gg → b < w3.heap.size → ∀ o v, w3.cell? ⟨b, o, none⟩ = some v → w4.cell? ⟨b, o, none⟩ = some v := fun b hb hlt o v hc => by rw [World.cell?_of_block (hgrow4.block b hlt hb)]; exact hc
          have ho4 : ∀ b, some b ≠ some gg → b < w3.heap.size → some b ≠ v4.ownBlock := fun b hb hlt => by rcases hat4 with h | h <;> rw [h] <;> first | exact hb | (simp; omega)
          have hfin : EtOwn a.heap.size w4 v4 (withT L e t) := by
            rw [HMISS.out]
            refine ⟨(d.take lo ++ [y]) ++ d.drop lo, ?_, ?_⟩
            · rw [List.length_append, hl2, List.length_drop, etCells_append]
              rw [show d.length - lo = 0 by omega]; exact hown4
            · have := (HE2.out.keep hk4 hgrow4.size ho4).append (HE3.out.keep hk4 hgrow4.size ho4)
              simp only [List.append_assoc, List.singleton_append] at this ⊢
              exact this
          have HFIN := Lib.hid hfin
          have HB4 := Lib.hid hB4
          clear hown4 hgrow4 hat4 hk4 ho4 hfin hB4
          go_wp2
          go_ret
          exact ⟨v4, rfl, HFIN.out, HB4.out⟩
        · have HS3 := Lib.hid (show SrcAt w3 (some ⟨gO, lo * 9, none⟩) (d.length - lo) 9 (etCells (d.drop lo)) by have h9 := (HSRC.out.below (btrans HBV.out HBV3.out)).drop hld rfl; simpa using h9)
          go_wp2_with (at_builtin; refine wpList_app rfl _ _ 30 rfl a.heap.size 62 i0 (.agg #[.string ByteArray.empty, .string ByteArray.empty, .int .u64 0, .int .u64 0, .int .u64 0, .int .u64 0, .int .u64 0, .int .u64 0, .slice none 0 0]) 9 104 Try.underlying30 hi0 hz0 hz1 hz2 rfl (by decide) _ _ _ rfl HO3.out _ _ _ (etCells (d.drop lo)) rfl (by exact HS3.out) (etCells_one _) ?g21 ?g22 ?g23 ?_)
          case g21 => unfold maxLen; omega
          case g22 => omega
          case g23 => omega
          intro v4 w4 hown4 hgrow4 hat4
          have hB4 : Below a.heap.size a w4 := HB3.out.grown hgrow4 HB3.out.size (fun q hq => own_ge HO3.out hq)
          have hk4 : ∀ b, some b ≠ some gg → b < w3.heap.size → ∀ o v, w3.cell? ⟨b, o, none⟩ = some v → w4.cell? ⟨b, o, none⟩ = some v := fun b hb hlt o v hc => by rw [World.cell?_of_block (hgrow4.block b hlt hb)]; exact hc
          have ho4 : ∀ b, some b ≠ some gg → b < w3.heap.size → some b ≠ v4.ownBlock := fun b hb hlt => by rcases hat4 with h | h <;> rw [h] <;> first | exact hb | (simp; omega)
          have hfin : EtOwn a.heap.size w4 v4 (withT L e t) := by
            rw [HMISS.out]
            refine ⟨(d.take lo ++ [y]) ++ d.drop lo, ?_, ?_⟩
            · rw [List.length_append, hl2, List.length_drop, etCells_append]
              exact hown4
            · have := (HE2.out.keep hk4 hgrow4.size ho4).append (HE3.out.keep hk4 hgrow4.size ho4)
              simp only [List.append_assoc, List.singleton_append] at this ⊢
              exact this
          have HFIN := Lib.hid hfin
          have HB4 := Lib.hid hB4
          clear hown4 hgrow4 hat4 hk4 ho4 hfin hB4
          go_wp2
          go_ret
          exact ⟨v4, rfl, HFIN.out, HB4.out⟩
      obtain ⟨p, hp⟩ : ∃ p, L[lo]? = some p := ⟨L[lo]'(by omega), List.getElem?_eq_getElem _⟩
      obtain ⟨x, hx⟩ : ∃ x, d[lo]? = some x := ⟨d[lo]'(by omega), List.getElem?_eq_getElem _⟩
      have hld2 : lo < d.length := by omega
      have d1 : decide (lo < d.length) = true := by simpa using hld2
      obtain ⟨gA, oA, hA, hcA⟩ := HSRC.out.2 (by omega)
      cases hA
      have hxp := HEACH.out.2 lo x p hx hp
      have r0 : wr.cell? ⟨gO, lo * 9, none⟩ = some (.string p.1.1) := by rw [← hxp.1]; have h9 := bcell1 hbr (hcA (lo * 9 + 0) _ (by rw [etCells_get d lo x hx 0 (by omega)]; rfl)); simpa using h9
      have r1 : wr.cell? ⟨gO, lo * 9 + 1, none⟩ = some (.string p.1.2) := by rw [← hxp.1]; have h9 := bcell1 hbr (hcA (lo * 9 + 1) _ (by rw [etCells_get d lo x hx 1 (by omega)]; rfl)); simpa using h9
      by_cases hpe : p.1 = e
      · have HHIT := Lib.hid (HSP.out.hit t hp hpe)
        have HXP := Lib.hid hxp
        have HX := Lib.hid hx
        have HP := Lib.hid hp
        have s2 : wr.cell? ⟨gO, lo * 9 + 2, none⟩ = some (.int .u64 (natHi x.calls)) := by have h9 := bcell1 hbr (hcA (lo * 9 + 2) _ (by rw [etCells_get d lo x hx 2 (by omega)]; rfl)); simpa using h9
        have s3 : wr.cell? ⟨gO, lo * 9 + 3, none⟩ = some (.int .u64 (natLo x.calls)) := by have h9 := bcell1 hbr (hcA (lo * 9 + 3) _ (by rw [etCells_get d lo x hx 3 (by omega)]; rfl)); simpa using h9
        have s4 : wr.cell? ⟨gO, lo * 9 + 4, none⟩ = some (.int .u64 (natHi x.errors)) := by have h9 := bcell1 hbr (hcA (lo * 9 + 4) _ (by rw [etCells_get d lo x hx 4 (by omega)]; rfl)); simpa using h9
        have s5 : wr.cell? ⟨gO, lo * 9 + 5, none⟩ = some (.int .u64 (natLo x.errors)) := by have h9 := bcell1 hbr (hcA (lo * 9 + 5) _ (by rw [etCells_get d lo x hx 5 (by omega)]; rfl)); simpa using h9
        have s6 : wr.cell? ⟨gO, lo * 9 + 6, none⟩ = some (.int .u64 (natHi x.took)) := by have h9 := bcell1 hbr (hcA (lo * 9 + 6) _ (by rw [etCells_get d lo x hx 6 (by omega)]; rfl)); simpa using h9
        have s7 : wr.cell? ⟨gO, lo * 9 + 7, none⟩ = some (.int .u64 (natLo x.took)) := by have h9 := bcell1 hbr (hcA (lo * 9 + 7) _ (by rw [etCells_get d lo x hx 7 (by omega)]; rfl)); simpa using h9
        have s8 : wr.cell? ⟨gO, lo * 9 + 8, none⟩ = some (.slice x.A x.n x.c) := by have h9 := bcell1 hbr (hcA (lo * 9 + 8) _ (by rw [etCells_get d lo x hx 8 (by omega)]; rfl)); simpa using h9
        rw [hpe] at r0 r1
        have HPE := Lib.hid hpe
        have hown9 := own_below HOWN.out hbr
        clear hpe hp hx hxp hcA hbel habv hlt hend
        go_wp2_with fail
        go_quiet (fail)
        obtain ⟨V, hV⟩ : ∃ V, V = wr.drewN nq := ⟨_, rfl⟩
        rw [← hV]
        have hbV : Below wr.heap.size wr V := by rw [hV]; exact below_drewN (brefl _) _
        have GX := Lib.hid (And.intro (bcell1 hbV s2) (And.intro (bcell1 hbV s3) (And.intro (bcell1 hbV s4) (And.intro (bcell1 hbV s5) (And.intro (bcell1 hbV s6) (And.intro (bcell1 hbV s7) (bcell1 hbV s8)))))))
        have hK2 := K2.out.below (btrans hbr hbV)
        have GT := Lib.hid (And.intro (hK2.cell 0 rfl) (And.intro (hK2.cell 1 rfl) (And.intro (hK2.cell 2 rfl) (And.intro (hK2.cell 3 rfl) (And.intro (hK2.cell 4 rfl) (And.intro (hK2.cell 5 rfl) (hK2.cell 6 rfl)))))))
        have HOW := Lib.hid (own_below hown9 hbV)
        have hgV : gO < V.heap.size := own_lt HOW.out gO rfl
        have HBVW := Lib.hid (btrans hbr hbV)
        have HBVa := Lib.hid (btrans HBR2.out hbV)
        have HEV := Lib.hid (HEACH.out.below (btrans hbr hbV))
        have HPL := Lib.hid (show ∀ w', Below V.heap.size V w' → Calls Try.prog 33 #[(.agg #[.int .u64 (natHi x.calls), .int .u64 (natLo x.calls), .int .u64 (natHi x.errors), .int .u64 (natLo x.errors), .int .u64 (natHi x.took), .int .u64 (natLo x.took), .slice x.A x.n x.c]), (.agg #[.int .u64 y1, .int .u64 y2, .int .u64 y3, .int .u64 y4, .int .u64 y5, .int .u64 y6, .slice TA Tn Tc])] w' fun e w'' => ∃ v, e = .returned (.tuple #[v, .int .i64 0]) ∧ TalAt w'' v (tadd p.2 t).raw ∧ Below w'.heap.size w' w'' ∧ TalFrom w'.heap.size v from fun w' hb => rPlus_ok w' p.2 t _ _ (HXP.out.2.2.1.below (btrans HBVW.out hb)) (HT.out.below (btrans HBVW.out hb)) (HOK.out p (List.mem_of_getElem? HP.out)) HTO.out)
        clear hV hbV hbr e0 e1 r0 r1 s2 s3 s4 s5 s6 s7 s8 hK2 hown9
        go_wp2_with fail
        refine wp_region_mark (by kernel_rfl) (by kernel_rfl) [some 44, some 45, some 46, some 47, some 48, some 49, some 50, some 51, some 52, some 43, some 53, some 54, some 55, some 56, none] (by kernel_rfl) (fun u j w' => match j with | 0 => u 0 = (.slice (some ⟨gO, 0, none⟩) d.length c) | 1 => u 1 = (.int .i64 lo) | 2 => u 2 = (.slice (some ⟨gO, 0, none⟩) d.length c) | 3 => u 3 = (.int .i64 lo) | 4 => u 4 = (.pointer (some ⟨gO, lo * 9, none⟩)) | 5 => u 5 = (.pointer (some ⟨gO, lo * 9 + 2, none⟩)) | 6 => u 6 = (.agg #[.int .u64 (natHi x.calls), .int .u64 (natLo x.calls), .int .u64 (natHi x.errors), .int .u64 (natLo x.errors), .int .u64 (natHi x.took), .int .u64 (natLo x.took), .slice x.A x.n x.c]) | 7 => u 7 = (.agg #[.int .u64 y1, .int .u64 y2, .int .u64 y3, .int .u64 y4, .int .u64 y5, .int .u64 y6, .slice TA Tn Tc]) | 8 => ∃ v, u 8 = .tuple #[v, .int .i64 0] ∧ TalAt w' v (tadd p.2 t).raw ∧ TalFrom V.heap.size v | 9 => ∃ v, u 9 = .tuple #[v, .int .i64 0] ∧ TalAt w' v (tadd p.2 t).raw ∧ TalFrom V.heap.size v | 10 => TalAt w' (u 10) (tadd p.2 t).raw ∧ TalFrom V.heap.size (u 10) | 11 => True | 12 => u 12 = (.pointer (some ⟨gO, lo * 9, none⟩)) | 13 => u 13 = (.pointer (some ⟨gO, lo * 9 + 2, none⟩)) | 14 => True | _ => True) 14 (fun d w' => match d with | false => Below V.heap.size V w' | true => StoreDone V x (tadd p.2 t) gO lo w') (by decide) (bdrew (brefl V)) ?step ?fin
        case step =>
          intro i hi d u w' hd hu hinv
          rcases i with _ | _ | _ | _ | _ | _ | _ | _ | _ | _ | _ | _ | _ | _ | _ | i
          · -- 0
            have hd0 : d = false := by
              cases d with
              | false => rfl
              | true => exact mark_no (by kernel_rfl) (hd rfl).2
            subst hd0
            have hinv : Below V.heap.size V w' := hinv
            clear hd
            clear hu
            refine wpOp_go rfl rfl fun K hK => ?_
            simp only [fillL, Act.put, List.setIfInBounds_toArray, List.set_cons_succ, List.set_cons_zero, Nat.zero_add, Nat.reduceAdd]
            go_wp2_with (fail)
            refine RelPost.mk (.slice (some ⟨gO, 0, none⟩) d.length c) ?_ (rfl) (hinv) (fun j hj hne hn h => match j, hne, hn, h with | 0, hne, hn, h => (hne rfl).elim | 1, hne, hn, h => h | 2, hne, hn, h => h | 3, hne, hn, h => h | 4, hne, hn, h => h | 5, hne, hn, h => h | 6, hne, hn, h => h | 7, hne, hn, h => h | 8, hne, hn, h => h | 9, hne, hn, h => h | 10, hne, hn, h => h | 11, hne, hn, h => h | 12, hne, hn, h => not_hangs (by kernel_rfl) hn | 13, hne, hn, h => not_hangs (by kernel_rfl) hn | 14, hne, hn, h => not_hangs (by kernel_rfl) hn | _ + 15, hne, _, h => h)
            simp [fillL, Act.put, setAt]
          · -- 1
            have hd0 : d = false := by
              cases d with
              | false => rfl
              | true => exact mark_no (by kernel_rfl) (hd rfl).2
            subst hd0
            have hinv : Below V.heap.size V w' := hinv
            clear hd
            clear hu
            refine wpOp_go rfl rfl fun K hK => ?_
            simp only [fillL, Act.put, List.setIfInBounds_toArray, List.set_cons_succ, List.set_cons_zero, Nat.zero_add, Nat.reduceAdd]
            go_wp2_with (fail)
            refine RelPost.mk (.int .i64 lo) ?_ (rfl) (hinv) (fun j hj hne hn h => match j, hne, hn, h with | 0, hne, hn, h => h | 1, hne, hn, h => (hne rfl).elim | 2, hne, hn, h => h | 3, hne, hn, h => h | 4, hne, hn, h => h | 5, hne, hn, h => h | 6, hne, hn, h => h | 7, hne, hn, h => h | 8, hne, hn, h => h | 9, hne, hn, h => h | 10, hne, hn, h => h | 11, hne, hn, h => h | 12, hne, hn, h => not_hangs (by kernel_rfl) hn | 13, hne, hn, h => not_hangs (by kernel_rfl) hn | 14, hne, hn, h => not_hangs (by kernel_rfl) hn | _ + 15, hne, _, h => h)
            simp [fillL, Act.put, setAt]
          · -- 2
            have hd0 : d = false := by
              cases d with
              | false => rfl
              | true => exact mark_no (by kernel_rfl) (hd rfl).2
            subst hd0
            have hinv : Below V.heap.size V w' := hinv
            clear hd
            clear hu
            refine wpOp_go rfl rfl fun K hK => ?_
            simp only [fillL, Act.put, List.setIfInBounds_toArray, List.set_cons_succ, List.set_cons_zero, Nat.zero_add, Nat.reduceAdd]
            go_wp2_with (fail)
            refine RelPost.mk (.slice (some ⟨gO, 0, none⟩) d.length c) ?_ (rfl) (hinv) (fun j hj hne hn h => match j, hne, hn, h with | 0, hne, hn, h => h | 1, hne, hn, h => h | 2, hne, hn, h => (hne rfl).elim | 3, hne, hn, h => h | 4, hne, hn, h => not_hangs (by kernel_rfl) hn | 5, hne, hn, h => not_hangs (by kernel_rfl) hn | 6, hne, hn, h => not_hangs (by kernel_rfl) hn | 7, hne, hn, h => h | 8, hne, hn, h => not_hangs (by kernel_rfl) hn | 9, hne, hn, h => not_hangs (by kernel_rfl) hn | 10, hne, hn, h => not_hangs (by kernel_rfl) hn | 11, hne, hn, h => not_hangs (by kernel_rfl) hn | 12, hne, hn, h => not_hangs (by kernel_rfl) hn | 13, hne, hn, h => not_hangs (by kernel_rfl) hn | 14, hne, hn, h => not_hangs (by kernel_rfl) hn | _ + 15, hne, _, h => h)
            simp [fillL, Act.put, setAt]
          · -- 3
            have hd0 : d = false := by
              cases d with
              | false => rfl
              | true => exact mark_no (by kernel_rfl) (hd rfl).2
            subst hd0
            have hinv : Below V.heap.size V w' := hinv
            clear hd
            clear hu
            refine wpOp_go rfl rfl fun K hK => ?_
            simp only [fillL, Act.put, List.setIfInBounds_toArray, List.set_cons_succ, List.set_cons_zero, Nat.zero_add, Nat.reduceAdd]
            go_wp2_with (fail)
            refine RelPost.mk (.int .i64 lo) ?_ (rfl) (hinv) (fun j hj hne hn h => match j, hne, hn, h with | 0, hne, hn, h => h | 1, hne, hn, h => h | 2, hne, hn, h => h | 3, hne, hn, h => (hne rfl).elim | 4, hne, hn, h => not_hangs (by kernel_rfl) hn | 5, hne, hn, h => not_hangs (by kernel_rfl) hn | 6, hne, hn, h => not_hangs (by kernel_rfl) hn | 7, hne, hn, h => h | 8, hne, hn, h => not_hangs (by kernel_rfl) hn | 9, hne, hn, h => not_hangs (by kernel_rfl) hn | 10, hne, hn, h => not_hangs (by kernel_rfl) hn | 11, hne, hn, h => not_hangs (by kernel_rfl) hn | 12, hne, hn, h => not_hangs (by kernel_rfl) hn | 13, hne, hn, h => not_hangs (by kernel_rfl) hn | 14, hne, hn, h => not_hangs (by kernel_rfl) hn | _ + 15, hne, _, h => h)
            simp [fillL, Act.put, setAt]
          · -- 4
            have hd0 : d = false := by
              cases d with
              | false => rfl
              | true => exact mark_no (by kernel_rfl) (hd rfl).2
            subst hd0
            have hinv : Below V.heap.size V w' := hinv
            clear hd
            have e2 : u 2 = (.slice (some ⟨gO, 0, none⟩) d.length c) := hu 2 (by kernel_rfl)
            have e3 : u 3 = (.int .i64 lo) := hu 3 (by kernel_rfl)
            clear hu
            refine wpOp_go rfl rfl fun K hK => ?_
            simp only [fillL, Act.put, List.setIfInBounds_toArray, List.set_cons_succ, List.set_cons_zero, Nat.zero_add, Nat.reduceAdd]
            go_wp2_with (fail)
            refine RelPost.mk (.pointer (some ⟨gO, lo * 9, none⟩)) ?_ (rfl) (hinv) (fun j hj hne hn h => match j, hne, hn, h with | 0, hne, hn, h => h | 1, hne, hn, h => h | 2, hne, hn, h => h | 3, hne, hn, h => h | 4, hne, hn, h => (hne rfl).elim | 5, hne, hn, h => not_hangs (by kernel_rfl) hn | 6, hne, hn, h => not_hangs (by kernel_rfl) hn | 7, hne, hn, h => h | 8, hne, hn, h => not_hangs (by kernel_rfl) hn | 9, hne, hn, h => not_hangs (by kernel_rfl) hn | 10, hne, hn, h => not_hangs (by kernel_rfl) hn | 11, hne, hn, h => not_hangs (by kernel_rfl) hn | 12, hne, hn, h => not_hangs (by kernel_rfl) hn | 13, hne, hn, h => not_hangs (by kernel_rfl) hn | 14, hne, hn, h => not_hangs (by kernel_rfl) hn | _ + 15, hne, _, h => h)
            simp [fillL, Act.put, setAt, e2, e3]
          · -- 5
            have hd0 : d = false := by
              cases d with
              | false => rfl
              | true => exact mark_no (by kernel_rfl) (hd rfl).2
            subst hd0
            have hinv : Below V.heap.size V w' := hinv
            clear hd
            have e2 : u 2 = (.slice (some ⟨gO, 0, none⟩) d.length c) := hu 2 (by kernel_rfl)
            have e3 : u 3 = (.int .i64 lo) := hu 3 (by kernel_rfl)
            have e4 : u 4 = (.pointer (some ⟨gO, lo * 9, none⟩)) := hu 4 (by kernel_rfl)
            clear hu
            refine wpOp_go rfl rfl fun K hK => ?_
            simp only [fillL, Act.put, List.setIfInBounds_toArray, List.set_cons_succ, List.set_cons_zero, Nat.zero_add, Nat.reduceAdd]
            go_wp2_with (fail)
            refine RelPost.mk (.pointer (some ⟨gO, lo * 9 + 2, none⟩)) ?_ (rfl) (hinv) (fun j hj hne hn h => match j, hne, hn, h with | 0, hne, hn, h => h | 1, hne, hn, h => h | 2, hne, hn, h => h | 3, hne, hn, h => h | 4, hne, hn, h => h | 5, hne, hn, h => (hne rfl).elim | 6, hne, hn, h => not_hangs (by kernel_rfl) hn | 7, hne, hn, h => h | 8, hne, hn, h => not_hangs (by kernel_rfl) hn | 9, hne, hn, h => not_hangs (by kernel_rfl) hn | 10, hne, hn, h => not_hangs (by kernel_rfl) hn | 11, hne, hn, h => not_hangs (by kernel_rfl) hn | 12, hne, hn, h => not_hangs (by kernel_rfl) hn | 13, hne, hn, h => not_hangs (by kernel_rfl) hn | 14, hne, hn, h => not_hangs (by kernel_rfl) hn | _ + 15, hne, _, h => h)
            simp [fillL, Act.put, setAt, e2, e3, e4]
          · -- 6
            have hd0 : d = false := by
              cases d with
              | false => rfl
              | true => exact mark_no (by kernel_rfl) (hd rfl).2
            subst hd0
            have hinv : Below V.heap.size V w' := hinv
            clear hd
            have e2 : u 2 = (.slice (some ⟨gO, 0, none⟩) d.length c) := hu 2 (by kernel_rfl)
            have e3 : u 3 = (.int .i64 lo) := hu 3 (by kernel_rfl)
            have e4 : u 4 = (.pointer (some ⟨gO, lo * 9, none⟩)) := hu 4 (by kernel_rfl)
            have e5 : u 5 = (.pointer (some ⟨gO, lo * 9 + 2, none⟩)) := hu 5 (by kernel_rfl)
            clear hu
            have g2 := bcell1 hinv GX.out.1
            have g3 := bcell1 hinv GX.out.2.1
            have g4 := bcell1 hinv GX.out.2.2.1
            have g5 := bcell1 hinv GX.out.2.2.2.1
            have g6 := bcell1 hinv GX.out.2.2.2.2.1
            have g7 := bcell1 hinv GX.out.2.2.2.2.2.1
            have g8 := bcell1 hinv GX.out.2.2.2.2.2.2
            refine wpOp_go rfl rfl fun K hK => ?_
            simp only [fillL, Act.put, List.setIfInBounds_toArray, List.set_cons_succ, List.set_cons_zero, Nat.zero_add, Nat.reduceAdd]
            go_wp2_with (fail)
            refine RelPost.mk (.agg #[.int .u64 (natHi x.calls), .int .u64 (natLo x.calls), .int .u64 (natHi x.errors), .int .u64 (natLo x.errors), .int .u64 (natHi x.took), .int .u64 (natLo x.took), .slice x.A x.n x.c]) ?_ (rfl) (hinv) (fun j hj hne hn h => match j, hne, hn, h with | 0, hne, hn, h => h | 1, hne, hn, h => h | 2, hne, hn, h => h | 3, hne, hn, h => h | 4, hne, hn, h => h | 5, hne, hn, h => h | 6, hne, hn, h => (hne rfl).elim | 7, hne, hn, h => h | 8, hne, hn, h => not_hangs (by kernel_rfl) hn | 9, hne, hn, h => not_hangs (by kernel_rfl) hn | 10, hne, hn, h => not_hangs (by kernel_rfl) hn | 11, hne, hn, h => not_hangs (by kernel_rfl) hn | 12, hne, hn, h => not_hangs (by kernel_rfl) hn | 13, hne, hn, h => not_hangs (by kernel_rfl) hn | 14, hne, hn, h => not_hangs (by kernel_rfl) hn | _ + 15, hne, _, h => h)
            simp [fillL, Act.put, setAt, e2, e3, e4, e5]
          · -- 7
            have hd0 : d = false := by
              cases d with
              | false => rfl
              | true => exact mark_no (by kernel_rfl) (hd rfl).2
            subst hd0
            have hinv : Below V.heap.size V w' := hinv
            clear hd
            clear hu
            have g0 := bcell1 hinv GT.out.1
            have g1 := bcell1 hinv GT.out.2.1
            have g2 := bcell1 hinv GT.out.2.2.1
            have g3 := bcell1 hinv GT.out.2.2.2.1
            have g4 := bcell1 hinv GT.out.2.2.2.2.1
            have g5 := bcell1 hinv GT.out.2.2.2.2.2.1
            have g6 := bcell1 hinv GT.out.2.2.2.2.2.2
            refine wpOp_go rfl rfl fun K hK => ?_
            simp only [fillL, Act.put, List.setIfInBounds_toArray, List.set_cons_succ, List.set_cons_zero, Nat.zero_add, Nat.reduceAdd]
            go_wp2_with (fail)
            refine RelPost.mk (.agg #[.int .u64 y1, .int .u64 y2, .int .u64 y3, .int .u64 y4, .int .u64 y5, .int .u64 y6, .slice TA Tn Tc]) ?_ (rfl) (hinv) (fun j hj hne hn h => match j, hne, hn, h with | 0, hne, hn, h => h | 1, hne, hn, h => h | 2, hne, hn, h => h | 3, hne, hn, h => h | 4, hne, hn, h => h | 5, hne, hn, h => h | 6, hne, hn, h => h | 7, hne, hn, h => (hne rfl).elim | 8, hne, hn, h => not_hangs (by kernel_rfl) hn | 9, hne, hn, h => not_hangs (by kernel_rfl) hn | 10, hne, hn, h => not_hangs (by kernel_rfl) hn | 11, hne, hn, h => not_hangs (by kernel_rfl) hn | 12, hne, hn, h => not_hangs (by kernel_rfl) hn | 13, hne, hn, h => not_hangs (by kernel_rfl) hn | 14, hne, hn, h => not_hangs (by kernel_rfl) hn | _ + 15, hne, _, h => h)
            simp [fillL, Act.put, setAt]
          · -- 8
            have hd0 : d = false := by
              cases d with
              | false => rfl
              | true => exact mark_no (by kernel_rfl) (hd rfl).2
            subst hd0
            have hinv : Below V.heap.size V w' := hinv
            clear hd
            have e2 : u 2 = (.slice (some ⟨gO, 0, none⟩) d.length c) := hu 2 (by kernel_rfl)
            have e3 : u 3 = (.int .i64 lo) := hu 3 (by kernel_rfl)
            have e4 : u 4 = (.pointer (some ⟨gO, lo * 9, none⟩)) := hu 4 (by kernel_rfl)
            have e5 : u 5 = (.pointer (some ⟨gO, lo * 9 + 2, none⟩)) := hu 5 (by kernel_rfl)
            have e6 : u 6 = (.agg #[.int .u64 (natHi x.calls), .int .u64 (natLo x.calls), .int .u64 (natHi x.errors), .int .u64 (natLo x.errors), .int .u64 (natHi x.took), .int .u64 (natLo x.took), .slice x.A x.n x.c]) := hu 6 (by kernel_rfl)
            have e7 : u 7 = (.agg #[.int .u64 y1, .int .u64 y2, .int .u64 y3, .int .u64 y4, .int .u64 y5, .int .u64 y6, .slice TA Tn Tc]) := hu 7 (by kernel_rfl)
            clear hu
            have hplus := HPL.out w' hinv
            refine wpOp_go rfl rfl fun K hK => ?_
            simp only [fillL, Act.put, List.setIfInBounds_toArray, List.set_cons_succ, List.set_cons_zero, Nat.zero_add, Nat.reduceAdd]
            go_wp2_with (fail)
            refine hplus.mono ?_
            rintro en w3 ⟨pv, rfl, hpv, hb3, hfrom⟩
            replace hfrom : TalFrom V.heap.size pv := hfrom.le hinv.size
            go_wp2_with fail
            refine RelPost.mk (.tuple #[pv, .int .i64 0]) ?_ (⟨pv, rfl, hpv, hfrom⟩) (btrans hinv hb3) (fun j hj hne hn h => match j, hne, hn, h with | 0, hne, hn, h => h | 1, hne, hn, h => h | 2, hne, hn, h => h | 3, hne, hn, h => h | 4, hne, hn, h => h | 5, hne, hn, h => h | 6, hne, hn, h => h | 7, hne, hn, h => h | 8, hne, hn, h => (hne rfl).elim | 9, hne, hn, h => not_hangs (by kernel_rfl) hn | 10, hne, hn, h => not_hangs (by kernel_rfl) hn | 11, hne, hn, h => not_hangs (by kernel_rfl) hn | 12, hne, hn, h => not_hangs (by kernel_rfl) hn | 13, hne, hn, h => not_hangs (by kernel_rfl) hn | 14, hne, hn, h => not_hangs (by kernel_rfl) hn | _ + 15, hne, _, h => h)
            simp [fillL, Act.put, setAt, e2, e3, e4, e5, e6, e7]
          · -- 9
            have hd0 : d = false := by
              cases d with
              | false => rfl
              | true => exact mark_no (by kernel_rfl) (hd rfl).2
            subst hd0
            have hinv : Below V.heap.size V w' := hinv
            clear hd
            have e2 : u 2 = (.slice (some ⟨gO, 0, none⟩) d.length c) := hu 2 (by kernel_rfl)
            have e3 : u 3 = (.int .i64 lo) := hu 3 (by kernel_rfl)
            have e4 : u 4 = (.pointer (some ⟨gO, lo * 9, none⟩)) := hu 4 (by kernel_rfl)
            have e5 : u 5 = (.pointer (some ⟨gO, lo * 9 + 2, none⟩)) := hu 5 (by kernel_rfl)
            have e6 : u 6 = (.agg #[.int .u64 (natHi x.calls), .int .u64 (natLo x.calls), .int .u64 (natHi x.errors), .int .u64 (natLo x.errors), .int .u64 (natHi x.took), .int .u64 (natLo x.took), .slice x.A x.n x.c]) := hu 6 (by kernel_rfl)
            have e7 : u 7 = (.agg #[.int .u64 y1, .int .u64 y2, .int .u64 y3, .int .u64 y4, .int .u64 y5, .int .u64 y6, .slice TA Tn Tc]) := hu 7 (by kernel_rfl)
            have e8 : ∃ v, u 8 = .tuple #[v, .int .i64 0] ∧ TalAt w' v (tadd p.2 t).raw ∧ TalFrom V.heap.size v := hu 8 (by kernel_rfl)
            clear hu
            obtain ⟨pv, e8, hpv⟩ := e8
            refine wpOp_go rfl rfl fun K hK => ?_
            simp only [fillL, Act.put, List.setIfInBounds_toArray, List.set_cons_succ, List.set_cons_zero, Nat.zero_add, Nat.reduceAdd]
            go_wp2_with (fail)
            refine RelPost.mk (.tuple #[pv, .int .i64 0]) ?_ (⟨pv, rfl, hpv⟩) (hinv) (fun j hj hne hn h => match j, hne, hn, h with | 0, hne, hn, h => h | 1, hne, hn, h => h | 2, hne, hn, h => h | 3, hne, hn, h => h | 4, hne, hn, h => h | 5, hne, hn, h => h | 6, hne, hn, h => h | 7, hne, hn, h => h | 8, hne, hn, h => h | 9, hne, hn, h => (hne rfl).elim | 10, hne, hn, h => not_hangs (by kernel_rfl) hn | 11, hne, hn, h => not_hangs (by kernel_rfl) hn | 12, hne, hn, h => not_hangs (by kernel_rfl) hn | 13, hne, hn, h => not_hangs (by kernel_rfl) hn | 14, hne, hn, h => not_hangs (by kernel_rfl) hn | _ + 15, hne, _, h => h)
            simp [fillL, Act.put, setAt, e2, e3, e4, e5, e6, e7, e8]
          · -- 10
            have hd0 : d = false := by
              cases d with
              | false => rfl
              | true => exact mark_no (by kernel_rfl) (hd rfl).2
            subst hd0
            have hinv : Below V.heap.size V w' := hinv
            clear hd
            have e2 : u 2 = (.slice (some ⟨gO, 0, none⟩) d.length c) := hu 2 (by kernel_rfl)
            have e3 : u 3 = (.int .i64 lo) := hu 3 (by kernel_rfl)
            have e4 : u 4 = (.pointer (some ⟨gO, lo * 9, none⟩)) := hu 4 (by kernel_rfl)
            have e5 : u 5 = (.pointer (some ⟨gO, lo * 9 + 2, none⟩)) := hu 5 (by kernel_rfl)
            have e6 : u 6 = (.agg #[.int .u64 (natHi x.calls), .int .u64 (natLo x.calls), .int .u64 (natHi x.errors), .int .u64 (natLo x.errors), .int .u64 (natHi x.took), .int .u64 (natLo x.took), .slice x.A x.n x.c]) := hu 6 (by kernel_rfl)
            have e7 : u 7 = (.agg #[.int .u64 y1, .int .u64 y2, .int .u64 y3, .int .u64 y4, .int .u64 y5, .int .u64 y6, .slice TA Tn Tc]) := hu 7 (by kernel_rfl)
            have e8 : ∃ v, u 8 = .tuple #[v, .int .i64 0] ∧ TalAt w' v (tadd p.2 t).raw ∧ TalFrom V.heap.size v := hu 8 (by kernel_rfl)
            have e9 : ∃ v, u 9 = .tuple #[v, .int .i64 0] ∧ TalAt w' v (tadd p.2 t).raw ∧ TalFrom V.heap.size v := hu 9 (by kernel_rfl)
            clear hu
            obtain ⟨pv, e9, hpv⟩ := e9
            refine wpOp_go rfl rfl fun K hK => ?_
            simp only [fillL, Act.put, List.setIfInBounds_toArray, List.set_cons_succ, List.set_cons_zero, Nat.zero_add, Nat.reduceAdd]
            go_wp2_with (fail)
            refine RelPost.mk pv ?_ (hpv) (hinv) (fun j hj hne hn h => match j, hne, hn, h with | 0, hne, hn, h => h | 1, hne, hn, h => h | 2, hne, hn, h => h | 3, hne, hn, h => h | 4, hne, hn, h => h | 5, hne, hn, h => h | 6, hne, hn, h => h | 7, hne, hn, h => h | 8, hne, hn, h => h | 9, hne, hn, h => h | 10, hne, hn, h => (hne rfl).elim | 11, hne, hn, h => h | 12, hne, hn, h => not_hangs (by kernel_rfl) hn | 13, hne, hn, h => not_hangs (by kernel_rfl) hn | 14, hne, hn, h => not_hangs (by kernel_rfl) hn | _ + 15, hne, _, h => h)
            simp [fillL, Act.put, setAt, e2, e3, e4, e5, e6, e7, e9]
          · -- 11
            cases d with
            | false =>
              have hinv : Below V.heap.size V w' := hinv
              clear hd
              have e2 : u 2 = (.slice (some ⟨gO, 0, none⟩) d.length c) := hu 2 (by kernel_rfl)
              have e3 : u 3 = (.int .i64 lo) := hu 3 (by kernel_rfl)
              have e4 : u 4 = (.pointer (some ⟨gO, lo * 9, none⟩)) := hu 4 (by kernel_rfl)
              have e5 : u 5 = (.pointer (some ⟨gO, lo * 9 + 2, none⟩)) := hu 5 (by kernel_rfl)
              have e6 : u 6 = (.agg #[.int .u64 (natHi x.calls), .int .u64 (natLo x.calls), .int .u64 (natHi x.errors), .int .u64 (natLo x.errors), .int .u64 (natHi x.took), .int .u64 (natLo x.took), .slice x.A x.n x.c]) := hu 6 (by kernel_rfl)
              have e7 : u 7 = (.agg #[.int .u64 y1, .int .u64 y2, .int .u64 y3, .int .u64 y4, .int .u64 y5, .int .u64 y6, .slice TA Tn Tc]) := hu 7 (by kernel_rfl)
              have e8 : ∃ v, u 8 = .tuple #[v, .int .i64 0] ∧ TalAt w' v (tadd p.2 t).raw ∧ TalFrom V.heap.size v := hu 8 (by kernel_rfl)
              have e9 : ∃ v, u 9 = .tuple #[v, .int .i64 0] ∧ TalAt w' v (tadd p.2 t).raw ∧ TalFrom V.heap.size v := hu 9 (by kernel_rfl)
              clear hu
              obtain ⟨pv, e9, hpv⟩ := e9
              refine wpOp_go rfl rfl fun K hK => ?_
              simp only [fillL, Act.put, List.setIfInBounds_toArray, List.set_cons_succ, List.set_cons_zero, Nat.zero_add, Nat.reduceAdd]
              go_wp2_with (fail)
              refine RelPost.mk (.int .i64 0) ?_ (trivial) (hinv) (fun j hj hne hn h => match j, hne, hn, h with | 0, hne, hn, h => h | 1, hne, hn, h => h | 2, hne, hn, h => h | 3, hne, hn, h => h | 4, hne, hn, h => h | 5, hne, hn, h => h | 6, hne, hn, h => h | 7, hne, hn, h => h | 8, hne, hn, h => h | 9, hne, hn, h => h | 10, hne, hn, h => h | 11, hne, hn, h => (hne rfl).elim | 12, hne, hn, h => h | 13, hne, hn, h => h | 14, hne, hn, h => h | _ + 15, hne, _, h => h)
              simp [fillL, Act.put, setAt, e2, e3, e4, e5, e6, e7, e9]
            | true =>
              have hinv : StoreDone V x (tadd p.2 t) gO lo w' := hinv
              clear hd
              have e2 : u 2 = (.slice (some ⟨gO, 0, none⟩) d.length c) := hu 2 (by kernel_rfl)
              have e3 : u 3 = (.int .i64 lo) := hu 3 (by kernel_rfl)
              have e4 : u 4 = (.pointer (some ⟨gO, lo * 9, none⟩)) := hu 4 (by kernel_rfl)
              have e5 : u 5 = (.pointer (some ⟨gO, lo * 9 + 2, none⟩)) := hu 5 (by kernel_rfl)
              have e6 : u 6 = (.agg #[.int .u64 (natHi x.calls), .int .u64 (natLo x.calls), .int .u64 (natHi x.errors), .int .u64 (natLo x.errors), .int .u64 (natHi x.took), .int .u64 (natLo x.took), .slice x.A x.n x.c]) := hu 6 (by kernel_rfl)
              have e7 : u 7 = (.agg #[.int .u64 y1, .int .u64 y2, .int .u64 y3, .int .u64 y4, .int .u64 y5, .int .u64 y6, .slice TA Tn Tc]) := hu 7 (by kernel_rfl)
              have e8 : ∃ v, u 8 = .tuple #[v, .int .i64 0] ∧ TalAt w' v (tadd p.2 t).raw ∧ TalFrom V.heap.size v := hu 8 (by kernel_rfl)
              have e9 : ∃ v, u 9 = .tuple #[v, .int .i64 0] ∧ TalAt w' v (tadd p.2 t).raw ∧ TalFrom V.heap.size v := hu 9 (by kernel_rfl)
              clear hu
              obtain ⟨pv, e9, hpv⟩ := e9
              refine wpOp_go rfl rfl fun K hK => ?_
              simp only [fillL, Act.put, List.setIfInBounds_toArray, List.set_cons_succ, List.set_cons_zero, Nat.zero_add, Nat.reduceAdd]
              go_wp2_with (fail)
              refine RelPost.mk (.int .i64 0) ?_ (trivial) (hinv) (fun j hj hne hn h => match j, hne, hn, h with | 0, hne, hn, h => h | 1, hne, hn, h => h | 2, hne, hn, h => h | 3, hne, hn, h => h | 4, hne, hn, h => h | 5, hne, hn, h => h | 6, hne, hn, h => h | 7, hne, hn, h => h | 8, hne, hn, h => h | 9, hne, hn, h => h | 10, hne, hn, h => h | 11, hne, hn, h => (hne rfl).elim | 12, hne, hn, h => h | 13, hne, hn, h => h | 14, hne, hn, h => h | _ + 15, hne, _, h => h)
              simp [fillL, Act.put, setAt, e2, e3, e4, e5, e6, e7, e9]
          · -- 12
            have hd0 : d = false := by
              cases d with
              | false => rfl
              | true => exact mark_no (by kernel_rfl) (hd rfl).2
            subst hd0
            have hinv : Below V.heap.size V w' := hinv
            clear hd
            have e0 : u 0 = (.slice (some ⟨gO, 0, none⟩) d.length c) := hu 0 (by kernel_rfl)
            have e1 : u 1 = (.int .i64 lo) := hu 1 (by kernel_rfl)
            have e2 : u 2 = (.slice (some ⟨gO, 0, none⟩) d.length c) := hu 2 (by kernel_rfl)
            have e3 : u 3 = (.int .i64 lo) := hu 3 (by kernel_rfl)
            have e4 : u 4 = (.pointer (some ⟨gO, lo * 9, none⟩)) := hu 4 (by kernel_rfl)
            have e5 : u 5 = (.pointer (some ⟨gO, lo * 9 + 2, none⟩)) := hu 5 (by kernel_rfl)
            have e6 : u 6 = (.agg #[.int .u64 (natHi x.calls), .int .u64 (natLo x.calls), .int .u64 (natHi x.errors), .int .u64 (natLo x.errors), .int .u64 (natHi x.took), .int .u64 (natLo x.took), .slice x.A x.n x.c]) := hu 6 (by kernel_rfl)
            have e7 : u 7 = (.agg #[.int .u64 y1, .int .u64 y2, .int .u64 y3, .int .u64 y4, .int .u64 y5, .int .u64 y6, .slice TA Tn Tc]) := hu 7 (by kernel_rfl)
            have e8 : ∃ v, u 8 = .tuple #[v, .int .i64 0] ∧ TalAt w' v (tadd p.2 t).raw ∧ TalFrom V.heap.size v := hu 8 (by kernel_rfl)
            have e9 : ∃ v, u 9 = .tuple #[v, .int .i64 0] ∧ TalAt w' v (tadd p.2 t).raw ∧ TalFrom V.heap.size v := hu 9 (by kernel_rfl)
            have e10 : TalAt w' (u 10) (tadd p.2 t).raw ∧ TalFrom V.heap.size (u 10) := hu 10 (by kernel_rfl)
            clear hu
            refine wpOp_go rfl rfl fun K hK => ?_
            simp only [fillL, Act.put, List.setIfInBounds_toArray, List.set_cons_succ, List.set_cons_zero, Nat.zero_add, Nat.reduceAdd]
            go_wp2_with (fail)
            refine RelPost.mk (.pointer (some ⟨gO, lo * 9, none⟩)) ?_ (rfl) (hinv) (fun j hj hne hn h => match j, hne, hn, h with | 0, hne, hn, h => h | 1, hne, hn, h => h | 2, hne, hn, h => h | 3, hne, hn, h => h | 4, hne, hn, h => h | 5, hne, hn, h => h | 6, hne, hn, h => h | 7, hne, hn, h => h | 8, hne, hn, h => h | 9, hne, hn, h => h | 10, hne, hn, h => h | 11, hne, hn, h => h | 12, hne, hn, h => (hne rfl).elim | 13, hne, hn, h => not_hangs (by kernel_rfl) hn | 14, hne, hn, h => not_hangs (by kernel_rfl) hn | _ + 15, hne, _, h => h)
            simp [fillL, Act.put, setAt, e0, e1, e2, e3, e4, e5, e6, e7]
          · -- 13
            have hd0 : d = false := by
              cases d with
              | false => rfl
              | true => exact mark_no (by kernel_rfl) (hd rfl).2
            subst hd0
            have hinv : Below V.heap.size V w' := hinv
            clear hd
            have e0 : u 0 = (.slice (some ⟨gO, 0, none⟩) d.length c) := hu 0 (by kernel_rfl)
            have e1 : u 1 = (.int .i64 lo) := hu 1 (by kernel_rfl)
            have e2 : u 2 = (.slice (some ⟨gO, 0, none⟩) d.length c) := hu 2 (by kernel_rfl)
            have e3 : u 3 = (.int .i64 lo) := hu 3 (by kernel_rfl)
            have e4 : u 4 = (.pointer (some ⟨gO, lo * 9, none⟩)) := hu 4 (by kernel_rfl)
            have e5 : u 5 = (.pointer (some ⟨gO, lo * 9 + 2, none⟩)) := hu 5 (by kernel_rfl)
            have e6 : u 6 = (.agg #[.int .u64 (natHi x.calls), .int .u64 (natLo x.calls), .int .u64 (natHi x.errors), .int .u64 (natLo x.errors), .int .u64 (natHi x.took), .int .u64 (natLo x.took), .slice x.A x.n x.c]) := hu 6 (by kernel_rfl)
            have e7 : u 7 = (.agg #[.int .u64 y1, .int .u64 y2, .int .u64 y3, .int .u64 y4, .int .u64 y5, .int .u64 y6, .slice TA Tn Tc]) := hu 7 (by kernel_rfl)
            have e8 : ∃ v, u 8 = .tuple #[v, .int .i64 0] ∧ TalAt w' v (tadd p.2 t).raw ∧ TalFrom V.heap.size v := hu 8 (by kernel_rfl)
            have e9 : ∃ v, u 9 = .tuple #[v, .int .i64 0] ∧ TalAt w' v (tadd p.2 t).raw ∧ TalFrom V.heap.size v := hu 9 (by kernel_rfl)
            have e10 : TalAt w' (u 10) (tadd p.2 t).raw ∧ TalFrom V.heap.size (u 10) := hu 10 (by kernel_rfl)
            have e12 : u 12 = (.pointer (some ⟨gO, lo * 9, none⟩)) := hu 12 (by kernel_rfl)
            clear hu
            refine wpOp_go rfl rfl fun K hK => ?_
            simp only [fillL, Act.put, List.setIfInBounds_toArray, List.set_cons_succ, List.set_cons_zero, Nat.zero_add, Nat.reduceAdd]
            go_wp2_with (fail)
            refine RelPost.mk (.pointer (some ⟨gO, lo * 9 + 2, none⟩)) ?_ (rfl) (hinv) (fun j hj hne hn h => match j, hne, hn, h with | 0, hne, hn, h => h | 1, hne, hn, h => h | 2, hne, hn, h => h | 3, hne, hn, h => h | 4, hne, hn, h => h | 5, hne, hn, h => h | 6, hne, hn, h => h | 7, hne, hn, h => h | 8, hne, hn, h => h | 9, hne, hn, h => h | 10, hne, hn, h => h | 11, hne, hn, h => h | 12, hne, hn, h => h | 13, hne, hn, h => (hne rfl).elim | 14, hne, hn, h => not_hangs (by kernel_rfl) hn | _ + 15, hne, _, h => h)
            simp [fillL, Act.put, setAt, e0, e1, e2, e3, e4, e5, e6, e7, e12]
          · -- 14
            have hd0 : d = false := by
              cases d with
              | false => rfl
              | true => exact ((hd rfl).1 rfl).elim
            subst hd0
            have hinv : Below V.heap.size V w' := hinv
            clear hd
            have e0 : u 0 = (.slice (some ⟨gO, 0, none⟩) d.length c) := hu 0 (by kernel_rfl)
            have e1 : u 1 = (.int .i64 lo) := hu 1 (by kernel_rfl)
            have e2 : u 2 = (.slice (some ⟨gO, 0, none⟩) d.length c) := hu 2 (by kernel_rfl)
            have e3 : u 3 = (.int .i64 lo) := hu 3 (by kernel_rfl)
            have e4 : u 4 = (.pointer (some ⟨gO, lo * 9, none⟩)) := hu 4 (by kernel_rfl)
            have e5 : u 5 = (.pointer (some ⟨gO, lo * 9 + 2, none⟩)) := hu 5 (by kernel_rfl)
            have e6 : u 6 = (.agg #[.int .u64 (natHi x.calls), .int .u64 (natLo x.calls), .int .u64 (natHi x.errors), .int .u64 (natLo x.errors), .int .u64 (natHi x.took), .int .u64 (natLo x.took), .slice x.A x.n x.c]) := hu 6 (by kernel_rfl)
            have e7 : u 7 = (.agg #[.int .u64 y1, .int .u64 y2, .int .u64 y3, .int .u64 y4, .int .u64 y5, .int .u64 y6, .slice TA Tn Tc]) := hu 7 (by kernel_rfl)
            have e8 : ∃ v, u 8 = .tuple #[v, .int .i64 0] ∧ TalAt w' v (tadd p.2 t).raw ∧ TalFrom V.heap.size v := hu 8 (by kernel_rfl)
            have e9 : ∃ v, u 9 = .tuple #[v, .int .i64 0] ∧ TalAt w' v (tadd p.2 t).raw ∧ TalFrom V.heap.size v := hu 9 (by kernel_rfl)
            have e10 : TalAt w' (u 10) (tadd p.2 t).raw ∧ TalFrom V.heap.size (u 10) := hu 10 (by kernel_rfl)
            have e12 : u 12 = (.pointer (some ⟨gO, lo * 9, none⟩)) := hu 12 (by kernel_rfl)
            have e13 : u 13 = (.pointer (some ⟨gO, lo * 9 + 2, none⟩)) := hu 13 (by kernel_rfl)
            clear hu
            obtain ⟨⟨CA, Cn, Cc, hcve, hcv1, hcv2, hcv3⟩, hcf⟩ := e10
            unfold talVal at hcve
            rw [hcve] at hcf
            have g2 := bcell1 hinv GX.out.1
            have g3 := bcell1 hinv GX.out.2.1
            have g4 := bcell1 hinv GX.out.2.2.1
            have g5 := bcell1 hinv GX.out.2.2.2.1
            have g6 := bcell1 hinv GX.out.2.2.2.2.1
            have g7 := bcell1 hinv GX.out.2.2.2.2.2.1
            have g8 := bcell1 hinv GX.out.2.2.2.2.2.2
            have f2 := own_frozen HOW.out (lo * 9 + 2)
            have f3 := own_frozen HOW.out (lo * 9 + 3)
            have f4 := own_frozen HOW.out (lo * 9 + 4)
            have f5 := own_frozen HOW.out (lo * 9 + 5)
            have f6 := own_frozen HOW.out (lo * 9 + 6)
            have f7 := own_frozen HOW.out (lo * 9 + 7)
            have f8 := own_frozen HOW.out (lo * 9 + 8)
            have f2' : w'.frozen? ⟨gO, lo * 9 + 2, none⟩ = false := bfroz1 hinv (GX.out.1) f2
            have f3' : w'.frozen? ⟨gO, lo * 9 + 3, none⟩ = false := bfroz1 hinv (GX.out.2.1) f3
            have f4' : w'.frozen? ⟨gO, lo * 9 + 4, none⟩ = false := bfroz1 hinv (GX.out.2.2.1) f4
            have f5' : w'.frozen? ⟨gO, lo * 9 + 5, none⟩ = false := bfroz1 hinv (GX.out.2.2.2.1) f5
            have f6' : w'.frozen? ⟨gO, lo * 9 + 6, none⟩ = false := bfroz1 hinv (GX.out.2.2.2.2.1) f6
            have f7' : w'.frozen? ⟨gO, lo * 9 + 7, none⟩ = false := bfroz1 hinv (GX.out.2.2.2.2.2.1) f7
            have f8' : w'.frozen? ⟨gO, lo * 9 + 8, none⟩ = false := bfroz1 hinv (GX.out.2.2.2.2.2.2) f8
            have TK : ∀ (v : Value) (s : RTal), TalAt w' v s → TalFrom V.heap.size v → TalAt (put7 w' gO (lo * 9) ⟨x.e, (tadd p.2 t).raw.calls, (tadd p.2 t).raw.errors, (tadd p.2 t).raw.took, CA, Cn, Cc⟩) v s := fun v s h1 h2 => h1.stays h2 (fun b o u hb _ hc => by rw [put7_cell (by omega)]; exact hc)
            refine wpOp_go rfl rfl fun K hK => ?_
            simp only [fillL, Act.put, List.setIfInBounds_toArray, List.set_cons_succ, List.set_cons_zero, Nat.zero_add, Nat.reduceAdd]
            go_wp2_with (fail)
            refine RelPost.mk undef ?_ (trivial) (⟨w', ⟨x.e, (tadd p.2 t).raw.calls, (tadd p.2 t).raw.errors, (tadd p.2 t).raw.took, CA, Cn, Cc⟩, hinv, ⟨CA, Cn, Cc, rfl, hcv1, hcv2, hcv3⟩, fun q hq => hcf (tadd p.2 t).raw.calls (tadd p.2 t).raw.errors (tadd p.2 t).raw.took q Cn Cc (by rw [show CA = some q from hq]; rfl), rfl, rfl⟩) (fun j hj hne hn h => match j, hne, hn, h with | 0, hne, hn, h => h | 1, hne, hn, h => h | 2, hne, hn, h => h | 3, hne, hn, h => h | 4, hne, hn, h => h | 5, hne, hn, h => h | 6, hne, hn, h => h | 7, hne, hn, h => h | 8, hne, hn, h => (by obtain ⟨v, a1, a2, a3⟩ := h; exact ⟨v, a1, TK _ _ a2 a3, a3⟩) | 9, hne, hn, h => (by obtain ⟨v, a1, a2, a3⟩ := h; exact ⟨v, a1, TK _ _ a2 a3, a3⟩) | 10, hne, hn, h => ⟨TK _ _ h.1 h.2, h.2⟩ | 11, hne, hn, h => h | 12, hne, hn, h => h | 13, hne, hn, h => h | 14, hne, hn, h => (hne rfl).elim | _ + 15, hne, _, h => h)
            simp [fillL, Act.put, setAt, e0, e1, e2, e3, e4, e5, e6, e7, e12, e13, hcve]
          · exact absurd hi (by simp)
        case fin =>
          intro u w' hu hinv
          have e0 : u 0 = (.slice (some ⟨gO, 0, none⟩) d.length c) := hu 0 (by simp)
          have e1 : u 1 = (.int .i64 lo) := hu 1 (by simp)
          have e2 : u 2 = (.slice (some ⟨gO, 0, none⟩) d.length c) := hu 2 (by simp)
          have e3 : u 3 = (.int .i64 lo) := hu 3 (by simp)
          have e4 : u 4 = (.pointer (some ⟨gO, lo * 9, none⟩)) := hu 4 (by simp)
          have e5 : u 5 = (.pointer (some ⟨gO, lo * 9 + 2, none⟩)) := hu 5 (by simp)
          have e6 : u 6 = (.agg #[.int .u64 (natHi x.calls), .int .u64 (natLo x.calls), .int .u64 (natHi x.errors), .int .u64 (natLo x.errors), .int .u64 (natHi x.took), .int .u64 (natLo x.took), .slice x.A x.n x.c]) := hu 6 (by simp)
          have e7 : u 7 = (.agg #[.int .u64 y1, .int .u64 y2, .int .u64 y3, .int .u64 y4, .int .u64 y5, .int .u64 y6, .slice TA Tn Tc]) := hu 7 (by simp)
          have e8 : ∃ v, u 8 = .tuple #[v, .int .i64 0] ∧ TalAt w' v (tadd p.2 t).raw ∧ TalFrom V.heap.size v := hu 8 (by simp)
          have e9 : ∃ v, u 9 = .tuple #[v, .int .i64 0] ∧ TalAt w' v (tadd p.2 t).raw ∧ TalFrom V.heap.size v := hu 9 (by simp)
          have e10 : TalAt w' (u 10) (tadd p.2 t).raw ∧ TalFrom V.heap.size (u 10) := hu 10 (by simp)
          have e11 : True := hu 11 (by simp)
          have e12 : u 12 = (.pointer (some ⟨gO, lo * 9, none⟩)) := hu 12 (by simp)
          have e13 : u 13 = (.pointer (some ⟨gO, lo * 9 + 2, none⟩)) := hu 13 (by simp)
          have e14 : True := hu 14 (by simp)
          clear hu
          obtain ⟨w2, z, hb2, hz1, hz2, hz3, hw2⟩ : StoreDone V x (tadd p.2 t) gO lo w' := hinv
          have hgb : gO < w2.heap.size := Nat.lt_of_lt_of_le hgV hb2.size
          have hbase : a.heap.size ≤ gO := own_ge HOW.out rfl
          have hez : EtEach w2 (some gO) [z] [(e, tadd p.2 t)] := EtEach.one (hz3.trans (HXP.out.1.trans HPE.out)) HE.out hz1 (fun q hq => by have h7 := hz2 q hq; simp; omega)
          have hse := ((HEV.out.below hb2).set (lo := lo) hez).keep (w' := put7 w2 gO (lo * 9) z) (own' := some gO) (fun b hb hlt o v hc => by rw [put7_cell (fun e0 => hb (by rw [e0]; rfl))]; exact hc) (by rw [put7_size]; exact Nat.le_refl _) (fun b hb _ => hb)
          have HFIN := Lib.hid (show EtOwn a.heap.size w' (.slice (some ⟨gO, 0, none⟩) d.length c) (withT L e t) by rw [HHIT.out, hw2]; exact ⟨d.set lo z, by rw [List.length_set]; exact put7_own (own_below HOW.out hb2) HX.out hz3, hse⟩)
          have HBF := Lib.hid (show Below a.heap.size a w' by rw [hw2]; exact put7_below (btrans HBVa.out hb2) hbase)
          simp only [fillL, Act.put, List.setIfInBounds_toArray, List.set_cons_succ, List.set_cons_zero, Nat.zero_add, Nat.reduceAdd, e0, e1, e2, e3, e4, e5, e6, e7, e12, e13]
          clear e0 e1 e2 e3 e4 e5 e6 e7 e8 e9 e10 e11 e12 e13 e14 hb2 hz1 hz2 hz3 hw2 hez hse hgb
          go_wp2_with fail
          go_ret
          exact ⟨_, rfl, HFIN.out, HBF.out⟩
      have HMISS := Lib.hid (HSP.out.miss t (fun q hq => by rw [hp] at hq; cases hq; exact hpe))
      have HP := Lib.hid (And.intro hp (And.intro hx hxp))
      have hcl : ¬ c = lo := by omega
      by_cases hp1 : p.1.1 = e.1
      · have hp2 : (p.1.2.toList == e.2.toList) = false := by rw [beq_eq_false_iff_ne]; exact fun h => hpe (Prod.ext hp1 (bytes_ext h))
        rw [hp1] at r0
        have HPE := Lib.hid (And.intro hp1 hpe)
        clear hpe hp1 hp hx hxp hcA hbel habv hlt hend
        go_wp2_with fail
        go_quiet (fail)
        obtain ⟨V, hV⟩ : ∃ V, V = wr.drewN nq := ⟨_, rfl⟩
        rw [← hV]
        have hbV : Below wr.heap.size wr V := by rw [hV]; exact below_drewN (brefl _) _
        have HBV := Lib.hid (btrans hbr hbV)
        have HB0 := Lib.hid (btrans HBR2.out hbV)
        have HSV := Lib.hid ((HSRC.out.below (btrans hbr hbV)).take hld rfl)
        clear hV hbV hbr e0 e1
        have hsz := HB0.out.size
        have hsz2 := HBV.out.size
        have hwW : w.heap.size + 1 < W.heap.size := K2.out.lt
        go_wp2_with (at_builtin; refine wpList_app rfl _ _ 30 rfl a.heap.size 62 i0 (.agg #[.string ByteArray.empty, .string ByteArray.empty, .int .u64 0, .int .u64 0, .int .u64 0, .int .u64 0, .int .u64 0, .int .u64 0, .slice none 0 0]) 9 104 Try.underlying30 hi0 hz0 hz1 hz2 rfl (by decide) _ 0 [] rfl (World.ownsRow_nil _ _ _ _) (some ⟨gO, 0, none⟩) lo c (etCells (d.take lo)) rfl HSV.out (etCells_one _) ?g71 ?g72 ?g73 ?_)
        case g71 => unfold maxLen; omega
        case g72 => omega
        case g73 => omega
        intro v1 w1 hown1 hgrow1 hat1
        have hb1 : Below V.heap.size V w1 := (brefl V).grown hgrow1 (Nat.le_refl _) (fun q hq => by simp [Value.ownBlock] at hq)
        have hB1 : Below W.heap.size W w1 := btrans HBV.out hb1
        have HBV1 := Lib.hid hb1
        have HB1 := Lib.hid hB1
        have HBa1 := Lib.hid (btrans HB0.out hb1)
        have HK1 := Lib.hid (K1.out.below hB1)
        have HK2 := Lib.hid (K2.out.below hB1)
        have HO1 := Lib.hid (show w1.ownsRow a.heap.size 62 9 v1 (d.take lo).length (etCells (d.take lo)) by rw [List.length_take, Nat.min_eq_left hld]; simpa using hown1)
        have HEA1 := Lib.hid (show EtEach w1 v1.ownBlock (d.take lo) (L.take lo) from ((HEACH.out.below HBV.out).take lo).keep (own' := v1.ownBlock) (fun _ _ _ _ _ hc => bcell1 hb1 hc) hb1.size (fun b hb hlt => by rcases hat1 with h | h <;> rw [h] <;> simp [Value.ownBlock] <;> omega))
        have hsz1 := hb1.size
        have htl : (d.take lo).length ≤ d.length := by rw [List.length_take]; omega
        clear hown1 hgrow1 hb1 hB1
        go_wp2_with fail
        have HCP := Lib.hid (Copy_any w1.drew _ t (HT.out.below (btrans HB1.out (bdrew (brefl _)))) (bars_few HTO.out.bars))
        have p0 : w1.cell? ⟨w.heap.size, 0, none⟩ = some (.string e.1) := HK1.out.cell 0 rfl
        have p1 : w1.cell? ⟨w.heap.size, 1, none⟩ = some (.string e.2) := HK1.out.cell 1 rfl
        have q0 : w1.cell? ⟨w.heap.size + 1, 0, none⟩ = some (.int .u64 y1) := HK2.out.cell 0 rfl
        have q1 : w1.cell? ⟨w.heap.size + 1, 1, none⟩ = some (.int .u64 y2) := HK2.out.cell 1 rfl
        have q2 : w1.cell? ⟨w.heap.size + 1, 2, none⟩ = some (.int .u64 y3) := HK2.out.cell 2 rfl
        have q3 : w1.cell? ⟨w.heap.size + 1, 3, none⟩ = some (.int .u64 y4) := HK2.out.cell 3 rfl
        have q4 : w1.cell? ⟨w.heap.size + 1, 4, none⟩ = some (.int .u64 y5) := HK2.out.cell 4 rfl
        have q5 : w1.cell? ⟨w.heap.size + 1, 5, none⟩ = some (.int .u64 y6) := HK2.out.cell 5 rfl
        have q6 : w1.cell? ⟨w.heap.size + 1, 6, none⟩ = some (.slice TA Tn Tc) := HK2.out.cell 6 rfl
        have agf : some w.heap.size ≠ v1.ownBlock := by rcases hat1 with h | h <;> rw [h] <;> simp [Value.ownBlock] <;> omega
        have agg : some (w.heap.size + 1) ≠ v1.ownBlock := by rcases hat1 with h | h <;> rw [h] <;> simp [Value.ownBlock] <;> omega
        go_region_held3 (fun w' => w'.cell? ⟨w.heap.size, 0, none⟩ = some (.string e.1) ∧ w'.cell? ⟨w.heap.size, 1, none⟩ = some (.string e.2) ∧ w'.cell? ⟨w.heap.size + 1, 0, none⟩ = some (.int .u64 y1) ∧ w'.cell? ⟨w.heap.size + 1, 1, none⟩ = some (.int .u64 y2) ∧ w'.cell? ⟨w.heap.size + 1, 2, none⟩ = some (.int .u64 y3) ∧ w'.cell? ⟨w.heap.size + 1, 3, none⟩ = some (.int .u64 y4) ∧ w'.cell? ⟨w.heap.size + 1, 4, none⟩ = some (.int .u64 y5) ∧ w'.cell? ⟨w.heap.size + 1, 5, none⟩ = some (.int .u64 y6) ∧ w'.cell? ⟨w.heap.size + 1, 6, none⟩ = some (.slice TA Tn Tc))
          (first
            | go_keep
            | (go_split_ands; refine ⟨?_, ?_, ?_, ?_, ?_, ?_, ?_, ?_, ?_⟩ <;> (first | assumption | (apply bcell1 hcb; assumption) | (rw [hgrow2.cell_far _ (by simp; omega) agf]; assumption) | (rw [hgrow2.cell_far _ (by simp; omega) agg]; assumption))))
          ((first
            | ((refine step_append_lies _ (by rfl) _ _ _ (by rfl) a.heap.size 62 i0 _ 9 104 Try.underlying30 hi0 hz0 hz1 hz2 rfl (by omega) _ _ _ (by rfl) ((own_below HO1.out (btrans (bdrew (brefl _)) hcb)).alloc _) ⟨w2.heap.size, 0, none⟩ 1 1 [.string e.1, .string e.2, .int .u64 (natHi t.raw.calls), .int .u64 (natLo t.raw.calls), .int .u64 (natHi t.raw.errors), .int .u64 (natLo t.raw.errors), .int .u64 (natHi t.raw.took), .int .u64 (natLo t.raw.took), .slice CA Cn Cc] (by rfl) (by rfl) (World.news_of_block (cs := #[.string e.1, .string e.2, .int .u64 (natHi t.raw.calls), .int .u64 (natLo t.raw.calls), .int .u64 (natHi t.raw.errors), .int .u64 (natLo t.raw.errors), .int .u64 (natHi t.raw.took), .int .u64 (natLo t.raw.took), .slice CA Cn Cc]) (t := 62) (fr := (0, 0)) (heap_alloc_new w2 _)) (by simp [Value.oneCell']) (by omega) (by unfold maxLen; omega) (by omega) (by simp; omega) (w2.heap.size + 1) (by simp) ?_); intro gg cap w3 hown3 hgrow2 hat3 hlt3)
            | (go_at_call 34; refine HCP.out.mono ?_; rintro en w2 ⟨cv, rfl, hcv, hcb, hcf⟩; have hw2 : w1.heap.size ≤ w2.heap.size := hcb.size; obtain ⟨CA, Cn, Cc, hcve, hcv1, hcv2, hcv3⟩ := hcv; subst hcve; unfold talVal)))
        obtain ⟨y, hy⟩ : ∃ y : ETV, y = ⟨e, t.raw.calls, t.raw.errors, t.raw.took, CA, Cn, Cc⟩ := ⟨_, rfl⟩
        have hyc : etCells [y] = [.string e.1, .string e.2, .int .u64 (natHi t.raw.calls), .int .u64 (natLo t.raw.calls), .int .u64 (natHi t.raw.errors), .int .u64 (natLo t.raw.errors), .int .u64 (natHi t.raw.took), .int .u64 (natLo t.raw.took), .slice CA Cn Cc] := by rw [hy]; rfl
        have hown1 := own_lt HO1.out
        have hcf' : ∀ q, CA = some q → w1.heap.size ≤ q.block := fun q hq => hcf _ _ _ q Cn Cc (by rw [hq])
        have hB3 : Below a.heap.size a w3 := (bal (btrans (bdrew HBa1.out) hcb) _).grown hgrow2 (bal (btrans (bdrew HBa1.out) hcb) _).size (fun q hq => own_ge HO1.out hq)
        have HB3 := Lib.hid hB3
        have hkeep : ∀ b, some b ≠ v1.ownBlock → b < w2.heap.size → ∀ o v, w2.cell? ⟨b, o, none⟩ = some v → w3.cell? ⟨b, o, none⟩ = some v := fun b hb hlt o v hc => by
          rw [World.cell?_of_block (hgrow2.block b (by simp; omega) hb), World.cell?_of_block (Below.heap_alloc w2 _ b hlt)]
          exact hc
        have hw23 : w2.heap.size ≤ w3.heap.size := by have := hgrow2.size; simp at this; omega
        have hgg : ∀ b, some b ≠ v1.ownBlock → b < w2.heap.size → some b ≠ some gg := fun b hb hlt => by rcases hat3 with h | h <;> simp <;> intro e0 <;> subst e0 <;> first | exact hb h.symm | omega
        have he1 : EtEach w3 (some gg) (d.take lo) (L.take lo) := (HEA1.out.below (btrans (bdrew (brefl _)) hcb)).keep hkeep hw23 hgg
        have hty : TalAt w2 (ETV.val y) t.raw := by rw [hy]; exact ⟨CA, Cn, Cc, rfl, hcv1, hcv2, hcv3⟩
        have hya : ∀ q, y.A = some q → w1.heap.size ≤ q.block := by rw [hy]; exact hcf'
        have hyo : ∀ q, y.A = some q → some q.block ≠ v1.ownBlock := fun q hq e0 => by have h7 := hown1 _ e0.symm; have h8 := hya q hq; omega
        have hey : EtEach w2 v1.ownBlock [y] [(e, t)] := EtEach.one (by rw [hy]) HE.out hty hyo
        have he2 := he1.append (hey.keep hkeep hw23 hgg)
        have HE2 := Lib.hid he2
        have hl2 : (d.take lo ++ [y]).length = lo + 1 := by rw [List.length_append, List.length_take, Nat.min_eq_left hld]; rfl
        have HO3 := Lib.hid (show w3.ownsRow a.heap.size 62 9 (.slice (some ⟨gg, 0, none⟩) (lo + 1) cap) (lo + 1) (etCells (d.take lo ++ [y])) by rw [etCells_append, hyc]; rw [List.length_take, Nat.min_eq_left hld] at hown3; exact hown3)
        have hkp := HBV.out.size
        have hd1 : EtEach V (Value.slice (some ⟨gO, 0, none⟩) d.length c).ownBlock (d.drop lo) (L.drop lo) := (HEACH.out.below HBV.out).drop lo
        have hd2 : EtEach w1 v1.ownBlock (d.drop lo) (L.drop lo) := hd1.keep (fun _ _ _ _ _ hc => bcell1 HBV1.out hc) HBV1.out.size (fun b hb hlt => by rcases hat1 with h | h <;> rw [h] <;> simp [Value.ownBlock] <;> omega)
        have he3 : EtEach w3 (some gg) (d.drop lo) (L.drop lo) := (hd2.below (btrans (bdrew (brefl _)) hcb)).keep hkeep hw23 hgg
        have HE3 := Lib.hid he3
        have hbV3 : Below V.heap.size V w3 := (bal (btrans (bdrew HBV1.out) hcb) _).grown hgrow2 (bal (btrans (bdrew HBV1.out) hcb) _).size (fun q hq => by rcases hat1 with h | h <;> rw [h] at hq <;> cases hq <;> exact Nat.le_refl _)
        have HBV3 := Lib.hid hbV3
        have hsz3 : V.heap.size ≤ w3.heap.size := hbV3.size
        have hggl : gg < w3.heap.size := hlt3
        clear hcv1 hcv2 hcv3 hcf hcb hown3 hgrow2 hat3 hkeep hgg he1 hty hya hyo hey he2 hd1 hd2 he3 hbV3 hB3 p0 p1 q0 q1 q2 q3 q4 q5 q6 hyc hy hcf'
        clear r0 r1 hp2
        have HS3 := Lib.hid (show SrcAt w3 (some ⟨gO, lo * 9, none⟩) (d.length - lo) 9 (etCells (d.drop lo)) by have h9 := (HSRC.out.below (btrans HBV.out HBV3.out)).drop hld rfl; simpa using h9)
        go_wp2_with (at_builtin; refine wpList_app rfl _ _ 30 rfl a.heap.size 62 i0 (.agg #[.string ByteArray.empty, .string ByteArray.empty, .int .u64 0, .int .u64 0, .int .u64 0, .int .u64 0, .int .u64 0, .int .u64 0, .slice none 0 0]) 9 104 Try.underlying30 hi0 hz0 hz1 hz2 rfl (by decide) _ _ _ rfl HO3.out _ _ _ (etCells (d.drop lo)) rfl (by exact HS3.out) (etCells_one _) ?g31 ?g32 ?g33 ?_)
        case g31 => unfold maxLen; omega
        case g32 => omega
        case g33 => omega
        intro v4 w4 hown4 hgrow4 hat4
        have hB4 : Below a.heap.size a w4 := HB3.out.grown hgrow4 HB3.out.size (fun q hq => own_ge HO3.out hq)
        have hk4 : ∀ b, some b ≠ some gg → b < w3.heap.size → ∀ o v, w3.cell? ⟨b, o, none⟩ = some v → w4.cell? ⟨b, o, none⟩ = some v := fun b hb hlt o v hc => by rw [World.cell?_of_block (hgrow4.block b hlt hb)]; exact hc
        have ho4 : ∀ b, some b ≠ some gg → b < w3.heap.size → some b ≠ v4.ownBlock := fun b hb hlt => by rcases hat4 with h | h <;> rw [h] <;> first | exact hb | (simp; omega)
        have hfin : EtOwn a.heap.size w4 v4 (withT L e t) := by
          rw [HMISS.out]
          refine ⟨(d.take lo ++ [y]) ++ d.drop lo, ?_, ?_⟩
          · rw [List.length_append, hl2, List.length_drop, etCells_append]
            exact hown4
          · have := (HE2.out.keep hk4 hgrow4.size ho4).append (HE3.out.keep hk4 hgrow4.size ho4)
            simp only [List.append_assoc, List.singleton_append] at this ⊢
            exact this
        have HFIN := Lib.hid hfin
        have HB4 := Lib.hid hB4
        clear hown4 hgrow4 hat4 hk4 ho4 hfin hB4
        go_wp2
        go_ret
        exact ⟨v4, rfl, HFIN.out, HB4.out⟩
      · have hp2 : (p.1.1.toList == e.1.toList) = false := by rw [beq_eq_false_iff_ne]; exact fun h => hp1 (bytes_ext h)
        have HPE := Lib.hid (And.intro hp1 hpe)
        clear hpe hp1 hp hx hxp hcA hbel habv hlt hend
        go_wp2_with fail
        go_quiet (fail)
        obtain ⟨V, hV⟩ : ∃ V, V = wr.drewN nq := ⟨_, rfl⟩
        rw [← hV]
        have hbV : Below wr.heap.size wr V := by rw [hV]; exact below_drewN (brefl _) _
        have HBV := Lib.hid (btrans hbr hbV)
        have HB0 := Lib.hid (btrans HBR2.out hbV)
        have HSV := Lib.hid ((HSRC.out.below (btrans hbr hbV)).take hld rfl)
        clear hV hbV hbr e0 e1
        have hsz := HB0.out.size
        have hsz2 := HBV.out.size
        have hwW : w.heap.size + 1 < W.heap.size := K2.out.lt
        go_wp2_with (at_builtin; refine wpList_app rfl _ _ 30 rfl a.heap.size 62 i0 (.agg #[.string ByteArray.empty, .string ByteArray.empty, .int .u64 0, .int .u64 0, .int .u64 0, .int .u64 0, .int .u64 0, .int .u64 0, .slice none 0 0]) 9 104 Try.underlying30 hi0 hz0 hz1 hz2 rfl (by decide) _ 0 [] rfl (World.ownsRow_nil _ _ _ _) (some ⟨gO, 0, none⟩) lo c (etCells (d.take lo)) rfl HSV.out (etCells_one _) ?g91 ?g92 ?g93 ?_)
        case g91 => unfold maxLen; omega
        case g92 => omega
        case g93 => omega
        intro v1 w1 hown1 hgrow1 hat1
        have hb1 : Below V.heap.size V w1 := (brefl V).grown hgrow1 (Nat.le_refl _) (fun q hq => by simp [Value.ownBlock] at hq)
        have hB1 : Below W.heap.size W w1 := btrans HBV.out hb1
        have HBV1 := Lib.hid hb1
        have HB1 := Lib.hid hB1
        have HBa1 := Lib.hid (btrans HB0.out hb1)
        have HK1 := Lib.hid (K1.out.below hB1)
        have HK2 := Lib.hid (K2.out.below hB1)
        have HO1 := Lib.hid (show w1.ownsRow a.heap.size 62 9 v1 (d.take lo).length (etCells (d.take lo)) by rw [List.length_take, Nat.min_eq_left hld]; simpa using hown1)
        have HEA1 := Lib.hid (show EtEach w1 v1.ownBlock (d.take lo) (L.take lo) from ((HEACH.out.below HBV.out).take lo).keep (own' := v1.ownBlock) (fun _ _ _ _ _ hc => bcell1 hb1 hc) hb1.size (fun b hb hlt => by rcases hat1 with h | h <;> rw [h] <;> simp [Value.ownBlock] <;> omega))
        have hsz1 := hb1.size
        have htl : (d.take lo).length ≤ d.length := by rw [List.length_take]; omega
        clear hown1 hgrow1 hb1 hB1
        go_wp2_with fail
        have HCP := Lib.hid (Copy_any w1.drew _ t (HT.out.below (btrans HB1.out (bdrew (brefl _)))) (bars_few HTO.out.bars))
        have p0 : w1.cell? ⟨w.heap.size, 0, none⟩ = some (.string e.1) := HK1.out.cell 0 rfl
        have p1 : w1.cell? ⟨w.heap.size, 1, none⟩ = some (.string e.2) := HK1.out.cell 1 rfl
        have q0 : w1.cell? ⟨w.heap.size + 1, 0, none⟩ = some (.int .u64 y1) := HK2.out.cell 0 rfl
        have q1 : w1.cell? ⟨w.heap.size + 1, 1, none⟩ = some (.int .u64 y2) := HK2.out.cell 1 rfl
        have q2 : w1.cell? ⟨w.heap.size + 1, 2, none⟩ = some (.int .u64 y3) := HK2.out.cell 2 rfl
        have q3 : w1.cell? ⟨w.heap.size + 1, 3, none⟩ = some (.int .u64 y4) := HK2.out.cell 3 rfl
        have q4 : w1.cell? ⟨w.heap.size + 1, 4, none⟩ = some (.int .u64 y5) := HK2.out.cell 4 rfl
        have q5 : w1.cell? ⟨w.heap.size + 1, 5, none⟩ = some (.int .u64 y6) := HK2.out.cell 5 rfl
        have q6 : w1.cell? ⟨w.heap.size + 1, 6, none⟩ = some (.slice TA Tn Tc) := HK2.out.cell 6 rfl
        have agf : some w.heap.size ≠ v1.ownBlock := by rcases hat1 with h | h <;> rw [h] <;> simp [Value.ownBlock] <;> omega
        have agg : some (w.heap.size + 1) ≠ v1.ownBlock := by rcases hat1 with h | h <;> rw [h] <;> simp [Value.ownBlock] <;> omega
        go_region_held3 (fun w' => w'.cell? ⟨w.heap.size, 0, none⟩ = some (.string e.1) ∧ w'.cell? ⟨w.heap.size, 1, none⟩ = some (.string e.2) ∧ w'.cell? ⟨w.heap.size + 1, 0, none⟩ = some (.int .u64 y1) ∧ w'.cell? ⟨w.heap.size + 1, 1, none⟩ = some (.int .u64 y2) ∧ w'.cell? ⟨w.heap.size + 1, 2, none⟩ = some (.int .u64 y3) ∧ w'.cell? ⟨w.heap.size + 1, 3, none⟩ = some (.int .u64 y4) ∧ w'.cell? ⟨w.heap.size + 1, 4, none⟩ = some (.int .u64 y5) ∧ w'.cell? ⟨w.heap.size + 1, 5, none⟩ = some (.int .u64 y6) ∧ w'.cell? ⟨w.heap.size + 1, 6, none⟩ = some (.slice TA Tn Tc))
          (first
            | go_keep
            | (go_split_ands; refine ⟨?_, ?_, ?_, ?_, ?_, ?_, ?_, ?_, ?_⟩ <;> (first | assumption | (apply bcell1 hcb; assumption) | (rw [hgrow2.cell_far _ (by simp; omega) agf]; assumption) | (rw [hgrow2.cell_far _ (by simp; omega) agg]; assumption))))
          ((first
            | ((refine step_append_lies _ (by rfl) _ _ _ (by rfl) a.heap.size 62 i0 _ 9 104 Try.underlying30 hi0 hz0 hz1 hz2 rfl (by omega) _ _ _ (by rfl) ((own_below HO1.out (btrans (bdrew (brefl _)) hcb)).alloc _) ⟨w2.heap.size, 0, none⟩ 1 1 [.string e.1, .string e.2, .int .u64 (natHi t.raw.calls), .int .u64 (natLo t.raw.calls), .int .u64 (natHi t.raw.errors), .int .u64 (natLo t.raw.errors), .int .u64 (natHi t.raw.took), .int .u64 (natLo t.raw.took), .slice CA Cn Cc] (by rfl) (by rfl) (World.news_of_block (cs := #[.string e.1, .string e.2, .int .u64 (natHi t.raw.calls), .int .u64 (natLo t.raw.calls), .int .u64 (natHi t.raw.errors), .int .u64 (natLo t.raw.errors), .int .u64 (natHi t.raw.took), .int .u64 (natLo t.raw.took), .slice CA Cn Cc]) (t := 62) (fr := (0, 0)) (heap_alloc_new w2 _)) (by simp [Value.oneCell']) (by omega) (by unfold maxLen; omega) (by omega) (by simp; omega) (w2.heap.size + 1) (by simp) ?_); intro gg cap w3 hown3 hgrow2 hat3 hlt3)
            | (go_at_call 34; refine HCP.out.mono ?_; rintro en w2 ⟨cv, rfl, hcv, hcb, hcf⟩; have hw2 : w1.heap.size ≤ w2.heap.size := hcb.size; obtain ⟨CA, Cn, Cc, hcve, hcv1, hcv2, hcv3⟩ := hcv; subst hcve; unfold talVal)))
        obtain ⟨y, hy⟩ : ∃ y : ETV, y = ⟨e, t.raw.calls, t.raw.errors, t.raw.took, CA, Cn, Cc⟩ := ⟨_, rfl⟩
        have hyc : etCells [y] = [.string e.1, .string e.2, .int .u64 (natHi t.raw.calls), .int .u64 (natLo t.raw.calls), .int .u64 (natHi t.raw.errors), .int .u64 (natLo t.raw.errors), .int .u64 (natHi t.raw.took), .int .u64 (natLo t.raw.took), .slice CA Cn Cc] := by rw [hy]; rfl
        have hown1 := own_lt HO1.out
        have hcf' : ∀ q, CA = some q → w1.heap.size ≤ q.block := fun q hq => hcf _ _ _ q Cn Cc (by rw [hq])
        have hB3 : Below a.heap.size a w3 := (bal (btrans (bdrew HBa1.out) hcb) _).grown hgrow2 (bal (btrans (bdrew HBa1.out) hcb) _).size (fun q hq => own_ge HO1.out hq)
        have HB3 := Lib.hid hB3
        have hkeep : ∀ b, some b ≠ v1.ownBlock → b < w2.heap.size → ∀ o v, w2.cell? ⟨b, o, none⟩ = some v → w3.cell? ⟨b, o, none⟩ = some v := fun b hb hlt o v hc => by
          rw [World.cell?_of_block (hgrow2.block b (by simp; omega) hb), World.cell?_of_block (Below.heap_alloc w2 _ b hlt)]
          exact hc
        have hw23 : w2.heap.size ≤ w3.heap.size := by have := hgrow2.size; simp at this; omega
        have hgg : ∀ b, some b ≠ v1.ownBlock → b < w2.heap.size → some b ≠ some gg := fun b hb hlt => by rcases hat3 with h | h <;> simp <;> intro e0 <;> subst e0 <;> first | exact hb h.symm | omega
        have he1 : EtEach w3 (some gg) (d.take lo) (L.take lo) := (HEA1.out.below (btrans (bdrew (brefl _)) hcb)).keep hkeep hw23 hgg
        have hty : TalAt w2 (ETV.val y) t.raw := by rw [hy]; exact ⟨CA, Cn, Cc, rfl, hcv1, hcv2, hcv3⟩
        have hya : ∀ q, y.A = some q → w1.heap.size ≤ q.block := by rw [hy]; exact hcf'
        have hyo : ∀ q, y.A = some q → some q.block ≠ v1.ownBlock := fun q hq e0 => by have h7 := hown1 _ e0.symm; have h8 := hya q hq; omega
        have hey : EtEach w2 v1.ownBlock [y] [(e, t)] := EtEach.one (by rw [hy]) HE.out hty hyo
        have he2 := he1.append (hey.keep hkeep hw23 hgg)
        have HE2 := Lib.hid he2
        have hl2 : (d.take lo ++ [y]).length = lo + 1 := by rw [List.length_append, List.length_take, Nat.min_eq_left hld]; rfl
        have HO3 := Lib.hid (show w3.ownsRow a.heap.size 62 9 (.slice (some ⟨gg, 0, none⟩) (lo + 1) cap) (lo + 1) (etCells (d.take lo ++ [y])) by rw [etCells_append, hyc]; rw [List.length_take, Nat.min_eq_left hld] at hown3; exact hown3)
        have hkp := HBV.out.size
        have hd1 : EtEach V (Value.slice (some ⟨gO, 0, none⟩) d.length c).ownBlock (d.drop lo) (L.drop lo) := (HEACH.out.below HBV.out).drop lo
        have hd2 : EtEach w1 v1.ownBlock (d.drop lo) (L.drop lo) := hd1.keep (fun _ _ _ _ _ hc => bcell1 HBV1.out hc) HBV1.out.size (fun b hb hlt => by rcases hat1 with h | h <;> rw [h] <;> simp [Value.ownBlock] <;> omega)
        have he3 : EtEach w3 (some gg) (d.drop lo) (L.drop lo) := (hd2.below (btrans (bdrew (brefl _)) hcb)).keep hkeep hw23 hgg
        have HE3 := Lib.hid he3
        have hbV3 : Below V.heap.size V w3 := (bal (btrans (bdrew HBV1.out) hcb) _).grown hgrow2 (bal (btrans (bdrew HBV1.out) hcb) _).size (fun q hq => by rcases hat1 with h | h <;> rw [h] at hq <;> cases hq <;> exact Nat.le_refl _)
        have HBV3 := Lib.hid hbV3
        have hsz3 : V.heap.size ≤ w3.heap.size := hbV3.size
        have hggl : gg < w3.heap.size := hlt3
        clear hcv1 hcv2 hcv3 hcf hcb hown3 hgrow2 hat3 hkeep hgg he1 hty hya hyo hey he2 hd1 hd2 he3 hbV3 hB3 p0 p1 q0 q1 q2 q3 q4 q5 q6 hyc hy hcf'
        clear r0 r1 hp2
        have HS3 := Lib.hid (show SrcAt w3 (some ⟨gO, lo * 9, none⟩) (d.length - lo) 9 (etCells (d.drop lo)) by have h9 := (HSRC.out.below (btrans HBV.out HBV3.out)).drop hld rfl; simpa using h9)
        go_wp2_with (at_builtin; refine wpList_app rfl _ _ 30 rfl a.heap.size 62 i0 (.agg #[.string ByteArray.empty, .string ByteArray.empty, .int .u64 0, .int .u64 0, .int .u64 0, .int .u64 0, .int .u64 0, .int .u64 0, .slice none 0 0]) 9 104 Try.underlying30 hi0 hz0 hz1 hz2 rfl (by decide) _ _ _ rfl HO3.out _ _ _ (etCells (d.drop lo)) rfl (by exact HS3.out) (etCells_one _) ?g41 ?g42 ?g43 ?_)
        case g41 => unfold maxLen; omega
        case g42 => omega
        case g43 => omega
        intro v4 w4 hown4 hgrow4 hat4
        have hB4 : Below a.heap.size a w4 := HB3.out.grown hgrow4 HB3.out.size (fun q hq => own_ge HO3.out hq)
        have hk4 : ∀ b, some b ≠ some gg → b < w3.heap.size → ∀ o v, w3.cell? ⟨b, o, none⟩ = some v → w4.cell? ⟨b, o, none⟩ = some v := fun b hb hlt o v hc => by rw [World.cell?_of_block (hgrow4.block b hlt hb)]; exact hc
        have ho4 : ∀ b, some b ≠ some gg → b < w3.heap.size → some b ≠ v4.ownBlock := fun b hb hlt => by rcases hat4 with h | h <;> rw [h] <;> first | exact hb | (simp; omega)
        have hfin : EtOwn a.heap.size w4 v4 (withT L e t) := by
          rw [HMISS.out]
          refine ⟨(d.take lo ++ [y]) ++ d.drop lo, ?_, ?_⟩
          · rw [List.length_append, hl2, List.length_drop, etCells_append]
            exact hown4
          · have := (HE2.out.keep hk4 hgrow4.size ho4).append (HE3.out.keep hk4 hgrow4.size ho4)
            simp only [List.append_assoc, List.singleton_append] at this ⊢
            exact this
        have HFIN := Lib.hid hfin
        have HB4 := Lib.hid hB4
        clear hown4 hgrow4 hat4 hk4 ho4 hfin hB4
        go_wp2
        go_ret
        exact ⟨v4, rfl, HFIN.out, HB4.out⟩
end Go.Proofs.Ytjfeeampcgmngaa
