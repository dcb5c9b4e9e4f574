/- The document's 'with' onto no list. -/
import Derived.Test.YtjfeeampcgmngaaWith
namespace Go.Proofs.Ytjfeeampcgmngaa
open Go.RowKit Go.Shelf Go.Maps

set_option maxRecDepth 100000 in
set_option maxHeartbeats 4000000 in
theorem with_nil (a w : World) (e : Edge) (tv : Value) (t : Tal) (hb : Below a.heap.size a w) (he : EdgeOk e) (ht : TalAt w tv t.raw) (hto : t.Ok) :
    Calls Try.prog 25 #[.slice none 0 0, edgeVal e, tv] w (WithPost a [] e t) := by
  obtain ⟨i0, hi0, hz0, hz1, hz2⟩ := info_parts etInfo
  obtain ⟨TA, Tn, Tc, rfl, ht1, ht2, ht3⟩ := ht
  have ht0 : TalAt w (talVal t.calls t.errors t.took (.slice TA Tn Tc)) t.raw := ⟨TA, Tn, Tc, rfl, ht1, ht2, ht3⟩
  have HT0 := Lib.hid ht0
  clear ht1 ht2 ht3 ht0
  have eT : talVal t.raw.calls t.raw.errors t.raw.took (.slice TA Tn Tc) = talVal t.calls t.errors t.took (.slice TA Tn Tc) := rfl
  rw [eT]
  clear eT
  unfold talVal at *
  generalize natHi t.calls = y1 at *
  generalize natLo t.calls = y2 at *
  generalize natHi t.errors = y3 at *
  generalize natLo t.errors = y4 at *
  generalize natHi t.took = y5 at *
  generalize natLo t.took = y6 at *
  obtain ⟨W, hW⟩ : ∃ W, W = (w.alloc (Obj.cells #[.string e.1, .string e.2] 40)).alloc (Obj.cells #[.int .u64 y1, .int .u64 y2, .int .u64 y3, .int .u64 y4, .int .u64 y5, .int .u64 y6, .slice TA Tn Tc] 46) := ⟨_, rfl⟩
  have hbW : Below w.heap.size w W := by rw [hW]; exact bal (bal (brefl w) _) _
  have k1 : Blk W w.heap.size 40 [.string e.1, .string e.2] := by rw [hW]; exact (Blk.new _ _ _).alloc _
  have k2 : Blk W (w.heap.size + 1) 46 [.int .u64 y1, .int .u64 y2, .int .u64 y3, .int .u64 y4, .int .u64 y5, .int .u64 y6, .slice TA Tn Tc] := by rw [hW]; exact Blk.new_ _ _ _ (by simp)
  have HW := Lib.hid hW
  have HT := Lib.hid (HT0.out.below hbW)
  have HBW := Lib.hid (btrans hb hbW)
  have HBL := Lib.hid hbW
  have K1 := Lib.hid k1
  have K2 := Lib.hid k2
  obtain ⟨d, hd⟩ : ∃ d : List ETV, d = [] := ⟨_, rfl⟩
  have HEACH := Lib.hid (show EtEach W none ([] : List ETV) ([] : List ET) from ⟨rfl, fun i x p h => by simp at h⟩)
  have HTO := Lib.hid hto
  have HE := Lib.hid he
  have hld : 0 ≤ 0 := Nat.le_refl _
  clear hW hbW hto he HT0 hb k1 k2 hd
  unfold edgeVal
  go_enter Try.func25, Try.ntmps25
  go_wp2_with fail
  rw [← HW.out]
  go_loopw [7, 8] (fun lo hi wr => lo = .int .i64 0 ∧ hi = .int .i64 0 ∧ W = wr) (fun _ _ _ => 0)
  case atStart => exact ⟨rfl, rfl, rfl⟩
  case round =>
    obtain ⟨rfl, rfl, hwr⟩ := hrel
    subst hwr
    have hbr := brefl W
    have hbr9 := hbr
    have HBR2 := HBW
    have d1 : decide ((0 : Nat) < 0) = false := by simp
    have HMISS := Lib.hid (show withT [] e t = ([] : List ET).take 0 ++ (e, t) :: ([] : List ET).drop 0 from rfl)
    clear hbr9
    go_wp2_with fail
    go_quiet (fail)
    obtain ⟨V, hV⟩ : ∃ V, V = W.drewN nq := ⟨_, rfl⟩
    rw [← hV]
    have hbV : Below W.heap.size W V := by rw [hV]; exact below_drewN (brefl _) _
    have HBV := Lib.hid (btrans hbr hbV)
    have HB0 := Lib.hid (btrans HBR2.out hbV)
    have HSV := Lib.hid (show SrcAt V none 0 9 (etCells ([] : List ETV)) from ⟨rfl, fun h => absurd h (by omega)⟩)
    clear hV hbV hbr
    have hsz := HB0.out.size
    have hsz2 := HBV.out.size
    have hwW : w.heap.size + 1 < W.heap.size := K2.out.lt
    go_wp2_with (at_builtin; refine wpList_app rfl _ _ 30 rfl a.heap.size 62 i0 (.agg #[.string ByteArray.empty, .string ByteArray.empty, .int .u64 0, .int .u64 0, .int .u64 0, .int .u64 0, .int .u64 0, .int .u64 0, .slice none 0 0]) 9 104 Try.underlying30 hi0 hz0 hz1 hz2 rfl (by decide) _ 0 [] rfl (World.ownsRow_nil _ _ _ _) none 0 0 (etCells ([] : List ETV)) rfl HSV.out (etCells_one _) ?g61 ?g62 ?g63 ?_)
    case g61 => unfold maxLen; omega
    case g62 => omega
    case g63 => omega
    intro v1 w1 hown1 hgrow1 hat1
    have hb1 : Below V.heap.size V w1 := (brefl V).grown hgrow1 (Nat.le_refl _) (fun q hq => by simp [Value.ownBlock] at hq)
    have hB1 : Below W.heap.size W w1 := btrans HBV.out hb1
    have HBV1 := Lib.hid hb1
    have HB1 := Lib.hid hB1
    have HBa1 := Lib.hid (btrans HB0.out hb1)
    have HK1 := Lib.hid (K1.out.below hB1)
    have HK2 := Lib.hid (K2.out.below hB1)
    have HO1 := Lib.hid (show w1.ownsRow a.heap.size 62 9 v1 0 (etCells ([] : List ETV)) from hown1)
    have HEA1 := Lib.hid (show EtEach w1 v1.ownBlock ([] : List ETV) ([] : List ET) from ⟨rfl, fun i x p h => by simp at h⟩)
    have hsz1 := hb1.size
    have htl : 0 ≤ 0 := Nat.le_refl _
    clear hown1 hgrow1 hb1 hB1
    go_wp2_with fail
    have HCP := Lib.hid (Copy_any w1.drew _ t (HT.out.below (btrans HB1.out (bdrew (brefl _)))) (bars_few HTO.out.bars))
    have p0 : w1.cell? ⟨w.heap.size, 0, none⟩ = some (.string e.1) := HK1.out.cell 0 rfl
    have p1 : w1.cell? ⟨w.heap.size, 1, none⟩ = some (.string e.2) := HK1.out.cell 1 rfl
    have q0 : w1.cell? ⟨w.heap.size + 1, 0, none⟩ = some (.int .u64 y1) := HK2.out.cell 0 rfl
    have q1 : w1.cell? ⟨w.heap.size + 1, 1, none⟩ = some (.int .u64 y2) := HK2.out.cell 1 rfl
    have q2 : w1.cell? ⟨w.heap.size + 1, 2, none⟩ = some (.int .u64 y3) := HK2.out.cell 2 rfl
    have q3 : w1.cell? ⟨w.heap.size + 1, 3, none⟩ = some (.int .u64 y4) := HK2.out.cell 3 rfl
    have q4 : w1.cell? ⟨w.heap.size + 1, 4, none⟩ = some (.int .u64 y5) := HK2.out.cell 4 rfl
    have q5 : w1.cell? ⟨w.heap.size + 1, 5, none⟩ = some (.int .u64 y6) := HK2.out.cell 5 rfl
    have q6 : w1.cell? ⟨w.heap.size + 1, 6, none⟩ = some (.slice TA Tn Tc) := HK2.out.cell 6 rfl
    have agf : some w.heap.size ≠ v1.ownBlock := by rcases hat1 with h | h <;> rw [h] <;> simp [Value.ownBlock] <;> omega
    have agg : some (w.heap.size + 1) ≠ v1.ownBlock := by rcases hat1 with h | h <;> rw [h] <;> simp [Value.ownBlock] <;> omega
    go_region_held3 (fun w' => w'.cell? ⟨w.heap.size, 0, none⟩ = some (.string e.1) ∧ w'.cell? ⟨w.heap.size, 1, none⟩ = some (.string e.2) ∧ w'.cell? ⟨w.heap.size + 1, 0, none⟩ = some (.int .u64 y1) ∧ w'.cell? ⟨w.heap.size + 1, 1, none⟩ = some (.int .u64 y2) ∧ w'.cell? ⟨w.heap.size + 1, 2, none⟩ = some (.int .u64 y3) ∧ w'.cell? ⟨w.heap.size + 1, 3, none⟩ = some (.int .u64 y4) ∧ w'.cell? ⟨w.heap.size + 1, 4, none⟩ = some (.int .u64 y5) ∧ w'.cell? ⟨w.heap.size + 1, 5, none⟩ = some (.int .u64 y6) ∧ w'.cell? ⟨w.heap.size + 1, 6, none⟩ = some (.slice TA Tn Tc))
      (first
        | go_keep
        | (go_split_ands; refine ⟨?_, ?_, ?_, ?_, ?_, ?_, ?_, ?_, ?_⟩ <;> (first | assumption | (apply bcell1 hcb; assumption) | (rw [hgrow2.cell_far _ (by simp; omega) agf]; assumption) | (rw [hgrow2.cell_far _ (by simp; omega) agg]; assumption))))
      ((first
        | ((refine step_append_lies _ (by rfl) _ _ _ (by rfl) a.heap.size 62 i0 _ 9 104 Try.underlying30 hi0 hz0 hz1 hz2 rfl (by omega) _ _ _ (by rfl) ((own_below HO1.out (btrans (bdrew (brefl _)) hcb)).alloc _) ⟨w2.heap.size, 0, none⟩ 1 1 [.string e.1, .string e.2, .int .u64 (natHi t.raw.calls), .int .u64 (natLo t.raw.calls), .int .u64 (natHi t.raw.errors), .int .u64 (natLo t.raw.errors), .int .u64 (natHi t.raw.took), .int .u64 (natLo t.raw.took), .slice CA Cn Cc] (by rfl) (by rfl) (World.news_of_block (cs := #[.string e.1, .string e.2, .int .u64 (natHi t.raw.calls), .int .u64 (natLo t.raw.calls), .int .u64 (natHi t.raw.errors), .int .u64 (natLo t.raw.errors), .int .u64 (natHi t.raw.took), .int .u64 (natLo t.raw.took), .slice CA Cn Cc]) (t := 62) (fr := (0, 0)) (heap_alloc_new w2 _)) (by simp [Value.oneCell']) (by omega) (by unfold maxLen; omega) (by omega) (by simp; omega) (w2.heap.size + 1) (by simp) ?_); intro gg cap w3 hown3 hgrow2 hat3 hlt3)
        | (go_at_call 34; refine HCP.out.mono ?_; rintro en w2 ⟨cv, rfl, hcv, hcb, hcf⟩; have hw2 : w1.heap.size ≤ w2.heap.size := hcb.size; obtain ⟨CA, Cn, Cc, hcve, hcv1, hcv2, hcv3⟩ := hcv; subst hcve; unfold talVal)))
    obtain ⟨y, hy⟩ : ∃ y : ETV, y = ⟨e, t.raw.calls, t.raw.errors, t.raw.took, CA, Cn, Cc⟩ := ⟨_, rfl⟩
    have hyc : etCells [y] = [.string e.1, .string e.2, .int .u64 (natHi t.raw.calls), .int .u64 (natLo t.raw.calls), .int .u64 (natHi t.raw.errors), .int .u64 (natLo t.raw.errors), .int .u64 (natHi t.raw.took), .int .u64 (natLo t.raw.took), .slice CA Cn Cc] := by rw [hy]; rfl
    have hown1 := own_lt HO1.out
    have hcf' : ∀ q, CA = some q → w1.heap.size ≤ q.block := fun q hq => hcf _ _ _ q Cn Cc (by rw [hq])
    have hB3 : Below a.heap.size a w3 := (bal (btrans (bdrew HBa1.out) hcb) _).grown hgrow2 (bal (btrans (bdrew HBa1.out) hcb) _).size (fun q hq => own_ge HO1.out hq)
    have HB3 := Lib.hid hB3
    have hkeep : ∀ b, some b ≠ v1.ownBlock → b < w2.heap.size → ∀ o v, w2.cell? ⟨b, o, none⟩ = some v → w3.cell? ⟨b, o, none⟩ = some v := fun b hb hlt o v hc => by
      rw [World.cell?_of_block (hgrow2.block b (by simp; omega) hb), World.cell?_of_block (Below.heap_alloc w2 _ b hlt)]
      exact hc
    have hw23 : w2.heap.size ≤ w3.heap.size := by have := hgrow2.size; simp at this; omega
    have hgg : ∀ b, some b ≠ v1.ownBlock → b < w2.heap.size → some b ≠ some gg := fun b hb hlt => by rcases hat3 with h | h <;> simp <;> intro e0 <;> subst e0 <;> first | exact hb h.symm | omega
    have he1 : EtEach w3 (some gg) ([] : List ETV) ([] : List ET) := (HEA1.out.below (btrans (bdrew (brefl _)) hcb)).keep hkeep hw23 hgg
    have hty : TalAt w2 (ETV.val y) t.raw := by rw [hy]; exact ⟨CA, Cn, Cc, rfl, hcv1, hcv2, hcv3⟩
    have hya : ∀ q, y.A = some q → w1.heap.size ≤ q.block := by rw [hy]; exact hcf'
    have hyo : ∀ q, y.A = some q → some q.block ≠ v1.ownBlock := fun q hq e0 => by have h7 := hown1 _ e0.symm; have h8 := hya q hq; omega
    have hey : EtEach w2 v1.ownBlock [y] [(e, t)] := EtEach.one (by rw [hy]) HE.out hty hyo
    have he2 := he1.append (hey.keep hkeep hw23 hgg)
    have HE2 := Lib.hid he2
    have hl2 : (([] : List ETV) ++ [y]).length = 0 + 1 := rfl
    have HO3 := Lib.hid (show w3.ownsRow a.heap.size 62 9 (.slice (some ⟨gg, 0, none⟩) (0 + 1) cap) (0 + 1) (etCells (([] : List ETV) ++ [y])) by rw [etCells_append, hyc]; exact hown3)
    have hkp := HBV.out.size
    have hd1 : True := trivial
    have hd2 : True := trivial
    have he3 : EtEach w3 (some gg) ([] : List ETV) ([] : List ET) := ⟨rfl, fun i x p h => by simp at h⟩
    have HE3 := Lib.hid he3
    have hbV3 : Below V.heap.size V w3 := (bal (btrans (bdrew HBV1.out) hcb) _).grown hgrow2 (bal (btrans (bdrew HBV1.out) hcb) _).size (fun q hq => by rcases hat1 with h | h <;> rw [h] at hq <;> cases hq <;> exact Nat.le_refl _)
    have HBV3 := Lib.hid hbV3
    have hsz3 : V.heap.size ≤ w3.heap.size := hbV3.size
    have hggl : gg < w3.heap.size := hlt3
    clear hcv1 hcv2 hcv3 hcf hcb hown3 hgrow2 hat3 hkeep hgg he1 hty hya hyo hey he2 hd1 hd2 he3 hbV3 hB3 p0 p1 q0 q1 q2 q3 q4 q5 q6 hyc hy hcf'
    go_wp2_with (at_builtin; refine wpList_app rfl _ _ 30 rfl a.heap.size 62 i0 (.agg #[.string ByteArray.empty, .string ByteArray.empty, .int .u64 0, .int .u64 0, .int .u64 0, .int .u64 0, .int .u64 0, .int .u64 0, .slice none 0 0]) 9 104 Try.underlying30 hi0 hz0 hz1 hz2 rfl (by decide) _ _ _ rfl HO3.out _ _ _ (etCells ([] : List ETV)) rfl (by exact ⟨rfl, fun h => absurd h (by omega)⟩) (etCells_one _) ?g51 ?g52 ?g53 ?_)
    case g51 => unfold maxLen; omega
    case g52 => omega
    case g53 => omega
    intro v4 w4 hown4 hgrow4 hat4
    have hB4 : Below a.heap.size a w4 := HB3.out.grown hgrow4 HB3.out.size (fun q hq => own_ge HO3.out hq)
    have hk4 : ∀ b, some b ≠ some gg → b < w3.heap.size → ∀ o v, w3.cell? ⟨b, o, none⟩ = some v → w4.cell? ⟨b, o, none⟩ = some v := fun b hb hlt o v hc => by rw [World.cell?_of_block (hgrow4.block b hlt hb)]; exact hc
    have ho4 : ∀ b, some b ≠ some gg → b < w3.heap.size → some b ≠ v4.ownBlock := fun b hb hlt => by rcases hat4 with h | h <;> rw [h] <;> first | exact hb | (simp; omega)
    have hfin : EtOwn a.heap.size w4 v4 (withT [] e t) := by
      rw [HMISS.out]
      refine ⟨(([] : List ETV) ++ [y]) ++ ([] : List ETV), ?_, ?_⟩
      · rw [List.length_append, etCells_append]
        exact hown4
      · have := (HE2.out.keep hk4 hgrow4.size ho4).append (HE3.out.keep hk4 hgrow4.size ho4)
        simp only [List.append_assoc, List.singleton_append] at this ⊢
        exact this
    have HFIN := Lib.hid hfin
    have HB4 := Lib.hid hB4
    clear hown4 hgrow4 hat4 hk4 ho4 hfin hB4
    go_wp2
    go_ret
    exact ⟨v4, rfl, HFIN.out, HB4.out⟩
end Go.Proofs.Ytjfeeampcgmngaa
