/- The document's bars: plus, Check. -/
import Derived.Test.YtjfeeampcgmngaaCopy
namespace Go.Proofs.Ytjfeeampcgmngaa
open Go.RowKit Go.Shelf Go.Maps

set_option maxRecDepth 100000 in
theorem rplus_any (w : World) (a b : Nat) (ha : a < M64) (hb : b < M64) :
    Calls Try.prog 71 #[.int .u64 a, .int .u64 b] w fun e w' => e = .returned (.int .u64 (satAdd M64 a b : Nat)) ∧ w' = w := by
  unfold M64 at ha hb
  have hs : IntKind.u64.wrap (18446744073709551615 - (b : Int)) = 18446744073709551615 - (b : Int) := IntWalk.u64_in _ (by omega)
  by_cases h : a + b < 18446744073709551616
  · have e : ((satAdd M64 a b : Nat) : Int) = (a : Int) + (b : Int) := by unfold satAdd M64; omega
    have hs2 : IntKind.u64.wrap ((a : Int) + (b : Int)) = (a : Int) + (b : Int) := IntWalk.u64_in _ (by omega)
    have hg : ¬ (18446744073709551615 - (b : Int) < (a : Int)) := by omega
    rw [e]
    have HS2 := Lib.hid hs2
    have HS := Lib.hid hs
    clear e h hs hs2
    go_enter Try.func71, Try.ntmps71
    go_wp2_with fail
    go_ret
    exact ⟨rfl, rfl⟩
  · have e : ((satAdd M64 a b : Nat) : Int) = 18446744073709551615 := by unfold satAdd M64; omega
    have hg : 18446744073709551615 - (b : Int) < (a : Int) := by omega
    rw [e]
    have HS := Lib.hid hs
    clear e h hs
    go_enter Try.func71, Try.ntmps71
    go_wp2_with fail
    go_ret
    exact ⟨rfl, rfl⟩

def RChk (l : List RBar) (b : Bool) (W : World) (i : Value) (wr : World) : Prop :=
  ∃ (pre rest : List RBar) (x : Int), l = pre ++ rest ∧ i = .int .i64 (pre.length : Nat) ∧ rvalid x rest = b ∧ -1 ≤ x ∧ (pre = [] → x = -1) ∧ (∀ p ∈ pre.getLast?, p.1 = x) ∧ Below W.heap.size W wr

set_option maxRecDepth 100000 in
set_option maxHeartbeats 4000000 in
theorem rcheck_any (w : World) (A : Option Addr) (n c : Nat) (l : List RBar) (b : Bool) (hn : n ≤ 140737488351232) (hl : BarsAt w A n l) (hv : rvalid (-1) l = b) :
    Calls Try.prog 70 #[.slice A n c] w fun e w' => e = .returned (.int .i64 (if b then 0 else 131)) ∧ Below w.heap.size w w' := by
  have HLN := Lib.hid hl.1
  have HL := Lib.hid hl
  clear hl
  go_enter Try.func70, Try.ntmps70
  go_wp2_with fail
  go_loopw [3] (fun i wr => RChk l b w i wr) (fun i _ => n - (intOf i).toNat)
  case atStart => exact ⟨[], l, -1, rfl, rfl, hv, by omega, fun _ => rfl, (by intro p hp; cases hp), brefl _⟩
  case round =>
    obtain ⟨pre, rest, x, hl0, rfl, hvr, hx0, hx1, hx2, hb⟩ := hrel
    have HB := Lib.hid hb
    match rest, hl0, hvr with
    | [], hl0, hvr =>
      have hk : ¬ (pre.length < n) := by rw [HLN.out, hl0]; simp
      have hbt : b = true := by rw [← hvr]; rfl
      subst hbt
      clear hl0 hvr hx1 hx2 hb hv
      go_wp2_with fail
      go_ret
      exact ⟨rfl, HB.out⟩
    | (j, cc) :: rest', hl0, hvr =>
      have hk : pre.length < n := by rw [HLN.out, hl0]; simp
      obtain ⟨g, off, rfl, hc⟩ := HL.out.2 (by omega)
      have hget : l[pre.length]? = some (j, cc) := by rw [hl0]; simp
      obtain ⟨h1, h2⟩ := hc _ _ _ hget
      have h1' := bcell1 hb h1
      have h2' := bcell1 hb h2
      have HL0 := Lib.hid hl0
      have HVR := Lib.hid hvr
      have HX2 := Lib.hid hx2
      have HX1 := Lib.hid hx1
      rcases pre.eq_nil_or_concat with hnil | ⟨pre0, q, hcat⟩
      · -- the first one
        subst hnil
        have hxe := hx1 rfl
        subst hxe
        have k1 : wr.cell? ⟨g, off, none⟩ = some (.int .i64 j) := by simpa using h1'
        have k2 : wr.cell? ⟨g, off + 1, none⟩ = some (.int .u64 cc) := by simpa using h2'
        have hk0 : 0 < n := hk
        simp only [List.length_nil]
        clear hl0 hvr hx1 hx2 hb hv hc hget h1 h2 h1' h2' hk
        have hb0 : True := trivial
        by_cases c1 : j < 0
        · have d1 : decide (j < 0) = true := by simpa using c1
          have hbf : b = false := by rw [← HVR.out]; unfold rvalid; simp; omega
          subst hbf
          clear hb0 HVR
          go_wp2_with fail
          go_quiet (fail)
          go_wp2_with fail
          go_ret
          exact ⟨rfl, below_drewN HB.out _⟩
        have d1 : decide (j < 0) = false := by simpa using c1
        by_cases c2 : 1920 ≤ j
        · have d2 : decide (1920 ≤ j) = true := by simpa using c2
          have hbf : b = false := by rw [← HVR.out]; unfold rvalid; simp; omega
          subst hbf
          clear hb0 HVR
          go_wp2_with fail
          go_quiet (fail)
          go_wp2_with fail
          go_ret
          exact ⟨rfl, below_drewN HB.out _⟩
        have d2 : decide (1920 ≤ j) = false := by simp; omega
        by_cases c3 : cc = 0
        · subst c3
          have hbf : b = false := by rw [← HVR.out]; unfold rvalid; simp
          subst hbf
          clear hb0 HVR
          go_wp2_with fail
          go_quiet (fail)
          go_wp2_with fail
          go_ret
          exact ⟨rfl, below_drewN HB.out _⟩
        have d3 : (cc == 0) = false := beq_eq_false_iff_ne.2 c3
        have e1 : decide (-1 < j) = true := decide_eq_true (by omega)
        have e2 : decide (j < 1920) = true := decide_eq_true (by omega)
        have h9 := HVR.out
        unfold rvalid at h9
        rw [e1, e2, d3] at h9
        have hnext := Lib.hid (show rvalid j rest' = b from h9)
        have HJ := Lib.hid (show -1 ≤ j by omega)
        clear e1 e2 h9
        clear c1 c2 c3 hb0
        go_wp2_with fail
        go_quiet (fail)
        go_wp2_with fail
        go_roundw
        case rel => exact ⟨[(j, cc)], rest', j, by rw [HL0.out]; rfl, rfl, hnext.out, HJ.out, (by intro h; simp at h), (by intro p hp; simp at hp; rw [← hp]), below_drewN HB.out _⟩
        case measure => simp [intOf]; omega
      · -- behind another one
        have hqx : q.1 = x := hx2 q (by rw [hcat]; simp)
        have hget2 : l[pre0.length]? = some (x, q.2) := by rw [hl0, hcat, ← hqx]; simp
        obtain ⟨h3, h4⟩ := hc _ _ _ hget2
        have h3' := bcell1 hb h3
        have hpl : pre.length = pre0.length + 1 := by rw [hcat]; simp
        have HPL := Lib.hid hpl
        generalize hK : pre.length = K at *
        subst hpl
        have HK := Lib.hid hK
        clear hK hl0 hvr hx1 hx2 hb hv hc hget hget2 h1 h2 h3 h4 hqx hcat
        have hb0 : True := trivial
        by_cases c1 : j < 0
        · have d1 : decide (j < 0) = true := by simpa using c1
          have hbf : b = false := by rw [← HVR.out]; unfold rvalid; simp; omega
          subst hbf
          clear hb0 HVR
          go_wp2_with fail
          go_quiet (fail)
          go_wp2_with fail
          go_ret
          exact ⟨rfl, below_drewN HB.out _⟩
        have d1 : decide (j < 0) = false := by simpa using c1
        by_cases c2 : 1920 ≤ j
        · have d2 : decide (1920 ≤ j) = true := by simpa using c2
          have hbf : b = false := by rw [← HVR.out]; unfold rvalid; simp; omega
          subst hbf
          clear hb0 HVR
          go_wp2_with fail
          go_quiet (fail)
          go_wp2_with fail
          go_ret
          exact ⟨rfl, below_drewN HB.out _⟩
        have d2 : decide (1920 ≤ j) = false := by simp; omega
        by_cases c3 : cc = 0
        · subst c3
          have hbf : b = false := by rw [← HVR.out]; unfold rvalid; simp
          subst hbf
          clear hb0 HVR
          go_wp2_with fail
          go_quiet (fail)
          go_wp2_with fail
          go_ret
          exact ⟨rfl, below_drewN HB.out _⟩
        have d3 : (cc == 0) = false := beq_eq_false_iff_ne.2 c3
        by_cases c4 : j ≤ x
        · have d4 : decide (j ≤ x) = true := by simpa using c4
          have hbf : b = false := by rw [← HVR.out]; unfold rvalid; simp; omega
          subst hbf
          clear hb0 HVR
          go_wp2_with fail
          go_quiet (fail)
          go_wp2_with fail
          go_ret
          exact ⟨rfl, below_drewN HB.out _⟩
        have d4 : decide (j ≤ x) = false := by simp; omega
        have e1 : decide (x < j) = true := decide_eq_true (by omega)
        have e2 : decide (j < 1920) = true := decide_eq_true (by omega)
        have h9 := HVR.out
        unfold rvalid at h9
        rw [e1, e2, d3] at h9
        have hnext := Lib.hid (show rvalid j rest' = b from h9)
        have HJ := Lib.hid (show -1 ≤ j by omega)
        clear e1 e2 h9
        clear c1 c2 c3 hb0 c4
        go_wp2_with fail
        go_quiet (fail)
        go_wp2_with fail
        go_roundw
        case rel => exact ⟨pre ++ [(j, cc)], rest', j, by rw [HL0.out]; simp, by simp [HK.out], hnext.out, HJ.out, (by intro h; simp at h), (by intro p hp; simp at hp; rw [← hp]), below_drewN HB.out _⟩
        case measure => simp [intOf]; omega
end Go.Proofs.Ytjfeeampcgmngaa
