/- cmp.Compare of texts, cmp.Or, and rollup's order of edges. -/
import Derived.Test.YtjfeeampcgmngaaBase
import Derived.Test.YtjfeeampcgmngaaEdges
import Derived.LoopTactic
import Derived.WalkLawsBesides
import Derived.Laws.Strings2
namespace Go.Proofs.Ytjfeeampcgmngaa
open Go.RowKit

theorem toListB (a : ByteArray) : a.toList = a.data.toList := ByteArray.toList_eq a

theorem isNaN_any (s : ByteArray) (w : World) : Calls Try.prog 80 #[.string s] w fun e w' => e = .returned (.bool false) ∧ w' = w := by
  go_enter Try.func80, Try.ntmps80
  go_wp2
  go_ret
  simp

def scmp (a b : ByteArray) : Int := if slt a b then -1 else if slt b a then 1 else 0

theorem compare_str (a b : ByteArray) (w : World) : Calls Try.prog 62 #[.string a, .string b] w fun e w' => e = .returned (.int .i64 (scmp a b)) ∧ w' = w := by
  go_enter Try.func62, Try.ntmps62
  go_wp2_with (go_at_call 80; refine (isNaN_any _ _).mono ?_; rintro e w' ⟨rfl, rfl⟩)
  all_goals (refine bodyPost_ret (results_tmp rfl _ _ _) rfl ⟨?_, rfl⟩)
  · rename_i h
    have h1 : slt a b = true := by unfold slt; rw [← toListB, ← toListB]; exact h
    simp [scmp, h1]
  · rename_i h h'
    have h1 : slt a b = false := by unfold slt; rw [← toListB, ← toListB]; assumption
    have h2 : slt b a = true := by
      cases h3 : slt b a
      · have e := slt_total h1 h3
        subst e
        simp at h'
      · rfl
    simp [scmp, h1, h2]
  · rename_i h h'
    have h1 : slt a b = false := by unfold slt; rw [← toListB, ← toListB]; assumption
    have h2 : slt b a = false := by
      have e : a = b := by
        have : a.toList = b.toList := by simpa using h'
        have h4 : a.data.toList = b.data.toList := by rw [← toListB, ← toListB]; exact this
        cases a; cases b
        rename_i x y
        cases x; cases y
        simp only at h4
        rw [h4]
      rw [e]
      exact slt_irrefl b
    simp [scmp, h1, h2]

def firstNZ : List Int → Int
  | [] => 0
  | z :: l => if z = 0 then firstNZ l else z

/-- cmp.Or of whole numbers: the first that is not zero. -/
theorem or_int (w : World) (b n c : Nat) (zs : List Int) (hn : n = zs.length) (hs : n ≤ 1000000) (hc : ∀ i z, zs[i]? = some z → w.cell? ⟨b, i, none⟩ = some (.int .i64 z)) :
    Calls Try.prog 61 #[.slice (some ⟨b, 0, none⟩) n c] w fun e w' => e = .returned (.int .i64 (firstNZ zs)) ∧ w' = w := by
  have HC := Lib.hid hc
  have HN := Lib.hid hn
  clear hc hn
  go_enter Try.func61, Try.ntmps61
  go_wp2_with fail
  go_loop [5, 8] (fun _ i => ∃ k : Nat, k ≤ n ∧ i = .int .i64 k ∧ firstNZ (zs.drop k) = firstNZ zs) (fun _ i => n - (intOf i).toNat)
  case atStart => exact ⟨0, Nat.zero_le _, rfl, rfl⟩
  case round =>
    obtain ⟨k, hk, rfl, hz⟩ := hrel
    have HZ := Lib.hid hz
    clear hz
    by_cases hlt : k < n
    · have hkl : k < zs.length := by rw [← HN.out]; exact hlt
      have hcell := HC.out k zs[k] (List.getElem?_eq_getElem hkl)
      have hd := Lib.hid (List.drop_eq_getElem_cons hkl)
      obtain ⟨z, hz⟩ : ∃ z, z = zs[k] := ⟨_, rfl⟩
      rw [← hz] at hcell
      have HZK := Lib.hid hz
      clear hz
      by_cases h0 : z = 0
      · subst h0
        go_wp2
        go_round
        case rel => exact ⟨k + 1, by omega, by go_num, by rw [← HZ.out, hd.out, ← HZK.out]; simp [firstNZ]⟩
        case measure => simp [intOf]; omega
      · have d0 : (z != 0) = true := by simpa using h0
        have H0 := Lib.hid h0
        clear h0
        go_wp2
        refine bodyPost_ret (results_tmp rfl _ _ _) rfl ⟨?_, rfl⟩
        rw [← HZ.out, hd.out, ← HZK.out]
        simp [firstNZ, H0.out]
    · go_wp2
      refine bodyPost_ret (results_tmp rfl _ _ _) rfl ⟨?_, rfl⟩
      rw [← HZ.out, List.drop_eq_nil_of_le (by rw [← HN.out]; omega)]
      rfl
end Go.Proofs.Ytjfeeampcgmngaa
