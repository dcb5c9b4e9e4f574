/- The list of edges that sum lays out of its map. -/
import Derived.Test.YtjfeeampcgmngaaSum1
import Derived.Test.YtjfeeampcgmngaaOrd
namespace Go.Proofs.Ytjfeeampcgmngaa
open Go.RowKit Go.Shelf Go.Maps

theorem TalFrom.le {B C : Nat} {v : Value} (h : TalFrom C v) (hb : B ≤ C) : TalFrom B v := fun c e t a n k hv => Nat.le_trans hb (h c e t a n k hv)
def etCells (l : List ETV) : List Value := l.flatMap fun x => encE x natHi natLo
theorem etCells_append (l m : List ETV) : etCells (l ++ m) = etCells l ++ etCells m := by unfold etCells; rw [List.flatMap_append]
theorem etInfo : (Try.prog.info? 62).map (fun i => (i.zero, i.size, i.bytes)) = some (some (.agg #[.string ByteArray.empty, .string ByteArray.empty, .int .u64 0, .int .u64 0, .int .u64 0, .int .u64 0, .int .u64 0, .int .u64 0, .slice none 0 0]), 9, 104) := by kernel_rfl
def ETV.val (x : ETV) : Value := talVal x.calls x.errors x.took (.slice x.A x.n x.c)
def Tell (w : World) (g : Edge → Tal) (d : ETV) : Prop := EdgeOk d.e ∧ TalAt w d.val (g d.e).raw ∧ g d.e ≠ tzero

structure OutAt (B : Nat) (W : World) (b0 : Nat) (ea : List MapEntry) (g : Edge → Tal) (v : Value) (wr : World) (left : List MapEntry) (done : List ETV) : Prop where
  own : wr.ownsRow (W.heap.size + 1) 62 9 v done.length (etCells done)
  iter : IterIs wr W.heap.size b0 ea left
  tell : ∀ d ∈ done, Tell W g d
  from_ : ∀ d ∈ done, TalFrom B d.val
  nodup : (done.map (·.e)).Nodup
  apart : ∀ d ∈ done, ∀ x ∈ left, x.key ≠ edgeVal d.e
  all : ∀ e, g e ≠ tzero → (∃ x ∈ left, x.key = edgeVal e) ∨ ∃ d ∈ done, d.e = e
  below : Below W.heap.size W wr
def OutLoop (B : Nat) (W : World) (b0 : Nat) (ea : List MapEntry) (g : Edge → Tal) (v : Value) (wr : World) : Prop := ∃ left done, OutAt B W b0 ea g v wr left done

theorem nodup_le {α : Type} [DecidableEq α] : ∀ (l m : List α), l.Nodup → (∀ x ∈ l, x ∈ m) → l.length ≤ m.length
  | [], m, _, _ => Nat.zero_le _
  | x :: l, m, hn, hs => by
    have hn' := List.nodup_cons.1 hn
    have hx : x ∈ m := hs x (by simp)
    have := nodup_le l (m.erase x) hn'.2 fun y hy => by
      have hne : y ≠ x := fun e => hn'.1 (e ▸ hy)
      exact (List.mem_erase_of_ne hne).2 (hs y (by simp [hy]))
    rw [List.length_erase_of_mem hx] at this
    have hp : 0 < m.length := List.length_pos_of_mem hx
    simp
    omega
/-- At most N hours' edges have something. -/
def Few (N : Nat) (M : Cont) : Prop := ∃ S : List (Nat × Edge), S.length ≤ N ∧ ∀ h e, M h e ≠ tzero → (h, e) ∈ S
theorem hsum_some (M : Cont) (e : Edge) : ∀ (n lo : Nat), hsum M e lo n ≠ tzero → ∃ h, M h e ≠ tzero
  | 0, lo, h => absurd rfl h
  | n + 1, lo, h => by
    by_cases h0 : M lo e = tzero
    · refine hsum_some M e n (lo + 1) fun h1 => h ?_
      show tadd (M lo e) (hsum M e (lo + 1) n) = tzero
      rw [h0, h1]
      exact tzero_tadd tzero_ok
    · exact ⟨lo, h0⟩
theorem OutAt.count {B : Nat} {W wr : World} {b0 N lo n : Nat} {ea left : List MapEntry} {g : Edge → Tal} {v : Value} {done : List ETV} {M : Cont} (h : OutAt B W b0 ea g v wr left done) (hf : Few N M) (hg : ∀ e, g e = hsum M e lo n) : done.length ≤ N := by
  classical
  obtain ⟨S, h1, h2⟩ := hf
  have := nodup_le (done.map (·.e)) (S.map Prod.snd) h.nodup fun e he => by
    obtain ⟨d, hd, rfl⟩ := List.mem_map.1 he
    obtain ⟨hr, h3⟩ := hsum_some M d.e n lo (by rw [← hg]; exact (h.tell d hd).2.2)
    exact List.mem_map.2 ⟨(hr, d.e), h2 _ _ h3, rfl⟩
  simp at this
  omega
theorem OutAt.start {B : Nat} {b0 : Nat} {ea : List MapEntry} {g : Edge → Tal} {W W' : World} (hin : InnerIs W b0 ea g) (hit : IterIs W' W.heap.size b0 ea ea) (hb : Below W.heap.size W W') : OutAt B W b0 ea g (.slice none 0 0) W' ea [] where
  own := World.ownsRow_nil _ _ _ _
  iter := hit
  tell _ h := by simp at h
  from_ _ h := by simp at h
  nodup := by simp
  apart _ h := by simp at h
  all e he := .inl (hin.all e he)
  below := hb
theorem OutAt.step {B : Nat} {W wr wr' : World} {b0 : Nat} {ea left left' : List MapEntry} {g : Edge → Tal} {v v' : Value} {done : List ETV} {x : MapEntry} {d : ETV} (h : OutAt B W b0 ea g v wr left done) (hp : left.Perm (x :: left')) (hk : x.key = edgeVal d.e) (ha : ∀ y ∈ left', y.key ≠ x.key) (hd : Tell W g d) (hfr : TalFrom B d.val)
    (hown : wr'.ownsRow (W.heap.size + 1) 62 9 v' (done.length + 1) (etCells done ++ encE d natHi natLo)) (hit : IterIs wr' W.heap.size b0 ea left') (hb : Below W.heap.size W wr') : OutAt B W b0 ea g v' wr' left' (done ++ [d]) := by
  have hin : ∀ y, y ∈ left ↔ y = x ∨ y ∈ left' := fun y => by rw [hp.mem_iff]; simp
  refine ⟨by rw [List.length_append, etCells_append]; simpa [etCells] using hown, hit, fun d' hd' => ?_, fun d' hd' => ?_, ?_, fun d' hd' y hy => ?_, fun e he => ?_, hb⟩
  · rcases List.mem_append.1 hd' with h1 | h1
    · exact h.tell d' h1
    · simp at h1; subst h1; exact hd
  · rcases List.mem_append.1 hd' with h1 | h1
    · exact h.from_ d' h1
    · simp at h1; subst h1; exact hfr
  · rw [List.map_append, List.nodup_append]
    refine ⟨h.nodup, by simp, fun a ha' b hb' => ?_⟩
    simp at hb'
    subst hb'
    obtain ⟨d', hd', rfl⟩ := List.mem_map.1 ha'
    intro e0
    exact h.apart d' hd' x ((hin x).2 (.inl rfl)) (by rw [hk, e0])
  · rcases List.mem_append.1 hd' with h1 | h1
    · exact h.apart d' h1 y ((hin y).2 (.inr hy))
    · simp at h1
      subst h1
      rw [← hk]
      exact ha y hy
  · rcases h.all e he with ⟨y, hy, h1⟩ | ⟨d', hd', h1⟩
    · rcases (hin y).1 hy with rfl | hy
      · exact .inr ⟨d, by simp, edgeVal_inj (hk.symm.trans h1)⟩
      · exact .inl ⟨y, hy, h1⟩
    · exact .inr ⟨d', by simp [hd'], h1⟩
theorem own_next {w w' : World} {r : Nat} {e : TypeId} {size n : Nat} {v : Value} {xs : List Value} (h : w.ownsRow (r + 1) e size v n xs) (hw : ∀ i, i ≠ r → w'.heap[i]? = w.heap[i]?) : w'.ownsRow (r + 1) e size v n xs := by
  refine ⟨h.1, ?_⟩
  rcases h.2 with h2 | ⟨g, cap, cur, h1, h2, h3, h4⟩
  · exact .inl h2
  · exact .inr ⟨g, cap, cur, h1, h2, by rw [hw g (by omega)]; exact h3, h4⟩
end Go.Proofs.Ytjfeeampcgmngaa
