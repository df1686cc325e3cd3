/- The plain law of RowsBoth: the rows of two texts of whole lines, one behind the other. -/
import Derived.Test.YtgonkdfednoclaaDoorPureBack
namespace Go.Proofs.YtgonkdfednoclaaDoor.PRows
open Go.RowKit

def shiftR (n : Nat) (x : S31) : S31 := ⟨x.f0, x.f1, x.f2 + n⟩
theorem rowsL_shift (n : Nat) : ∀ (ls : List (List UInt8)) (i : Nat), rowsL ls (i + n) = (rowsL ls i).map (shiftR n)
  | [], _ => rfl
  | x :: ls, i => by
    simp only [rowsL, List.map_cons]
    rw [show i + n + 1 = (i + 1) + n by omega, rowsL_shift n ls (i + 1)]
    congr 1
    unfold rowL shiftR
    simp only [S31.mk.injEq, true_and]
    omega
theorem goL_more : ∀ (ls ks : List (List UInt8)) (i : Nat) (acc : List S31), (∀ x ∈ ls, goodL x) → goL (ls ++ ks) i acc = goL ks (i + ls.length) (acc ++ rowsL ls i)
  | [], ks, i, acc, _ => by simp [rowsL]
  | x :: ls, ks, i, acc, h => by
    obtain ⟨h1, h2⟩ := h x List.mem_cons_self
    simp only [List.cons_append, goL, rowsL, List.length_cons]
    rw [if_neg h1, if_neg h2, goL_more ls ks (i + 1) _ (fun y hy => h y (List.mem_cons_of_mem _ hy))]
    rw [show i + 1 + ls.length = i + (ls.length + 1) by omega, List.append_assoc]
    rfl
theorem goL_stops : ∀ (ls ks : List (List UInt8)) (i : Nat) (acc : List S31), ¬ (∀ x ∈ ls, goodL x) → goL (ls ++ ks) i acc = goL ls i acc
  | [], _, _, _, h => absurd (fun x hx => by cases hx) h
  | x :: ls, ks, i, acc, h => by
    simp only [List.cons_append, goL]
    by_cases h1 : badL x
    · rw [if_pos h1, if_pos h1]
    · rw [if_neg h1, if_neg h1]
      by_cases h2 : tabL x
      · rw [if_pos h2, if_pos h2]
      · rw [if_neg h2, if_neg h2]
        exact goL_stops ls ks (i + 1) _ fun hl => h fun y hy => by
          rcases List.mem_cons.1 hy with rfl | hy
          · exact ⟨h1, h2⟩
          · exact hl y hy
/-- A fault, told from a later place on. -/
theorem goL_fault (n : Nat) : ∀ (ls : List (List UInt8)) (i : Nat) (acc acc' : List S31), ¬ (∀ x ∈ ls, goodL x) →
    ∃ e at_, goL ls i acc = ([], e, at_) ∧ goL ls (i + n) acc' = ([], e, at_ + n) ∧ e ≠ 0 ∧ 0 ≤ at_ ∧ at_ ≤ i + ls.length
  | [], _, _, _, h => absurd (fun x hx => by cases hx) h
  | x :: ls, i, acc, acc', h => by
    simp only [goL]
    by_cases h1 : badL x
    · rw [if_pos h1, if_pos h1]
      exact ⟨8, (i : Int) + 1, rfl, by simp only [Prod.mk.injEq, true_and]; omega, by decide, by omega, by simp only [List.length_cons]; omega⟩
    · rw [if_neg h1, if_neg h1]
      by_cases h2 : tabL x
      · rw [if_pos h2, if_pos h2]
        exact ⟨9, (i : Int) + 1, rfl, by simp only [Prod.mk.injEq, true_and]; omega, by decide, by omega, by simp only [List.length_cons]; omega⟩
      · rw [if_neg h2, if_neg h2]
        have hl : ¬ (∀ y ∈ ls, goodL y) := fun hl => h fun y hy => by
          rcases List.mem_cons.1 hy with rfl | hy
          · exact ⟨h1, h2⟩
          · exact hl y hy
        obtain ⟨e, at_, h3, h4, h5, h6, h7⟩ := goL_fault n ls (i + 1) (acc ++ [rowL i x]) (acc' ++ [rowL (i + n) x]) hl
        refine ⟨e, at_, h3, ?_, h5, h6, by simp only [List.length_cons]; omega⟩
        rw [show i + n + 1 = i + 1 + n by omega]
        exact h4
theorem rowsL_at : ∀ (ls : List (List UInt8)) (i : Nat), ∀ x ∈ rowsL ls i, 0 ≤ x.f2 ∧ x.f2 ≤ i + ls.length
  | [], _, _, h => by cases h
  | y :: ls, i, x, h => by
    simp only [rowsL] at h
    rcases List.mem_cons.1 h with rfl | h
    · unfold rowL
      simp only [List.length_cons]
      omega
    · have := rowsL_at ls (i + 1) x h
      simp only [List.length_cons]
      omega

/-- What comes of two texts, the first of whole lines. -/
theorem both_cases (s t : List UInt8) (h : s.length + t.length ≤ 60000) :
    (∃ e at_, readL (s ++ [10]) = ([], e, at_) ∧ e ≠ 0 ∧ readL (s ++ [10] ++ t) = ([], e, at_)) ∨
    (∃ a e at_, readL (s ++ [10]) = (a, 0, 0) ∧ readL t = ([], e, at_) ∧ e ≠ 0 ∧ readL (s ++ [10] ++ t) = ([], e, at_ + (a.length : Nat)) ∧ a.length ≤ 60001 ∧ 0 ≤ at_ ∧ at_ ≤ 60001) ∨
    (∃ a b, readL (s ++ [10]) = (a, 0, 0) ∧ readL t = (b, 0, 0) ∧ readL (s ++ [10] ++ t) = (a ++ b.map (shiftR a.length), 0, 0) ∧ a.length ≤ 60001 ∧ b.length ≤ 60001 ∧ ∀ x ∈ b, 0 ≤ x.f2 ∧ x.f2 ≤ 60001) := by
  have l1 := linesL_length (s ++ [10])
  have l2 := linesL_length t
  rw [List.length_append, List.length_singleton] at l1
  unfold readL
  have e1 : ¬ 65536 < (s ++ [10]).length := by rw [List.length_append, List.length_singleton]; omega
  have e2 : ¬ 65536 < t.length := by omega
  have e3 : ¬ 65536 < (s ++ [10] ++ t).length := by rw [List.length_append, List.length_append, List.length_singleton]; omega
  rw [if_neg e1, if_neg e2, if_neg e3, linesL_append]
  by_cases h1 : ∀ x ∈ linesL (s ++ [10]), goodL x
  · have ea := goL_good _ 0 [] h1
    have ec := goL_more _ (linesL t) 0 [] h1
    rw [List.nil_append] at ea ec
    rw [Nat.zero_add] at ec
    have hn : (rowsL (linesL (s ++ [10])) 0).length = (linesL (s ++ [10])).length := rowsL_length _ _
    by_cases h2 : ∀ x ∈ linesL t, goodL x
    · have eb := goL_good _ 0 [] h2
      rw [List.nil_append] at eb
      refine .inr (.inr ⟨_, _, ea, eb, ?_, by omega, by rw [rowsL_length]; omega, fun x hx => ?_⟩)
      · have e2 := rowsL_shift (linesL (s ++ [10])).length (linesL t) 0
        rw [Nat.zero_add] at e2
        rw [ec, goL_good _ _ _ h2, hn, e2]
      · have := rowsL_at _ _ x hx
        omega
    · obtain ⟨e, at_, h3, h4, h5, h6, h7⟩ := goL_fault (linesL (s ++ [10])).length (linesL t) 0 [] (rowsL (linesL (s ++ [10])) 0) h2
      rw [Nat.zero_add] at h4
      exact .inr (.inl ⟨_, e, at_, ea, h3, h5, by rw [ec, h4, hn], by omega, h6, by omega⟩)
  · obtain ⟨e, at_, h3, _, h5, _⟩ := goL_fault 0 (linesL (s ++ [10])) 0 [] [] h1
    exact .inl ⟨e, at_, h3, h5, by rw [goL_stops _ _ _ _ h1, h3]⟩
end Go.Proofs.YtgonkdfednoclaaDoor.PRows
