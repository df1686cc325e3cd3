/- The plain law of RowsBelow. -/
import Derived.Test.YtgonkdfednoclaaDoorPRowsx6
namespace Go.Proofs.YtgonkdfednoclaaDoor.PRows
open Go.RowKit Go.Proofs.YtgonkdfednoclaaDoorW.PrintWords

theorem alive_all (k : Nat) (h : 40 ≤ k) : grommetlaw02_alive.f k = some true :=
  at_rounds (g := grommetlaw02_alive.f) (fun k => grommetlaw02_alive.mono k) h (by kernel_rfl)
theorem wrap_nat (n : Nat) (h : n ≤ 9223372036854775807) : wrap64 (n : Int) = n := by
  unfold wrap64
  omega
theorem empty_f (x : S31) : grommetref02_Empty.f x.f0 x.f1 x.f2 = some (emptyU x) := isEmpty_f x

theorem stripU_empty (l : List S31) : ∀ m j, stripU l m ≤ j → j < m → emptyU (rd_T31 l j) = true
  | 0, _, _, h => by omega
  | m + 1, j, h1, h2 => by
    simp only [stripU] at h1
    split at h1
    · rename_i he
      rcases Nat.lt_or_ge j m with h3 | h3
      · exact stripU_empty l m j h1 h3
      · rw [show j = m by omega]; exact he
    · omega
theorem stripU_last (l : List S31) : ∀ m, 0 < stripU l m → emptyU (rd_T31 l (stripU l m - 1 : Nat)) = false
  | 0, h => by simp [stripU] at h
  | m + 1, h => by
    simp only [stripU] at h ⊢
    split
    · rename_i he
      rw [if_pos he] at h
      exact stripU_last l m h
    · rename_i he
      simpa using he
theorem idxU_before (l : List S31) (col : Int) : ∀ k i, l.length < i + k → ∀ j, i ≤ j → j < l.length → (idxU l col k i < 0 ∨ (j : Int) < idxU l col k i) → hitU col (rd_T31 l j) = false
  | 0, i, hk, j, h1, h2, _ => by omega
  | k + 1, i, hk, j, h1, h2, h3 => by
    simp only [idxU] at h3
    rw [if_pos (by omega)] at h3
    split at h3
    · omega
    · rename_i he
      rcases Nat.eq_or_lt_of_le h1 with rfl | h4
      · simpa using he
      · exact idxU_before l col k (i + 1) (by omega) j (by omega) h2 h3
theorem idxU_hit (l : List S31) (col : Int) : ∀ k i, l.length < i + k → 0 ≤ idxU l col k i → idxU l col k i < l.length ∧ hitU col (rd_T31 l (idxU l col k i)) = true
  | 0, i, _, h => by simp [idxU] at h
  | k + 1, i, hk, h => by
    simp only [idxU] at h ⊢
    split
    · rename_i h1
      rw [if_pos h1] at h
      split
      · rename_i h2
        exact ⟨by omega, h2⟩
      · rename_i h2
        rw [if_neg h2] at h
        exact idxU_hit l col k (i + 1) (by omega) h
    · rename_i h1
      rw [if_neg h1] at h
      omega

theorem mU (l : List S31) (col : Int) : (if idxU l col (l.length + 1) 0 < 0 then l.length else (idxU l col (l.length + 1) 0).toNat) ≤ l.length ∧ ∀ j, j < (if idxU l col (l.length + 1) 0 < 0 then l.length else (idxU l col (l.length + 1) 0).toNat) → idxU l col (l.length + 1) 0 < 0 ∨ (j : Int) < idxU l col (l.length + 1) 0 := by
  obtain ⟨h1, _⟩ := idxU_le l col (l.length + 1) 0
  by_cases h : idxU l col (l.length + 1) 0 < 0
  · rw [if_pos h]
    exact ⟨Nat.le_refl _, fun j _ => .inl h⟩
  · rw [if_neg h]
    exact ⟨by omega, fun j _ => .inr (by omega)⟩
/-- Of the rows before the place all are empty or deeper. -/
theorem belowU_before (l : List S31) (col : Int) (j : Nat) (h : j < belowU l col) : emptyU (rd_T31 l j) = true ∨ col < (rd_T31 l j).f0 := by
  unfold belowU at h
  obtain ⟨h1, h0⟩ := mU l col
  have h4 := stripU_le l (if idxU l col (l.length + 1) 0 < 0 then l.length else (idxU l col (l.length + 1) 0).toNat)
  have h3 := idxU_before l col (l.length + 1) 0 (by omega) j (by omega) (by omega) (h0 j (by omega))
  unfold hitU at h3
  simp only [Bool.and_eq_false_iff, Bool.not_eq_false', decide_eq_false_iff_not, Int.not_le] at h3
  exact h3
/-- The first row behind the place that is not empty is no deeper. -/
theorem belowU_after (l : List S31) (col : Int) (j : Nat) (h : belowU l col ≤ j) (hj : j < l.length) (he : emptyU (rd_T31 l j) = false) (hall : ∀ i, belowU l col ≤ i → i < j → emptyU (rd_T31 l i) = true) : (rd_T31 l j).f0 ≤ col := by
  unfold belowU at h hall
  obtain ⟨h1, _⟩ := idxU_le l col (l.length + 1) 0
  have hs := stripU_empty l (if idxU l col (l.length + 1) 0 < 0 then l.length else (idxU l col (l.length + 1) 0).toNat) j h
  have hsl := stripU_le l (if idxU l col (l.length + 1) 0 < 0 then l.length else (idxU l col (l.length + 1) 0).toNat)
  by_cases hn : idxU l col (l.length + 1) 0 < 0
  · rw [if_pos hn] at hs
    rw [hs hj] at he
    cases he
  · obtain ⟨h4, h5⟩ := idxU_hit l col (l.length + 1) 0 (by omega) (by omega)
    rw [if_neg hn] at hs hall hsl
    obtain ⟨i, hi⟩ : ∃ i : Nat, idxU l col (l.length + 1) 0 = i := ⟨(idxU l col (l.length + 1) 0).toNat, by omega⟩
    rw [hi] at hs hall hsl h5
    rw [Int.toNat_natCast] at hs hall hsl
    unfold hitU at h5
    simp only [Bool.and_eq_true, Bool.not_eq_true', decide_eq_true_eq] at h5
    rcases Nat.lt_trichotomy j i with h6 | h6 | h6
    · rw [hs h6] at he
      cases he
    · subst h6
      exact h5.2
    · rw [hall i hsl h6] at h5
      cases h5.1
theorem belowU_last (l : List S31) (col : Int) (h : 0 < belowU l col) : emptyU (rd_T31 l (belowU l col - 1 : Nat)) = false := stripU_last l _ h
theorem belowU_le (l : List S31) (col : Int) : belowU l col ≤ l.length := by
  unfold belowU
  exact Nat.le_trans (stripU_le l _) (mU l col).1

theorem rd_drop (l : List S31) (n i : Nat) : rd_T31 (l.drop n) (i : Int) = rd_T31 l ((n + i : Nat) : Int) := by
  unfold rd_T31
  simp only [Int.toNat_natCast, List.getD_eq_getElem?_getD, List.getElem?_drop]
theorem rd_take (l : List S31) (n i : Nat) (h : i < n) : rd_T31 (l.take n) (i : Int) = rd_T31 l (i : Int) := by
  unfold rd_T31
  simp only [Int.toNat_natCast, List.getD_eq_getElem?_getD]
  rw [List.getElem?_take_of_lt h]

theorem below_l1 (col : Int) (l : List S31) (hl : l.length ≤ 4398046510976) : ∀ d i, i + d = l.length →
    (∀ j, i ≤ j → j < l.length → emptyU (rd_T31 l j) = false → (∀ q, i ≤ q → q < j → emptyU (rd_T31 l q) = true) → (rd_T31 l j).f0 ≤ col) →
    ∀ k, d + 41 ≤ k → grommetlaw02_RowsBelow.l1 k col l (l.length : Int) (i : Int) = some true
  | 0, i, hi, _, k, hk => by
    obtain ⟨k, rfl⟩ : ∃ k', k = k' + 1 := ⟨k - 1, by omega⟩
    simp only [grommetlaw02_RowsBelow.l1]
    rw [if_neg (by omega), alive_all k (by omega)]
    rfl
  | d + 1, i, hi, hh, k, hk => by
    obtain ⟨k, rfl⟩ : ∃ k', k = k' + 1 := ⟨k - 1, by omega⟩
    simp only [grommetlaw02_RowsBelow.l1]
    rw [if_pos (by omega), if_pos (by omega), if_pos (by omega), empty_f]
    simp only [Option.bind_some]
    cases he : emptyU (rd_T31 l i) with
    | true =>
      rw [if_pos rfl, show ((i : Int) + 1) = ((i + 1 : Nat) : Int) by omega, wrap_nat _ (by omega)]
      exact below_l1 col l hl d (i + 1) (by omega) (fun j h1 h2 h3 h4 => hh j (by omega) h2 h3 (fun q h5 h6 => by
        rcases Nat.eq_or_lt_of_le h5 with rfl | h7
        · exact he
        · exact h4 q (by omega) h6)) k (by omega)
    | false =>
      have := hh i (Nat.le_refl _) (by omega) he (fun q h5 h6 => by omega)
      rw [if_neg (by decide), if_pos this, alive_all k (by omega)]
      rfl
theorem below_l0 (l : List S31) (col : Int) (n : Nat) (hn : n ≤ l.length) (hl : l.length ≤ 4398046510976)
    (hb : ∀ j, j < n → emptyU (rd_T31 l j) = true ∨ col < (rd_T31 l j).f0)
    (ha : ∀ k, l.length + 41 ≤ k → grommetlaw02_RowsBelow.l1 k col (l.drop n) ((l.drop n).length : Int) 0 = some true) : ∀ d i, i + d = n →
    ∀ k, d + l.length + 42 ≤ k → grommetlaw02_RowsBelow.l0 k l col n (l.take n) ((l.take n).length : Int) (i : Int) = some true
  | 0, i, hi, k, hk => by
    obtain ⟨k, rfl⟩ : ∃ k', k = k' + 1 := ⟨k - 1, by omega⟩
    simp only [grommetlaw02_RowsBelow.l0]
    rw [if_neg (by simp only [List.length_take]; omega), if_pos (by omega), if_pos (by omega), Int.toNat_natCast]
    simp only [Option.bind_some]
    exact ha k (by omega)
  | d + 1, i, hi, k, hk => by
    obtain ⟨k, rfl⟩ : ∃ k', k = k' + 1 := ⟨k - 1, by omega⟩
    simp only [grommetlaw02_RowsBelow.l0]
    rw [if_pos (by simp only [List.length_take]; omega), if_pos (by omega), if_pos (by simp only [List.length_take]; omega), empty_f, rd_take l n i (by omega)]
    simp only [Option.bind_some]
    have ih := below_l0 l col n hn hl hb ha d (i + 1) (by omega) k (by omega)
    rw [show ((i : Int) + 1) = ((i + 1 : Nat) : Int) by omega, wrap_nat _ (by omega)]
    cases he : emptyU (rd_T31 l i) with
    | true => rw [if_pos rfl]; exact ih
    | false =>
      have h1 := hb i (by omega)
      rw [he] at h1
      rw [if_neg (by decide), if_neg (by simp at h1; omega)]
      exact ih
theorem rowsBelow_pure (l : List S31) (col : Int) (hl : l.length ≤ 4398046510976) : grommetlaw02_RowsBelow.f (2 * l.length + 44) l col = some true := by
  have h1 := belowU_le l col
  have h2 := belowU_last l col
  have hb := belowU_before l col
  have ha := belowU_after l col
  have hj : grommetlaw02_RowsBelow.j0 (2 * l.length + 44) l col (belowU l col : Nat) false = some true := by
    show grommetlaw02_RowsBelow.j0 (2 * l.length + 43 + 1) l col (belowU l col : Nat) false = some true
    simp only [grommetlaw02_RowsBelow.j0]
    rw [if_neg (by decide), if_pos (by omega), if_pos (by omega), Int.toNat_natCast]
    simp only [Option.bind_some]
    refine below_l0 l col (belowU l col) h1 hl hb (fun k hk => ?_) (belowU l col) 0 (by omega) _ (by omega)
    refine below_l1 col (l.drop (belowU l col)) (by simp; omega) (l.drop (belowU l col)).length 0 (by omega) (fun j _ h4 h5 h6 => ?_) k (by simp; omega)
    simp only [List.length_drop] at h4
    rw [rd_drop] at h5 ⊢
    refine ha (belowU l col + j) (by omega) (by omega) h5 (fun i h7 h8 => ?_)
    have := h6 (i - belowU l col) (by omega) (by omega)
    rw [rd_drop, show belowU l col + (i - belowU l col) = i by omega] at this
    exact this
  unfold grommetlaw02_RowsBelow.f rows_Below.f
  rw [if_pos (by omega)]
  simp only [Option.bind_some]
  rw [if_neg (by omega), if_neg (by omega)]
  by_cases h0 : belowU l col = 0
  · rw [if_neg (by omega)]
    exact hj
  · rw [if_pos (by omega), show ((belowU l col : Nat) : Int) - 1 = ((belowU l col - 1 : Nat) : Int) by omega, wrap_nat _ (by omega), if_pos (by omega), if_pos (by omega), empty_f, h2 (by omega)]
    simp only [Option.bind_some]
    exact hj
end Go.Proofs.YtgonkdfednoclaaDoor.PRows
