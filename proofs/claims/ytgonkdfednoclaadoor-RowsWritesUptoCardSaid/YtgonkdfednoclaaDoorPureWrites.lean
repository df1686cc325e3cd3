/- The plain law of RowsWrites. -/
import Derived.Test.YtgonkdfednoclaaDoorPRowsx8
import Derived.Test.YtgonkdfednoclaaDoorPureBelow
import Derived.Test.YtgonkdfednoclaaDoorPureLines
namespace Go.Proofs.YtgonkdfednoclaaDoor.PRows
open Go.RowKit Go.Proofs.YtgonkdfednoclaaDoorW.PrintWords

/-! ### Write -/
def nb (l : List UInt8) : List Int := l.map fun b => (b.toNat : Int)
theorem nb_append (a b : List UInt8) : nb (a ++ b) = nb a ++ nb b := List.map_append
theorem nb_length (a : List UInt8) : (nb a).length = a.length := List.length_map _
def padU (x : S31) : Nat := (min (max x.f0 0) 65536).toNat
theorem lineU_eq (x : S31) : lineU x = List.replicate (padU x) 32 ++ (x.f1.data.toList ++ [10]) := by
  unfold lineU padU
  rw [List.append_assoc]
theorem writeU_cons (l : List S31) (i : Nat) (h : i < l.length) : writeU (l.drop i) = lineU (rd_T31 l i) ++ writeU (l.drop (i + 1)) := by
  rw [rd_get l i h, List.drop_eq_getElem_cons h]
  rfl
theorem writeU_drop_le (l : List S31) (i : Nat) : (writeU (l.take i)).length + (writeU (l.drop i)).length = (writeU l).length := by
  have h : writeU l = writeU (l.take i) ++ writeU (l.drop i) := by
    unfold writeU
    rw [← List.flatMap_append, List.take_append_drop]
  rw [h, List.length_append]
theorem ref_l1 (l : List S31) (i : Nat) (hi : i < l.length) (F : Nat) (R : List UInt8 → Option ByteArray)
    (ih : ∀ (acc : List UInt8) (k : Nat), F ≤ k → acc.length + (writeU (l.drop (i + 1))).length < 140737488355328 → grommetref02_Write.l0 k l (nb acc) ((i + 1 : Nat) : Int) = R acc)
    (hl : l.length ≤ 4398046510976) : ∀ (d j : Nat) (acc : List UInt8) (k : Nat), j + d = padU (rd_T31 l i) → F + d + 1 ≤ k →
    acc.length + d + (rd_T31 l i).f1.size + 1 + (writeU (l.drop (i + 1))).length < 140737488355328 →
    grommetref02_Write.l1 k l (nb acc) (i : Int) (j : Int) = R (acc ++ List.replicate d 32 ++ (rd_T31 l i).f1.data.toList ++ [10])
  | 0, j, acc, k, hj, hk, hr => by
    obtain ⟨k, rfl⟩ : ∃ k', k = k' + 1 := ⟨k - 1, by omega⟩
    have hp : ¬ ((j : Int) < (rd_T31 l i).f0 ∧ (j : Int) < 65536) := by unfold padU at hj; omega
    have e : grommetref02_Write.l0 k l (nb acc ++ bytesOf (rd_T31 l i).f1 ++ [10]) (wrap64 ((i : Int) + 1)) = R (acc ++ List.replicate 0 32 ++ (rd_T31 l i).f1.data.toList ++ [10]) := by
      rw [show ((i : Int) + 1) = ((i + 1 : Nat) : Int) by omega, wrap_nat _ (by omega)]
      have := ih (acc ++ (rd_T31 l i).f1.data.toList ++ [10]) k (by omega) (by rw [List.length_append, List.length_append, ← size_len]; simp only [List.length_singleton]; omega)
      rw [nb_append, nb_append] at this
      rw [List.replicate_zero, List.append_nil]
      exact this
    have l1 : (nb acc).length = acc.length := nb_length acc
    have l2 := bytesOf_length (rd_T31 l i).f1
    have l3 : (nb acc ++ bytesOf (rd_T31 l i).f1).length = acc.length + (rd_T31 l i).f1.size := by rw [List.length_append, l1, l2]
    simp only [grommetref02_Write.l1]
    rw [if_pos (by omega), if_pos (by omega)]
    by_cases h1 : (j : Int) < (rd_T31 l i).f0
    · rw [if_pos h1, if_neg (by omega), if_pos (by omega)]
      simp only [Option.bind_some]
      rw [if_pos (by omega)]
      exact e
    · rw [if_neg h1, if_pos (by omega)]
      simp only [Option.bind_some]
      rw [if_pos (by omega)]
      exact e
  | d + 1, j, acc, k, hj, hk, hr => by
    obtain ⟨k, rfl⟩ : ∃ k', k = k' + 1 := ⟨k - 1, by omega⟩
    have hp : (j : Int) < (rd_T31 l i).f0 ∧ (j : Int) < 65536 := by unfold padU at hj; omega
    have l1 : (nb acc).length = acc.length := nb_length acc
    simp only [grommetref02_Write.l1]
    rw [if_pos (by omega), if_pos (by omega), if_pos hp.1, if_pos hp.2, if_pos (by omega), show ((j : Int) + 1) = ((j + 1 : Nat) : Int) by omega, wrap_nat _ (by omega)]
    have := ref_l1 l i hi F R ih hl d (j + 1) (acc ++ [32]) k (by omega) (by omega) (by rw [List.length_append, List.length_singleton]; omega)
    rw [nb_append] at this
    rw [List.replicate_succ]
    simp only [List.append_assoc, List.cons_append, List.nil_append] at this ⊢
    exact this
theorem ref_l0 (C : Nat) (hC : 65538 < C) (l : List S31) (hl : l.length ≤ 4398046510976) : ∀ (d i : Nat) (acc : List UInt8) (k : Nat), i + d = l.length → d * C + 1 ≤ k → acc.length + (writeU (l.drop i)).length < 140737488355328 →
    grommetref02_Write.l0 k l (nb acc) (i : Int) = some (strOfNums (nb (acc ++ writeU (l.drop i))))
  | 0, i, acc, k, hi, hk, _ => by
    obtain ⟨k, rfl⟩ : ∃ k', k = k' + 1 := ⟨k - 1, by omega⟩
    simp only [grommetref02_Write.l0]
    rw [if_neg (by omega), List.drop_of_length_le (by omega)]
    show _ = some (strOfNums (nb (acc ++ [])))
    rw [List.append_nil]
  | d + 1, i, acc, k, hi, hk, hr => by
    obtain ⟨k, rfl⟩ : ∃ k', k = k' + 1 := ⟨k - 1, by omega⟩
    have hlt : i < l.length := by omega
    rw [Nat.succ_mul] at hk
    have hw := writeU_cons l i hlt
    have hp : padU (rd_T31 l i) ≤ 65536 := by unfold padU; omega
    have hlen : (writeU (l.drop i)).length = padU (rd_T31 l i) + (rd_T31 l i).f1.size + 1 + (writeU (l.drop (i + 1))).length := by
      rw [hw, lineU_eq, List.length_append, List.length_append, List.length_append, List.length_replicate, ← size_len, List.length_singleton]
      omega
    simp only [grommetref02_Write.l0]
    rw [if_pos (by omega)]
    have := ref_l1 l i hlt (d * C + 1) (fun acc' => some (strOfNums (nb (acc' ++ writeU (l.drop (i + 1)))))) (fun acc' k' hk' hr' => ref_l0 C hC l hl d (i + 1) acc' k' (by omega) hk' hr') hl (padU (rd_T31 l i)) 0 acc k (by omega) (by omega) (by omega)
    have h0 : ((0 : Nat) : Int) = 0 := rfl
    rw [h0] at this
    rw [this, hw, lineU_eq]
    simp only [List.append_assoc]
theorem strOf_nb (l : List UInt8) : (strOfNums (nb l)).toList = l := by
  rw [ByteArray.toList_eq]
  unfold strOfNums nb
  simp [Function.comp_def]
theorem refWrite (l : List S31) (hl : l.length ≤ 4398046510976) (hw : (writeU l).length < 140737488355328) (k : Nat) (hk : l.length * 65539 + 1 ≤ k) :
    ∃ r, grommetref02_Write.f k l = some r ∧ r.toList = writeU l := by
  have h : grommetref02_Write.l0 k l (nb []) ((0 : Nat) : Int) = some (strOfNums (nb ([] ++ writeU (l.drop 0)))) := ref_l0 65539 (by decide) l hl l.length 0 [] k (by omega) hk (by simpa using hw)
  exact ⟨_, h, by rw [strOf_nb]; rfl⟩

/-! ### Below -/
def BelowIs (l : List S31) (col : Int) (n : Nat) : Prop :=
  n ≤ l.length ∧ (∀ j, j < n → emptyU (rd_T31 l j) = true ∨ col < (rd_T31 l j).f0) ∧ (0 < n → emptyU (rd_T31 l (n - 1 : Nat)) = false) ∧
    ∀ j, n ≤ j → j < l.length → emptyU (rd_T31 l j) = false → (∀ i, n ≤ i → i < j → emptyU (rd_T31 l i) = true) → (rd_T31 l j).f0 ≤ col
theorem first_in (p : Nat → Bool) : ∀ (d n : Nat), p (n + d) = false → ∃ j, n ≤ j ∧ j ≤ n + d ∧ p j = false ∧ ∀ i, n ≤ i → i < j → p i = true
  | 0, n, h => ⟨n, Nat.le_refl _, Nat.le_refl _, h, fun i h1 h2 => by omega⟩
  | d + 1, n, h => by
    cases hp : p n with
    | false => exact ⟨n, Nat.le_refl _, by omega, hp, fun i h1 h2 => by omega⟩
    | true =>
      obtain ⟨j, h1, h2, h3, h4⟩ := first_in p d (n + 1) (by rw [show n + 1 + d = n + (d + 1) by omega]; exact h)
      exact ⟨j, by omega, by omega, h3, fun i h5 h6 => by
        rcases Nat.eq_or_lt_of_le h5 with rfl | h7
        · exact hp
        · exact h4 i (by omega) h6⟩
theorem below_not_lt (l : List S31) (col : Int) (n m : Nat) (hn : BelowIs l col n) (hm : BelowIs l col m) : ¬ n < m := by
  intro h
  have h1 := hm.2.2.1 (by omega)
  obtain ⟨j, h2, h3, h4, h5⟩ := first_in (fun i => emptyU (rd_T31 l (i : Int))) (m - 1 - n) n (by rw [show n + (m - 1 - n) = m - 1 by omega]; exact h1)
  have h6 := hn.2.2.2 j h2 (by have := hm.1; omega) h4 h5
  rcases hm.2.1 j (by omega) with h7 | h7
  · rw [h7] at h4; cases h4
  · omega
theorem below_same (l : List S31) (col : Int) (n m : Nat) (hn : BelowIs l col n) (hm : BelowIs l col m) : n = m := by
  have h1 := below_not_lt l col n m hn hm
  have h2 := below_not_lt l col m n hm hn
  omega
theorem belowU_is (l : List S31) (col : Int) : BelowIs l col (belowU l col) :=
  ⟨belowU_le l col, belowU_before l col, belowU_last l col, fun j h1 h2 h3 h4 => belowU_after l col j h1 h2 h3 h4⟩
theorem refBelow_l0 (l : List S31) (col : Int) (hl : l.length ≤ 4398046510976) : ∀ (d i n : Nat) (k : Nat), i + d = l.length → 2 * d + 2 ≤ k → n ≤ i →
    (∀ j, j < i → emptyU (rd_T31 l j) = true ∨ col < (rd_T31 l j).f0) → (0 < n → emptyU (rd_T31 l (n - 1 : Nat)) = false) → (∀ j, n ≤ j → j < i → emptyU (rd_T31 l j) = true) →
    ∃ m : Nat, grommetref02_Below.l0 k l col (n : Int) (i : Int) = some (m : Int) ∧ BelowIs l col m
  | 0, i, n, k, hi, hk, hn, h1, h2, h3 => by
    obtain ⟨k, rfl⟩ : ∃ k', k = k' + 1 + 1 := ⟨k - 2, by omega⟩
    refine ⟨n, ?_, by omega, fun j hj => h1 j (by omega), h2, fun j h4 h5 h6 _ => ?_⟩
    · simp only [grommetref02_Below.l0]
      rw [if_neg (by omega)]
      simp only [grommetref02_Below.j1]
      rw [if_neg (by decide)]
    · rw [h3 j h4 (by omega)] at h6; cases h6
  | d + 1, i, n, k, hi, hk, hn, h1, h2, h3 => by
    obtain ⟨k, rfl⟩ : ∃ k', k = k' + 1 + 1 := ⟨k - 2, by omega⟩
    have hlt : i < l.length := by omega
    have hw : wrap64 ((i : Int) + 1) = ((i + 1 : Nat) : Int) := by rw [show ((i : Int) + 1) = ((i + 1 : Nat) : Int) by omega]; exact wrap_nat _ (by omega)
    simp only [grommetref02_Below.l0]
    rw [if_pos (by omega), if_pos (by omega), empty_f]
    simp only [Option.bind_some]
    cases he : emptyU (rd_T31 l i) with
    | true =>
      rw [if_pos rfl]
      simp only [grommetref02_Below.j1]
      rw [if_pos trivial, if_pos (by omega), if_pos (by omega), empty_f]
      simp only [Option.bind_some]
      rw [he, if_pos rfl, hw]
      exact refBelow_l0 l col hl d (i + 1) n k (by omega) (by omega) (by omega) (fun j hj => by
        rcases Nat.lt_succ_iff_lt_or_eq.1 hj with h4 | rfl
        · exact h1 j h4
        · exact .inl he) h2 (fun j h4 h5 => by
        rcases Nat.lt_succ_iff_lt_or_eq.1 h5 with h6 | rfl
        · exact h3 j h4 h6
        · exact he)
    | false =>
      rw [if_neg (by decide)]
      simp only [grommetref02_Below.j1]
      by_cases hc : col < (rd_T31 l i).f0
      · rw [if_pos (by exact decide_eq_true hc), if_pos (by omega), if_pos (by omega), empty_f]
        simp only [Option.bind_some]
        rw [he, if_neg (by decide), hw]
        exact refBelow_l0 l col hl d (i + 1) (i + 1) k (by omega) (by omega) (by omega) (fun j hj => by
          rcases Nat.lt_succ_iff_lt_or_eq.1 hj with h4 | rfl
          · exact h1 j h4
          · exact .inr hc) (fun _ => by rw [Nat.add_sub_cancel]; exact he) (fun j h4 h5 => by omega)
      · have hc' : ¬ (decide ((rd_T31 l i).f0 > col) = true) := fun e => hc (of_decide_eq_true e)
        rw [if_neg hc']
        refine ⟨n, rfl, by omega, fun j hj => h1 j (by omega), h2, fun j h4 h5 h6 h7 => ?_⟩
        rcases Nat.lt_trichotomy j i with h8 | rfl | h8
        · rw [h3 j h4 h8] at h6; cases h6
        · omega
        · rw [h7 i (by omega) h8] at he; cases he
theorem refBelow (l : List S31) (col : Int) (hl : l.length ≤ 4398046510976) (k : Nat) (hk : 2 * l.length + 2 ≤ k) : grommetref02_Below.f k l col = some ((belowU l col : Nat) : Int) := by
  obtain ⟨m, h1, h2⟩ := refBelow_l0 l col hl l.length 0 0 k (by omega) hk (Nat.le_refl _) (fun j hj => by omega) (fun h => by omega) (fun j _ hj => by omega)
  have e := below_same l col m (belowU l col) h2 (belowU_is l col)
  subst e
  exact h1

/-! ### Same -/
def sameFrom (l m : List S31) : Nat → Nat → Bool
  | 0, _ => true
  | d + 1, i => if (!(((rd_T31 l (i : Int)).f0) == ((rd_T31 m (i : Int)).f0)) || (!((((rd_T31 l (i : Int)).f1).toList) == (((rd_T31 m (i : Int)).f1).toList)) || (!(((rd_T31 l (i : Int)).f2) == ((rd_T31 m (i : Int)).f2))))) = true then false else sameFrom l m d (i + 1)
theorem refSame_l0 (l m : List S31) (hl : l.length ≤ 4398046510976) (he : l.length = m.length) : ∀ d i, i + d = l.length → ∀ k, d + 1 ≤ k → grommetref02_Same.l0 k l m (i : Int) = some (sameFrom l m d i)
  | 0, i, hi, k, hk => by
    obtain ⟨k, rfl⟩ : ∃ k', k = k' + 1 := ⟨k - 1, by omega⟩
    simp only [grommetref02_Same.l0]
    rw [if_neg (by omega)]
    rfl
  | d + 1, i, hi, k, hk => by
    obtain ⟨k, rfl⟩ : ∃ k', k = k' + 1 := ⟨k - 1, by omega⟩
    simp only [grommetref02_Same.l0, sameFrom]
    rw [if_pos (by omega), if_pos (by omega), if_pos (by omega), show ((i : Int) + 1) = ((i + 1 : Nat) : Int) by omega, wrap_nat _ (by omega), refSame_l0 l m hl he d (i + 1) (by omega) k (by omega)]
    split <;> rfl
theorem ourSame_l0 (l m : List S31) (hl : l.length ≤ 4398046510976) (he : l.length = m.length) : ∀ d i, i + d = l.length → ∀ k, d + 1 ≤ k → api_Row.l0 k l m (l.length : Int) (i : Int) = some (sameFrom l m d i)
  | 0, i, hi, k, hk => by
    obtain ⟨k, rfl⟩ : ∃ k', k = k' + 1 := ⟨k - 1, by omega⟩
    simp only [api_Row.l0]
    rw [if_neg (by omega)]
    rfl
  | d + 1, i, hi, k, hk => by
    obtain ⟨k, rfl⟩ : ∃ k', k = k' + 1 := ⟨k - 1, by omega⟩
    simp only [api_Row.l0, sameFrom]
    rw [if_pos (by omega), if_pos (by omega), if_pos (by omega), if_pos (by omega), show ((i : Int) + 1) = ((i + 1 : Nat) : Int) by omega, wrap_nat _ (by omega), ourSame_l0 l m hl he d (i + 1) (by omega) k (by omega)]
    split <;> rfl
def sameU (l m : List S31) : Bool := if l.length = m.length then sameFrom l m l.length 0 else false
theorem refSame (l m : List S31) (hl : l.length ≤ 4398046510976) (k : Nat) (hk : l.length + 1 ≤ k) : grommetref02_Same.f k l m = some (sameU l m) := by
  unfold grommetref02_Same.f sameU
  by_cases h : l.length = m.length
  · have e : grommetref02_Same.l0 k l m 0 = some (sameFrom l m l.length 0) := refSame_l0 l m hl h l.length 0 (by omega) k hk
    rw [if_pos (by omega), if_pos h, e]
  · rw [if_neg (by omega), if_neg h]
theorem ourSame (l m : List S31) (hl : l.length ≤ 4398046510976) (k : Nat) (hk : l.length + 1 ≤ k) : rows_Same.f k l m = some (sameU l m) := by
  unfold rows_Same.f api_Row.f sameU
  by_cases h : l.length = m.length
  · have e : api_Row.l0 k l m (l.length : Int) 0 = some (sameFrom l m l.length 0) := ourSame_l0 l m hl h l.length 0 (by omega) k hk
    rw [if_pos (by omega), if_pos h, e]
    rfl
  · rw [if_neg (by omega), if_neg h]
    rfl
theorem sameU_self (l : List S31) : sameU l l = true := by
  have h : ∀ d i, sameFrom l l d i = true := by
    intro d
    induction d with
    | zero => intro i; rfl
    | succ d ih => intro i; simp only [sameFrom]; rw [if_neg (by simp)]; exact ih (i + 1)
  unfold sameU
  rw [if_pos rfl]
  exact h _ _

/-! ### Wide -/
theorem wide_l0 (l : List S31) (hl : l.length ≤ 4398046510976) : ∀ d i, i + d = l.length → ∀ k, d + 1 ≤ k → ∃ b, grommetlaw02_wide.l0 k l l (l.length : Int) (i : Int) = some b
  | 0, i, hi, k, hk => by
    obtain ⟨k, rfl⟩ : ∃ k', k = k' + 1 := ⟨k - 1, by omega⟩
    simp only [grommetlaw02_wide.l0]
    rw [if_neg (by omega)]
    exact ⟨_, rfl⟩
  | d + 1, i, hi, k, hk => by
    obtain ⟨k, rfl⟩ : ∃ k', k = k' + 1 := ⟨k - 1, by omega⟩
    simp only [grommetlaw02_wide.l0]
    rw [if_pos (by omega), if_pos (by omega), if_pos (by omega), show ((i : Int) + 1) = ((i + 1 : Nat) : Int) by omega, wrap_nat _ (by omega)]
    split
    · exact ⟨_, rfl⟩
    · exact wide_l0 l hl d (i + 1) (by omega) k (by omega)
theorem wide_f (l : List S31) (hl : l.length ≤ 4398046510976) (k : Nat) (hk : l.length + 1 ≤ k) : ∃ b, grommetlaw02_wide.f k l = some b :=
  wide_l0 l hl l.length 0 (by omega) k hk

theorem rowsWrites_pure (l m : List S31) (col : Int) (hl : l.length ≤ 4398046510976) (hw : (writeU l).length < 140737488355328) : grommetlaw02_RowsWrites.f (l.length * 65539 + 100) l m col = some true := by
  unfold grommetlaw02_RowsWrites.f
  obtain ⟨b, hb⟩ := wide_f l hl (l.length * 65539 + 100) (by omega)
  have ha := alive_all (l.length * 65539 + 100) (by omega)
  rw [hb]
  simp only [Option.bind_some]
  cases b with
  | true =>
    rw [if_pos rfl, ha]
    rfl
  | false =>
    rw [if_neg (by decide)]
    obtain ⟨r, h1, h2⟩ := refWrite l hl hw (l.length * 65539 + 100) (by omega)
    unfold rows_Write.f rows_Below.f
    rw [if_pos (Nat.le_of_lt hw), if_pos (by omega), h1, refBelow l col hl _ (by omega), ourSame l m hl _ (by omega), refSame l m hl _ (by omega), ourSame l l hl _ (by omega), sameU_self, ha]
    simp only [Option.bind_some]
    rw [if_pos (by rw [h2, ByteArray.toList_eq]), if_pos trivial, if_pos (by simp), if_pos trivial]
end Go.Proofs.YtgonkdfednoclaaDoor.PRows
