/- The plain law of RowsBack. -/
import Derived.Test.YtgonkdfednoclaaDoorPRowsx7
import Derived.Test.YtgonkdfednoclaaDoorPureRead
namespace Go.Proofs.YtgonkdfednoclaaDoor.PRows
open Go.RowKit Go.Proofs.YtgonkdfednoclaaDoorW.PrintWords

def rowsL : List (List UInt8) → Nat → List S31
  | [], _ => []
  | x :: ls, i => rowL i x :: rowsL ls (i + 1)
theorem rowsL_length : ∀ (ls : List (List UInt8)) (i : Nat), (rowsL ls i).length = ls.length
  | [], _ => rfl
  | x :: ls, i => by simp only [rowsL, List.length_cons]; rw [rowsL_length ls (i + 1)]
def goodL (x : List UInt8) : Prop := ¬ badL x ∧ ¬ tabL x
theorem goL_good : ∀ (ls : List (List UInt8)) (i : Nat) (acc : List S31), (∀ x ∈ ls, goodL x) → goL ls i acc = (acc ++ rowsL ls i, 0, 0)
  | [], _, acc, _ => by simp [goL, rowsL]
  | x :: ls, i, acc, h => by
    obtain ⟨h1, h2⟩ := h x List.mem_cons_self
    simp only [goL, rowsL]
    rw [if_neg h1, if_neg h2, goL_good ls (i + 1) _ (fun y hy => h y (List.mem_cons_of_mem _ hy))]
    simp
theorem goL_bad : ∀ (ls : List (List UInt8)) (i : Nat) (acc : List S31), ¬ (∀ x ∈ ls, goodL x) → (goL ls i acc).1 = [] ∧ (goL ls i acc).2.1 ≠ 0
  | [], _, _, h => absurd (fun x hx => by cases hx) h
  | x :: ls, i, acc, h => by
    simp only [goL]
    by_cases h1 : badL x
    · rw [if_pos h1]; exact ⟨rfl, fun h_ => absurd h_ (by decide : ¬ (8 : Int) = 0)⟩
    · rw [if_neg h1]
      by_cases h2 : tabL x
      · rw [if_pos h2]; exact ⟨rfl, fun h_ => absurd h_ (by decide : ¬ (9 : Int) = 0)⟩
      · rw [if_neg h2]
        exact goL_bad ls (i + 1) _ fun hl => h fun y hy => by
          rcases List.mem_cons.1 hy with rfl | hy
          · exact ⟨h1, h2⟩
          · exact hl y hy

theorem strip_mem (x : List UInt8) (c : UInt8) (h : c ∉ x) : c ∉ stripL x := by
  obtain ⟨m, hm⟩ := strip_split x
  intro hc
  rw [hm] at h
  exact h (List.mem_append_left _ hc)
theorem strip_good (x : List UInt8) (h : goodL x) : goodL (stripL x) := by
  obtain ⟨h1, h2⟩ := h
  have hb : okB x ∧ (13 : UInt8) ∉ x := by
    by_cases h3 : okB x
    · exact ⟨h3, fun e => h1 (.inr e)⟩
    · exact absurd (Or.inl h3) h1
  obtain ⟨m, hm⟩ := strip_split x
  refine ⟨fun e => e.elim (fun e => e (okB_pad (stripL x) m (hm ▸ hb.1))) (strip_mem x 13 hb.2), fun e => h2 ?_⟩
  unfold tabL at e ⊢
  rw [text_strip] at e
  exact e
theorem row_strip (i : Nat) (x : List UInt8) : rowL i (stripL x) = rowL i x := by
  unfold rowL
  rw [col_strip, text_strip]
theorem rows_strip : ∀ (ls : List (List UInt8)) (i : Nat), rowsL (ls.map stripL) i = rowsL ls i
  | [], _ => rfl
  | x :: ls, i => by
    simp only [List.map_cons, rowsL]
    rw [row_strip, rows_strip ls (i + 1)]
theorem write_rows : ∀ (ls : List (List UInt8)) (i : Nat), (∀ x ∈ ls, x.length ≤ 65536) → writeU (rowsL ls i) = (ls.map stripL).flatMap (· ++ [10])
  | [], _, _ => rfl
  | x :: ls, i, h => by
    have hx := h x List.mem_cons_self
    have hc := col_le x
    have ih := write_rows ls (i + 1) (fun y hy => h y (List.mem_cons_of_mem _ hy))
    have e : lineU (rowL i x) = stripL x ++ [10] := by
      unfold lineU rowL stripL
      dsimp only
      rw [show (min (max ((colL x : Nat) : Int) 0) 65536).toNat = colL x by omega, mk_toList]
    unfold writeU at ih ⊢
    simp only [rowsL, List.map_cons, List.flatMap_cons]
    rw [ih, e]
theorem flat_bound (n : Nat) : ∀ (B : List (List UInt8)), (∀ b ∈ B, b.length ≤ n) → (B.flatMap (· ++ [10])).length ≤ B.length * (n + 1)
  | [], _ => by simp
  | b :: B, h => by
    have h1 := h b List.mem_cons_self
    have h2 := flat_bound n B (fun c hc => h c (List.mem_cons_of_mem _ hc))
    simp only [List.flatMap_cons, List.length_append, List.length_cons, List.length_nil, Nat.add_mul]
    omega
theorem same_self_l0 (l : List S31) (hl : l.length ≤ 4398046510976) : ∀ d i, i + d = l.length → ∀ k, d + 1 ≤ k → grommetref02_Same.l0 k l l (i : Int) = some true
  | 0, i, hi, k, hk => by
    obtain ⟨k, rfl⟩ : ∃ k', k = k' + 1 := ⟨k - 1, by omega⟩
    simp only [grommetref02_Same.l0]
    rw [if_neg (by omega)]
  | d + 1, i, hi, k, hk => by
    obtain ⟨k, rfl⟩ : ∃ k', k = k' + 1 := ⟨k - 1, by omega⟩
    simp only [grommetref02_Same.l0]
    rw [if_pos (by omega), if_pos (by omega), if_pos (by omega), if_neg (by simp), show ((i : Int) + 1) = ((i + 1 : Nat) : Int) by omega, wrap_small _ (by omega)]
    exact same_self_l0 l hl d (i + 1) (by omega) k (by omega)
theorem same_self (l : List S31) (hl : l.length ≤ 4398046510976) (k : Nat) (hk : l.length + 1 ≤ k) : grommetref02_Same.f k l l = some true := by
  unfold grommetref02_Same.f
  rw [if_pos rfl]
  exact same_self_l0 l hl l.length 0 (by omega) k hk

theorem rowsBack_pure (s : ByteArray) : grommetlaw02_RowsBack.f 200000 s = some true := by
  unfold grommetlaw02_RowsBack.f
  rw [read_f s 200000 (by decide)]
  simp only [Option.bind_some]
  unfold readL
  by_cases hs : 65536 < s.data.toList.length
  · rw [if_pos hs, if_pos (by decide), if_pos (by rfl), alive_some _ (by decide)]
    rfl
  · rw [if_neg hs]
    by_cases hg : ∀ x ∈ linesL s.data.toList, goodL x
    · rw [goL_good _ 0 [] hg, List.nil_append]
      dsimp only
      rw [if_neg (by decide)]
      have hsz : ∀ x ∈ linesL s.data.toList, x.length ≤ 65536 := fun x hx => Nat.le_trans (linesL_size _ x hx) (by omega)
      have hlen := linesL_length s.data.toList
      have hw := write_rows (linesL s.data.toList) 0 hsz
      have hb : ((linesL s.data.toList).map stripL).length = (linesL s.data.toList).length := List.length_map _
      have hfl := flat_bound 65536 ((linesL s.data.toList).map stripL) (fun b hb => by
        obtain ⟨x, hx, rfl⟩ := List.mem_map.1 hb
        obtain ⟨m, hm⟩ := strip_split x
        have h1 := congrArg List.length hm
        have h2 := hsz x hx
        rw [List.length_append] at h1
        omega)
      rw [hb] at hfl
      have hlin : linesL (writeU (rowsL (linesL s.data.toList) 0)) = (linesL s.data.toList).map stripL := by
        rw [hw]
        refine linesL_whole _ (fun b hb => ?_) (fun b hb => ?_)
        · obtain ⟨x, hx, rfl⟩ := List.mem_map.1 hb
          exact strip_mem x 10 (linesL_clean _ x hx)
        · obtain ⟨x, hx, rfl⟩ := List.mem_map.1 hb
          exact strip_mem x 13 (fun e => (hg x hx).1 (.inr e))
      have hwl : (writeU (rowsL (linesL s.data.toList) 0)).length ≤ 140737488355328 := by
        rw [hw]
        have : (linesL s.data.toList).length * (65536 + 1) ≤ 65536 * (65536 + 1) := Nat.mul_le_mul_right _ (by omega)
        omega
      unfold rows_Write.f
      rw [if_pos hwl]
      simp only [Option.bind_some]
      rw [read_f _ 200000 (by decide)]
      simp only [Option.bind_some]
      rw [show (⟨(writeU (rowsL (linesL s.data.toList) 0)).toArray⟩ : ByteArray) = mk (writeU (rowsL (linesL s.data.toList) 0)) from rfl, mk_size]
      unfold readL
      by_cases ht : 65536 < (writeU (rowsL (linesL s.data.toList) 0)).length
      · rw [if_pos ht, if_pos (by decide), if_pos (by omega), alive_some _ (by decide)]
        rfl
      · rw [if_neg ht, hlin, goL_good _ 0 [] (fun y hy => by
          obtain ⟨x, hx, rfl⟩ := List.mem_map.1 hy
          exact strip_good x (hg x hx)), List.nil_append, rows_strip]
        dsimp only
        rw [if_neg (by decide), same_self _ (by rw [rowsL_length]; omega) _ (by rw [rowsL_length]; omega)]
        simp only [Option.bind_some]
        rw [if_pos trivial, alive_some _ (by decide)]
        rfl
    · obtain ⟨h1, h2⟩ := goL_bad (linesL s.data.toList) 0 [] hg
      rw [if_pos (by
        have : ((goL (linesL s.data.toList) 0 []).2.1 == 0) = false := beq_eq_false_iff_ne.mpr h2
        rw [this]; rfl), h1, if_pos (by rfl), alive_some _ (by decide)]
      rfl
end Go.Proofs.YtgonkdfednoclaaDoor.PRows
