/- The lines of a text, as lists of bytes; what a text of whole lines has for lines. -/
import Derived.Test.YtgonkdfednoclaaDoorExtC
import Derived.Lib.IndexLaws
namespace Go.Proofs.YtgonkdfednoclaaDoor.PRows
open Go.RowKit

def mk (l : List UInt8) : ByteArray := ⟨l.toArray⟩
theorem mk_toList (l : List UInt8) : (mk l).data.toList = l := rfl
theorem mk_of (s : ByteArray) : mk s.data.toList = s := rfl
theorem mk_size (l : List UInt8) : (mk l).size = l.length := by
  show l.toArray.size = l.length
  simp
theorem size_len (s : ByteArray) : s.size = s.data.toList.length := by rw [← mk_size, mk_of]
theorem extract_mk (s : ByteArray) (a b : Nat) : s.extract a b = mk ((s.data.toList.drop a).take (b - a)) := by
  obtain ⟨⟨l⟩⟩ := s
  rw [ByteArray.extract_mk]
  simp [mk]

def rawL : Nat → List UInt8 → List (List UInt8)
  | 0, _ => []
  | k + 1, l => if l = [] then [] else if 0 ≤ Lib.indexByte l 10 then l.take ((Lib.indexByte l 10).toNat + 1) :: rawL k (l.drop ((Lib.indexByte l 10).toNat + 1)) else [l]
theorem rawLines_eq : ∀ k s, rawLines k s = (rawL k s.data.toList).map mk
  | 0, _ => rfl
  | k + 1, s => by
    simp only [rawLines, rawL]
    by_cases h : s.data.toList = []
    · rw [if_pos h, if_neg (by rw [size_len, h]; exact Nat.lt_irrefl 0)]
      rfl
    · rw [if_neg h, if_pos (by rw [size_len]; exact List.length_pos_iff.2 h)]
      by_cases hi : 0 ≤ Lib.indexByte s.data.toList 10
      · rw [if_pos hi, if_pos hi, List.map_cons, rawLines_eq k]
        congr 1
        · rw [extract_mk, List.drop_zero, Nat.sub_zero]
        · rw [extract_mk, mk_toList, List.take_of_length_le (by rw [List.length_drop, size_len]; exact Nat.le_refl _)]
      · rw [if_neg hi, if_neg hi]
        rfl

theorem index_first (b rest : List UInt8) (h : (10 : UInt8) ∉ b) : Lib.indexByte (b ++ 10 :: rest) 10 = (b.length : Int) := by
  induction b with
  | nil => simp [Lib.indexByte]
  | cons x b ih =>
    have h1 : x ≠ 10 := fun e => h (e ▸ List.mem_cons_self)
    have ih := ih (fun hm => h (List.mem_cons_of_mem _ hm))
    rw [List.cons_append]
    unfold Lib.indexByte
    rw [ih, if_neg (by simpa using h1), if_neg (by simp), List.length_cons]
    omega
theorem index_miss (l : List UInt8) (h : (10 : UInt8) ∉ l) : Lib.indexByte l 10 = -1 := by
  have h1 := Lib.indexByte_ge l 10
  rcases Int.lt_or_le (Lib.indexByte l 10) 0 with h2 | h2
  · omega
  · obtain ⟨o, ho⟩ := Int.eq_ofNat_of_zero_le h2
    exact absurd (List.mem_of_getElem? (Lib.indexByte_some ho).1) h
theorem rawL_line (k : Nat) (b rest : List UInt8) (h : (10 : UInt8) ∉ b) : rawL (k + 1) (b ++ 10 :: rest) = (b ++ [10]) :: rawL k rest := by
  simp only [rawL]
  rw [if_neg (by simp), index_first b rest h, if_pos (by omega), Int.toNat_natCast]
  congr 1
  · rw [show b ++ 10 :: rest = (b ++ [10]) ++ rest by simp, List.take_append_of_le_length (by simp), List.take_of_length_le (by simp)]
  · rw [show b ++ 10 :: rest = (b ++ [10]) ++ rest by simp, List.drop_append_of_le_length (by simp), List.drop_of_length_le (by simp)]
    rfl
theorem rawL_last (k : Nat) (l : List UInt8) (h0 : l ≠ []) (h : (10 : UInt8) ∉ l) : rawL (k + 1) l = [l] := by
  simp only [rawL]
  rw [if_neg h0, index_miss l h, if_neg (by decide)]
theorem rawL_nil (k : Nat) : rawL k [] = [] := by
  cases k <;> simp [rawL]
theorem rawL_fuel : ∀ (k k' : Nat) (l : List UInt8), l.length < k → l.length < k' → rawL k l = rawL k' l
  | 0, _, _, h, _ => absurd h (Nat.not_lt_zero _)
  | _, 0, _, _, h => absurd h (Nat.not_lt_zero _)
  | k + 1, k' + 1, l, h, h' => by
    by_cases hm : (10 : UInt8) ∈ l
    · obtain ⟨b, rest, rfl, hb⟩ := List.eq_append_cons_of_mem hm
      simp only [List.length_append, List.length_cons] at h h'
      rw [rawL_line k b rest hb, rawL_line k' b rest hb, rawL_fuel k k' rest (by omega) (by omega)]
    · by_cases h0 : l = []
      · rw [h0, rawL_nil, rawL_nil]
      · rw [rawL_last k l h0 hm, rawL_last k' l h0 hm]
/-- Whole lines, one behind the other. -/
theorem rawL_whole (B : List (List UInt8)) (hB : ∀ b ∈ B, (10 : UInt8) ∉ b) (rest : List UInt8) : ∀ k, (B.flatMap (· ++ [10]) ++ rest).length < k →
    rawL k (B.flatMap (· ++ [10]) ++ rest) = B.map (· ++ [10]) ++ rawL (rest.length + 1) rest := by
  induction B with
  | nil => intro k hk; exact rawL_fuel _ _ _ hk (Nat.lt_succ_self _)
  | cons b B ih =>
    intro k hk
    obtain ⟨k, rfl⟩ : ∃ k', k = k' + 1 := ⟨k - 1, by omega⟩
    have e : (b :: B).flatMap (· ++ [10]) ++ rest = b ++ 10 :: (B.flatMap (· ++ [10]) ++ rest) := by simp
    rw [e] at hk ⊢
    simp only [List.length_append, List.length_cons] at hk
    rw [rawL_line k b _ (hB b List.mem_cons_self), ih (fun c hc => hB c (List.mem_cons_of_mem _ hc)) k (by simp only [List.length_append]; omega)]
    rfl
/-- A text whose last byte ends a line is whole lines. -/
theorem whole_of : ∀ (n : Nat) (l : List UInt8), l.length ≤ n → ∃ B : List (List UInt8), (∀ b ∈ B, (10 : UInt8) ∉ b) ∧ l ++ [10] = B.flatMap (· ++ [10])
  | 0, l, h => ⟨[[]], by simp, by simp [List.eq_nil_of_length_eq_zero (Nat.le_zero.1 h)]⟩
  | n + 1, l, h => by
    by_cases hm : (10 : UInt8) ∈ l
    · obtain ⟨b, rest, rfl, hb⟩ := List.eq_append_cons_of_mem hm
      simp only [List.length_append, List.length_cons] at h
      obtain ⟨B, hB, hr⟩ := whole_of n rest (by omega)
      refine ⟨b :: B, fun c hc => ?_, ?_⟩
      · rcases List.mem_cons.1 hc with rfl | hc
        · exact hb
        · exact hB c hc
      · rw [List.flatMap_cons, ← hr]
        simp
    · exact ⟨[l], by simpa using hm, by simp⟩
/-- What is cut out is one line, with or without its end. -/
theorem rawL_clean : ∀ (k : Nat) (l x : List UInt8), x ∈ rawL k l → (∃ b, x = b ++ [10] ∧ (10 : UInt8) ∉ b) ∨ (10 : UInt8) ∉ x
  | 0, _, _, h => by simp [rawL] at h
  | k + 1, l, x, h => by
    by_cases hm : (10 : UInt8) ∈ l
    · obtain ⟨b, rest, rfl, hb⟩ := List.eq_append_cons_of_mem hm
      rw [rawL_line k b rest hb] at h
      rcases List.mem_cons.1 h with rfl | h
      · exact .inl ⟨b, rfl, hb⟩
      · exact rawL_clean k rest x h
    · by_cases h0 : l = []
      · rw [h0, rawL_nil] at h; cases h
      · rw [rawL_last k l h0 hm] at h
        rw [List.mem_singleton] at h
        exact .inr (h ▸ hm)
theorem rawL_length : ∀ (k : Nat) (l : List UInt8), (rawL k l).length ≤ l.length
  | 0, _ => Nat.zero_le _
  | k + 1, l => by
    by_cases hm : (10 : UInt8) ∈ l
    · obtain ⟨b, rest, rfl, hb⟩ := List.eq_append_cons_of_mem hm
      rw [rawL_line k b rest hb]
      have := rawL_length k rest
      simp only [List.length_append, List.length_cons]
      omega
    · by_cases h0 : l = []
      · rw [h0, rawL_nil]; exact Nat.le_refl _
      · rw [rawL_last k l h0 hm]
        exact List.length_pos_iff.2 h0
theorem rawL_size : ∀ (k : Nat) (l x : List UInt8), x ∈ rawL k l → x.length ≤ l.length
  | 0, _, _, h => by simp [rawL] at h
  | k + 1, l, x, h => by
    by_cases hm : (10 : UInt8) ∈ l
    · obtain ⟨b, rest, rfl, hb⟩ := List.eq_append_cons_of_mem hm
      rw [rawL_line k b rest hb] at h
      simp only [List.length_append, List.length_cons]
      rcases List.mem_cons.1 h with rfl | h
      · simp only [List.length_append, List.length_singleton]; omega
      · have := rawL_size k rest x h; omega
    · by_cases h0 : l = []
      · rw [h0, rawL_nil] at h; cases h
      · rw [rawL_last k l h0 hm, List.mem_singleton] at h
        rw [h]; exact Nat.le_refl _

def lineL (x : List UInt8) : List UInt8 := if Lib.hasSuffix x [10] = true then Lib.trimSuffix (Lib.trimSuffix x [10]) [13] else x
theorem lineOf_mk (x : List UInt8) : lineOf (mk x) = mk (lineL x) := by
  unfold lineOf lineL
  rw [mk_toList]
  split <;> rfl
theorem suffix_one (x : List UInt8) (c : UInt8) : Lib.hasSuffix x [c] = true ↔ ∃ b, x = b ++ [c] := by
  unfold Lib.hasSuffix
  rw [List.isSuffixOf_iff_suffix]
  exact ⟨fun ⟨b, h⟩ => ⟨b, h.symm⟩, fun ⟨b, h⟩ => ⟨b, h.symm⟩⟩
theorem trim_one (b : List UInt8) (c : UInt8) : Lib.trimSuffix (b ++ [c]) [c] = b := by
  unfold Lib.trimSuffix
  rw [if_pos ((suffix_one _ _).2 ⟨b, rfl⟩)]
  simp
theorem trim_none (b : List UInt8) (c : UInt8) (h : c ∉ b) : Lib.trimSuffix b [c] = b := by
  unfold Lib.trimSuffix
  rw [if_neg fun e => by obtain ⟨d, rfl⟩ := (suffix_one _ _).1 e; exact h (by simp)]
theorem trim_prefix (b : List UInt8) (c : UInt8) : ∃ t, b = Lib.trimSuffix b [c] ++ t := by
  unfold Lib.trimSuffix
  split
  · exact ⟨_, (List.take_append_drop _ _).symm⟩
  · exact ⟨[], by simp⟩
theorem lineL_end (b : List UInt8) (h : (13 : UInt8) ∉ b) : lineL (b ++ [10]) = b := by
  unfold lineL
  rw [if_pos ((suffix_one _ _).2 ⟨b, rfl⟩), trim_one, trim_none b 13 h]
theorem lineL_clean (x : List UInt8) (h : (∃ b, x = b ++ [10] ∧ (10 : UInt8) ∉ b) ∨ (10 : UInt8) ∉ x) : (10 : UInt8) ∉ lineL x := by
  rcases h with ⟨b, rfl, hb⟩ | h
  · unfold lineL
    rw [if_pos ((suffix_one _ _).2 ⟨b, rfl⟩), trim_one]
    obtain ⟨t, ht⟩ := trim_prefix b 13
    intro hm
    rw [ht] at hb
    exact hb (List.mem_append_left _ hm)
  · unfold lineL
    rw [if_neg fun e => by obtain ⟨d, rfl⟩ := (suffix_one _ _).1 e; exact h (by simp)]
    exact h
theorem lineL_size (x : List UInt8) : (lineL x).length ≤ x.length := by
  unfold lineL
  split
  · obtain ⟨t, ht⟩ := trim_prefix x 10
    obtain ⟨u, hu⟩ := trim_prefix (Lib.trimSuffix x [10]) 13
    have h1 := congrArg List.length ht
    have h2 := congrArg List.length hu
    rw [List.length_append] at h1 h2
    omega
  · exact Nat.le_refl _

def linesL (l : List UInt8) : List (List UInt8) := (rawL (l.length + 1) l).map lineL
theorem linesU_eq (s : ByteArray) : linesU s = (linesL s.data.toList).map mk := by
  unfold linesU linesL
  rw [rawLines_eq, size_len, List.map_map, List.map_map]
  exact List.map_congr_left fun x _ => lineOf_mk x
theorem linesL_clean (l x : List UInt8) (h : x ∈ linesL l) : (10 : UInt8) ∉ x := by
  obtain ⟨y, hy, rfl⟩ := List.mem_map.1 h
  exact lineL_clean y (rawL_clean _ _ _ hy)
theorem linesL_length (l : List UInt8) : (linesL l).length ≤ l.length := by
  unfold linesL
  rw [List.length_map]
  exact rawL_length _ _
theorem linesL_size (l x : List UInt8) (h : x ∈ linesL l) : x.length ≤ l.length := by
  obtain ⟨y, hy, rfl⟩ := List.mem_map.1 h
  exact Nat.le_trans (lineL_size y) (rawL_size _ _ _ hy)
/-- Whole lines without a carriage return are told as they are. -/
theorem linesL_whole (B : List (List UInt8)) (hB : ∀ b ∈ B, (10 : UInt8) ∉ b) (h13 : ∀ b ∈ B, (13 : UInt8) ∉ b) : linesL (B.flatMap (· ++ [10])) = B := by
  unfold linesL
  have h := rawL_whole B hB [] ((B.flatMap (· ++ [10])).length + 1) (by simp)
  rw [List.append_nil] at h
  rw [h, rawL_nil, List.append_nil, List.map_map]
  conv => rhs; rw [← List.map_id B]
  exact List.map_congr_left fun b hb => lineL_end b (h13 b hb)
/-- Behind a whole line the lines go on. -/
theorem linesL_append (a b : List UInt8) : linesL ((a ++ [10]) ++ b) = linesL (a ++ [10]) ++ linesL b := by
  obtain ⟨B, hB, h⟩ := whole_of a.length a (Nat.le_refl _)
  unfold linesL
  rw [h, rawL_whole B hB b _ (Nat.lt_succ_self _)]
  have h2 := rawL_whole B hB [] ((B.flatMap (· ++ [10])).length + 1) (by simp)
  rw [List.append_nil] at h2
  rw [h2, rawL_nil, List.append_nil, List.map_append]
end Go.Proofs.YtgonkdfednoclaaDoor.PRows
