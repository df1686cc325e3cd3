/- rows.Read, told plainly; a line without the spaces at its end is read as the line. -/
import Derived.Test.YtgonkdfednoclaaDoorPRowsx4
import Derived.Test.YtgonkdfednoclaaDoorPureLines
namespace Go.Proofs.YtgonkdfednoclaaDoor.PRows
open Go.RowKit Go.Proofs.YtgonkdfednoclaaDoorW.PrintWords

theorem alive_some (k : Nat) (h : 40 ≤ k) : grommetlaw02_alive.f k = some true :=
  at_rounds (g := grommetlaw02_alive.f) (fun k => grommetlaw02_alive.mono k) h (by kernel_rfl)
theorem wrap_small (n : Nat) (h : n ≤ 9223372036854775807) : wrap64 (n : Int) = n := by
  unfold wrap64
  omega

/-! ### Spaces -/
theorem left_split (l : List UInt8) : ∃ n, l = List.replicate n 32 ++ Lib.trimLeftS l [32] ∧ ∀ y t, Lib.trimLeftS l [32] = y :: t → y ≠ 32 := by
  unfold Lib.trimLeftS
  induction l with
  | nil => exact ⟨0, rfl, fun y t h => by simp at h⟩
  | cons x l ih =>
    by_cases hx : x = 32
    · subst hx
      obtain ⟨n, h1, h2⟩ := ih
      refine ⟨n + 1, ?_, ?_⟩
      · rw [List.dropWhile_cons_of_pos (by rfl), List.replicate_succ, List.cons_append, ← h1]
      · rw [List.dropWhile_cons_of_pos (by rfl)]; exact h2
    · refine ⟨0, ?_, ?_⟩
      · rw [List.dropWhile_cons_of_neg (by simpa using hx)]; rfl
      · rw [List.dropWhile_cons_of_neg (by simpa using hx)]
        intro y t h
        obtain ⟨rfl, _⟩ := List.cons.inj h
        exact hx
theorem left_eq (n : Nat) (r : List UInt8) (h : ∀ y t, r = y :: t → y ≠ 32) : Lib.trimLeftS (List.replicate n 32 ++ r) [32] = r := by
  unfold Lib.trimLeftS
  induction n with
  | zero =>
    cases r with
    | nil => rfl
    | cons y t => exact List.dropWhile_cons_of_neg (by simpa using h y t rfl)
  | succ n ih => rw [List.replicate_succ, List.cons_append, List.dropWhile_cons_of_pos (by rfl)]; exact ih
theorem right_rev (l : List UInt8) : Lib.trimRightS l [32] = (Lib.trimLeftS l.reverse [32]).reverse := rfl
theorem right_split (l : List UInt8) : ∃ n, l = Lib.trimRightS l [32] ++ List.replicate n 32 ∧ ∀ y t, Lib.trimRightS l [32] = t ++ [y] → y ≠ 32 := by
  obtain ⟨n, h1, h2⟩ := left_split l.reverse
  refine ⟨n, ?_, fun y t h => ?_⟩
  · have := congrArg List.reverse h1
    rw [List.reverse_reverse, List.reverse_append, List.reverse_replicate] at this
    exact this
  · rw [right_rev] at h
    have := congrArg List.reverse h
    rw [List.reverse_reverse, List.reverse_append] at this
    exact h2 y t.reverse this
theorem right_eq (n : Nat) (r : List UInt8) (h : ∀ y t, r = t ++ [y] → y ≠ 32) : Lib.trimRightS (r ++ List.replicate n 32) [32] = r := by
  rw [right_rev, List.reverse_append, List.reverse_replicate, left_eq n r.reverse (fun y t e => h y t.reverse (by
    have := congrArg List.reverse e
    rw [List.reverse_reverse] at this
    simpa using this)), List.reverse_reverse]

def cutL (l : List UInt8) : List UInt8 := Lib.trimLeftS l [32]
def textL (l : List UInt8) : List UInt8 := Lib.trimRightS (cutL l) [32]
def colL (l : List UInt8) : Nat := l.length - (cutL l).length
theorem col_split (l : List UInt8) : l = List.replicate (colL l) 32 ++ cutL l ∧ ∀ y t, cutL l = y :: t → y ≠ 32 := by
  obtain ⟨n, h1, h2⟩ := left_split l
  have h3 := congrArg List.length h1
  rw [List.length_append, List.length_replicate] at h3
  have h4 : colL l = n := by unfold colL cutL; omega
  rw [h4]
  exact ⟨h1, h2⟩
theorem text_split (l : List UInt8) : ∃ m, cutL l = textL l ++ List.replicate m 32 ∧ (∀ y t, textL l = t ++ [y] → y ≠ 32) ∧ ∀ y t, textL l = y :: t → y ≠ 32 := by
  obtain ⟨m, h1, h2⟩ := right_split (cutL l)
  refine ⟨m, h1, h2, fun y t h => ?_⟩
  have h1' : cutL l = textL l ++ List.replicate m 32 := h1
  rw [h, List.cons_append] at h1'
  exact (col_split l).2 y _ h1'
/-- The line without the spaces at its end. -/
def stripL (l : List UInt8) : List UInt8 := List.replicate (colL l) 32 ++ textL l
theorem strip_split (l : List UInt8) : ∃ m, l = stripL l ++ List.replicate m 32 := by
  obtain ⟨h1, _⟩ := col_split l
  obtain ⟨m, h2, _⟩ := text_split l
  refine ⟨m, ?_⟩
  unfold stripL
  rw [List.append_assoc, ← h2]
  exact h1
theorem cut_strip (l : List UInt8) : cutL (stripL l) = textL l := left_eq _ _ (text_split l).choose_spec.2.2
theorem text_strip (l : List UInt8) : textL (stripL l) = textL l := by
  unfold textL
  rw [cut_strip]
  have h := right_eq 0 (textL l) (text_split l).choose_spec.2.1
  simp only [List.replicate_zero, List.append_nil] at h
  exact h
theorem col_strip (l : List UInt8) : colL (stripL l) = colL l := by
  have h : colL (stripL l) = (stripL l).length - (cutL (stripL l)).length := rfl
  rw [h, cut_strip]
  unfold stripL
  rw [List.length_append, List.length_replicate]
  omega
theorem col_le (l : List UInt8) : colL l + (textL l).length ≤ l.length := by
  obtain ⟨m, h⟩ := strip_split l
  have := congrArg List.length h
  unfold stripL at this
  rw [List.length_append, List.length_append, List.length_replicate] at this
  omega

/-! ### A line's signs -/
def okB (l : List UInt8) : Prop := l.length ≤ walkU (mk l) (l.length + 1) 0
instance (l : List UInt8) : Decidable (okB l) := by unfold okB; exact inferInstance
theorem decodeN_cut {n m b0 b1 b2 b3 c1 c2 c3 : Nat} (h1 : (1 < n ∧ b1 / 64 = 2) ↔ (1 < m ∧ c1 / 64 = 2)) (h2 : (2 < n ∧ b2 / 64 = 2) ↔ (2 < m ∧ c2 / 64 = 2)) (h3 : (3 < n ∧ b3 / 64 = 2) ↔ (3 < m ∧ c3 / 64 = 2))
    (e1 : 1 < m → b1 = c1) (e2 : 2 < m → b2 = c2) (e3 : 3 < m → b3 = c3) : Lib.decodeN n b0 b1 b2 b3 = Lib.decodeN m b0 c1 c2 c3 := by
  unfold Lib.decodeN
  simp only [h1, h2, h3]
  split
  · rfl
  · split
    · rename_i h
      rw [e1 h.2.1]
    · split
      · rename_i h
        rw [e1 h.2.1.1, e2 h.2.2.1]
      · split
        · rename_i h
          rw [e1 h.2.1.1, e2 h.2.2.1.1, e3 h.2.2.2.1]
        · rfl
theorem get_mk (l : List UInt8) (j : Nat) : (mk l).get! j = l.getD j 0 := by
  show l.toArray[j]! = _
  rw [List.getElem!_toArray, List.getElem!_eq_getElem?_getD, List.getD_eq_getElem?_getD]
  rfl
theorem decodeGo_mk (l : List UInt8) (h : l ≠ []) : Lib.decodeGo (mk l) = Lib.decodeN l.length (l.getD 0 0).toNat (l.getD 1 0).toNat (l.getD 2 0).toNat (l.getD 3 0).toNat := by
  unfold Lib.decodeGo
  rw [if_neg (by rw [mk_size]; exact fun e => h (List.eq_nil_of_length_eq_zero e)), Lib.decode_at, mk_size, get_mk, get_mk, get_mk, get_mk]
  rfl
/-- Spaces behind a sign turn nothing. -/
theorem decodeGo_pad (l : List UInt8) (h : l ≠ []) (m : Nat) : Lib.decodeGo (mk (l ++ List.replicate m 32)) = Lib.decodeGo (mk l) := by
  have h0 : 0 < l.length := List.length_pos_iff.2 h
  rw [decodeGo_mk _ (by simp [h]), decodeGo_mk l h]
  have hlt : ∀ j, j < l.length → (l ++ List.replicate m 32).getD j 0 = l.getD j 0 := fun j hj => by
    rw [List.getD_eq_getElem?_getD, List.getD_eq_getElem?_getD, List.getElem?_append_left hj]
  have hge : ∀ j, l.length ≤ j → ((l ++ List.replicate m 32).getD j 0).toNat / 64 ≠ 2 := fun j hj => by
    rw [List.getD_eq_getElem?_getD, List.getElem?_append_right hj, List.getElem?_replicate]
    split <;> decide
  have hiff : ∀ j, (j < (l ++ List.replicate m 32).length ∧ ((l ++ List.replicate m 32).getD j 0).toNat / 64 = 2) ↔ (j < l.length ∧ (l.getD j 0).toNat / 64 = 2) := fun j => by
    rcases Nat.lt_or_ge j l.length with hj | hj
    · rw [hlt j hj]
      refine ⟨fun e => ⟨hj, e.2⟩, fun e => ⟨?_, e.2⟩⟩
      rw [List.length_append]
      omega
    · exact ⟨fun e => absurd e.2 (hge j hj), fun e => absurd e.1 (by omega)⟩
  rw [hlt 0 h0]
  exact decodeN_cut (hiff 1) (hiff 2) (hiff 3) (fun e => by rw [hlt 1 e]) (fun e => by rw [hlt 2 e]) (fun e => by rw [hlt 3 e])
theorem ext_drop (l : List UInt8) (a : Nat) : (mk l).extract a (mk l).size = mk (l.drop a) := by
  rw [extract_mk, mk_toList, mk_size, List.take_of_length_le (by rw [List.length_drop]; exact Nat.le_refl _)]
theorem firstU_pad (l : List UInt8) (m a : Nat) (ha : a < l.length) : firstU ((mk (l ++ List.replicate m 32)).extract a (mk (l ++ List.replicate m 32)).size) = firstU ((mk l).extract a (mk l).size) := by
  rw [ext_drop, ext_drop, List.drop_append_of_le_length (Nat.le_of_lt ha)]
  unfold firstU
  rw [decodeGo_pad (l.drop a) (fun e => by have := congrArg List.length e; rw [List.length_drop] at this; simp at this; omega) m]
theorem walkU_pad (l : List UInt8) (m : Nat) : ∀ k a, l.length + m ≤ walkU (mk (l ++ List.replicate m 32)) k a → l.length ≤ walkU (mk l) k a
  | 0, a, h => by simp only [walkU] at h ⊢; omega
  | k + 1, a, h => by
    simp only [walkU] at h ⊢
    by_cases ha : a < l.length
    · have ha' : a < (mk (l ++ List.replicate m 32)).size := by rw [mk_size, List.length_append]; omega
      rw [if_pos ha', firstU_pad l m a ha] at h
      rw [if_pos (by rw [mk_size]; exact ha)]
      split
      · rename_i hp
        rw [if_pos hp] at h
        exact walkU_pad l m k _ h
      · rename_i hp
        rw [if_neg hp] at h
        omega
    · rw [if_neg (by rw [mk_size]; exact ha)]
      omega
theorem walkU_more (s : ByteArray) : ∀ k a, s.size < a + k → walkU s (k + 1) a = walkU s k a
  | 0, a, h => by
    simp only [walkU]
    rw [if_neg (by omega)]
  | k + 1, a, h => by
    conv => lhs; unfold walkU
    conv => rhs; unfold walkU
    split
    · rename_i ha
      split
      · have hr := firstU_range (s.extract a s.size) (by simp; omega)
        exact walkU_more s k _ (by omega)
      · rfl
    · rfl
theorem walkU_fuel (s : ByteArray) (a : Nat) : ∀ j k, s.size < a + k → walkU s (k + j) a = walkU s k a
  | 0, _, _ => rfl
  | j + 1, k, h => by
    rw [← Nat.add_assoc, walkU_more s (k + j) a (by omega)]
    exact walkU_fuel s a j k h
theorem okB_pad (l : List UInt8) (m : Nat) (h : okB (l ++ List.replicate m 32)) : okB l := by
  unfold okB at h ⊢
  rw [List.length_append, List.length_replicate] at h
  have h1 := walkU_pad l m _ 0 h
  rw [show l.length + m + 1 = l.length + 1 + m by omega, walkU_fuel (mk l) 0 m _ (by rw [mk_size]; omega)] at h1
  exact h1

/-! ### Read -/
def badL (l : List UInt8) : Prop := ¬ okB l ∨ (13 : UInt8) ∈ l
instance (l : List UInt8) : Decidable (badL l) := by unfold badL okB; exact inferInstance
def tabL (l : List UInt8) : Prop := (textL l).head? = some 9
instance (l : List UInt8) : Decidable (tabL l) := by unfold tabL; exact inferInstance
def rowL (i : Nat) (l : List UInt8) : S31 := ⟨colL l, mk (textL l), (i : Int) + 1⟩
def goL : List (List UInt8) → Nat → List S31 → List S31 × Int × Int
  | [], _, acc => (acc, 0, 0)
  | x :: ls, i, acc => if badL x then ([], 8, (i : Int) + 1) else if tabL x then ([], 9, (i : Int) + 1) else goL ls (i + 1) (acc ++ [rowL i x])
def readL (s : List UInt8) : List S31 × Int × Int := if 65536 < s.length then ([], 5, 0) else goL (linesL s) 0 []

theorem check_f (x : List UInt8) (hx : x.length ≤ 65536) : utf_Check.f (mk x) = if okB x then some (0, 0) else some (8, (walkU (mk x) (x.length + 1) 0 : Int)) := by
  unfold utf_Check.f
  rw [mk_size, if_pos (by omega)]
  by_cases h : okB x
  · have h' : x.length ≤ walkU (mk x) (x.length + 1) 0 := h
    rw [if_neg (by omega), if_pos h]
  · have h' : ¬ x.length ≤ walkU (mk x) (x.length + 1) 0 := h
    rw [if_pos (by omega), if_neg h]
theorem byte13 (x : List UInt8) : strings_IndexByte.f (mk x) 13 = some (Lib.indexByte x 13) := rfl
theorem has13 (x : List UInt8) : (Lib.indexByte x 13 ≥ 0) ↔ (13 : UInt8) ∈ x := by
  constructor
  · intro h
    obtain ⟨o, ho⟩ := Int.eq_ofNat_of_zero_le h
    exact List.mem_of_getElem? (Lib.indexByte_some ho).1
  · intro h
    have h1 := Lib.indexByte_ge x 13
    rcases Int.lt_or_le (Lib.indexByte x 13) 0 with h2 | h2
    · obtain ⟨j, hj⟩ := List.getElem?_of_mem h
      exact absurd hj (Lib.indexByte_none (by omega) j)
    · exact h2
theorem left_f (x : List UInt8) : strings_TrimLeft.f (mk x) (⟨#[32]⟩ : ByteArray) = some (mk (cutL x)) := by
  unfold strings_TrimLeft.f
  rw [if_pos (by decide)]
  rfl
theorem right_f (x : List UInt8) (hx : x.length ≤ 65536) : strings_TrimRight.f (mk x) (⟨#[32]⟩ : ByteArray) = some (mk (Lib.trimRightS x [32])) := by
  unfold strings_TrimRight.f
  rw [if_pos ⟨by decide, by rw [mk_size]; omega⟩]
  rfl
theorem tab_f (x : List UInt8) : strings_HasPrefix.f (mk x) (⟨#[9]⟩ : ByteArray) = some (decide (x.head? = some 9)) := by
  unfold strings_HasPrefix.f stringslite_HasPrefix.f
  rw [mk_size]
  have h1 : ((⟨#[9]⟩ : ByteArray).size : Int) = 1 := rfl
  rw [h1]
  cases x with
  | nil => rw [if_neg (by simp)]; rfl
  | cons y t =>
    rw [if_pos (by simp only [List.length_cons]; omega), if_pos (by decide), if_pos (by simp only [List.length_cons]; omega)]
    simp only [Option.bind_some]
    have h2 : ((mk (y :: t)).extract 0 (1 : Int).toNat).toList = [y] := by
      rw [extract_mk, ByteArray.toList_eq]
      rfl
    have h3 : ((⟨#[9]⟩ : ByteArray)).toList = [9] := by rw [ByteArray.toList_eq]
    rw [h2, h3]
    simp
    rfl

theorem rd_line (L : List ByteArray) (i : Nat) (x : ByteArray) (h : L[i]? = some x) : rdOf ByteArray.empty L (i : Int) = x := by
  unfold rdOf
  rw [Int.toNat_natCast, List.getD_eq_getElem?_getD, h]
  rfl
theorem read_l0 (L : List (List UInt8)) (hL : ∀ x ∈ L, x.length ≤ 65536) (hn : L.length ≤ 65537) : ∀ (d i : Nat) (acc : List S31) (k : Nat), i + d = L.length → acc.length ≤ i → 2 * d + 1 ≤ k →
    rows_Read.l0 k acc (L.map mk) (L.length : Int) (i : Int) = some (goL (L.drop i) i acc)
  | 0, i, acc, k, hi, _, hk => by
    obtain ⟨k, rfl⟩ : ∃ k', k = k' + 1 := ⟨k - 1, by omega⟩
    simp only [rows_Read.l0]
    rw [if_neg (by omega), List.drop_of_length_le (by omega)]
    rfl
  | d + 1, i, acc, k, hi, ha, hk => by
    obtain ⟨k, rfl⟩ : ∃ k', k = k' + 1 + 1 := ⟨k - 2, by omega⟩
    have hlt : i < L.length := by omega
    have hx := hL L[i] (List.getElem_mem hlt)
    have hrd := rd_line (L.map mk) i (mk L[i]) (by rw [List.getElem?_map, List.getElem?_eq_getElem hlt]; rfl)
    have hc := check_f L[i] hx
    have hcl : (cutL L[i]).length ≤ L[i].length := by
      have := congrArg List.length (col_split L[i]).1
      rw [List.length_append] at this
      omega
    have hcol : wrap64 (((mk L[i]).size : Int) - ((mk (cutL L[i])).size : Int)) = (colL L[i] : Int) := by
      rw [mk_size, mk_size, show ((L[i].length : Int) - ((cutL L[i]).length : Int)) = ((colL L[i] : Nat) : Int) by unfold colL; omega]
      exact wrap_small _ (by unfold colL; omega)
    have hw : wrap64 ((i : Int) + 1) = ((i + 1 : Nat) : Int) := by rw [show ((i : Int) + 1) = ((i + 1 : Nat) : Int) by omega]; exact wrap_small _ (by omega)
    have ih := read_l0 L hL hn d (i + 1) (acc ++ [rowL i L[i]]) k (by omega) (by simp; omega) (by omega)
    rw [List.drop_eq_getElem_cons hlt]
    simp only [goL]
    simp only [rows_Read.l0]
    rw [if_pos (by omega), if_pos (by omega), if_pos (by rw [List.length_map]; omega), hrd, hc]
    by_cases hok : okB L[i]
    · rw [if_pos hok]
      simp only [Option.bind_some]
      rw [if_neg (by decide), byte13]
      simp only [Option.bind_some]
      simp only [rows_Read.j1]
      by_cases h13 : (13 : UInt8) ∈ L[i]
      · rw [if_pos (by simpa using (has13 L[i]).2 h13), if_pos (show badL L[i] from .inr h13), hw]
        rfl
      · rw [if_neg (fun e => h13 ((has13 L[i]).1 (of_decide_eq_true e))), if_neg (show ¬ badL L[i] from fun e => e.elim (fun e => e hok) h13), left_f]
        simp only [Option.bind_some]
        rw [right_f _ (by omega)]
        simp only [Option.bind_some]
        rw [show Lib.trimRightS (cutL L[i]) [32] = textL L[i] from rfl, tab_f]
        simp only [Option.bind_some]
        by_cases ht : tabL L[i]
        · rw [if_pos (by exact decide_eq_true ht), if_pos ht, hw]
          rfl
        · have ht' : ¬ (decide ((textL L[i]).head? = some 9) = true) := fun e => ht (of_decide_eq_true e)
          rw [if_neg ht', if_neg ht, if_pos (by omega), hcol, hw]
          exact ih
    · rw [if_neg hok]
      simp only [Option.bind_some]
      rw [if_pos (by simp)]
      simp only [rows_Read.j1]
      rw [if_pos trivial, if_pos (show badL L[i] from .inl hok), hw]
      rfl
theorem read_f (s : ByteArray) (k : Nat) (hk : 131076 ≤ k) : rows_Read.f k s = some (readL s.data.toList) := by
  unfold rows_Read.f readL
  rw [← size_len]
  by_cases h : 65536 < s.size
  · rw [if_pos (by omega), if_pos h]
  · rw [if_neg (by omega), if_neg h]
    unfold rows_Lines.f
    rw [if_pos (by omega)]
    simp only [Option.bind_some]
    rw [linesU_eq, List.length_map]
    have h1 := linesL_length s.data.toList
    rw [← size_len] at h1
    have := read_l0 (linesL s.data.toList) (fun x hx => by have := linesL_size _ x hx; rw [← size_len] at this; omega) (by omega) (linesL s.data.toList).length 0 [] k (by omega) (Nat.le_refl _) (by omega)
    exact this
end Go.Proofs.YtgonkdfednoclaaDoor.PRows
