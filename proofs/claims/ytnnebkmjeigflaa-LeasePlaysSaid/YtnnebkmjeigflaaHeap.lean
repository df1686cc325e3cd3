/- Heaps in a list, by themselves: what one step down, and one step up, keeps. -/
import Derived.Test.YtnnebkmjeigflaaSwap
namespace Go.Proofs.Ytnnebkmjeigflaa.L

def ltE (a b : Ent) : Prop := a.till < b.till ∨ a.till = b.till ∧ a.id < b.id
def leE (a b : Ent) : Prop := ¬ ltE b a
theorem compareInt_neg (x y : Int) : Lib.compareInt x y < 0 ↔ x < y := by
  unfold Lib.compareInt
  split
  · simp; assumption
  · split
    · simp; omega
    · simp; omega
theorem compareInt_zero (x y : Int) : Lib.compareInt x y = 0 ↔ x = y := by
  unfold Lib.compareInt
  split
  · simp; omega
  · split
    · simp; omega
    · simp; omega
theorem lessE_iff (a b : Ent) : lessE a b = true ↔ ltE a b := by
  unfold lessE ltE ordE or2
  rw [decide_eq_true_iff]
  by_cases h : a.till = b.till
  · rw [if_pos ((compareInt_zero _ _).2 h), compareInt_neg]
    constructor
    · exact fun h' => .inr ⟨h, h'⟩
    · rintro (h' | ⟨_, h'⟩)
      · omega
      · exact h'
  · rw [if_neg (fun e => h ((compareInt_zero _ _).1 e)), compareInt_neg]
    constructor
    · exact fun h' => .inl h'
    · rintro (h' | ⟨h', _⟩)
      · exact h'
      · exact absurd h' h
theorem lessE_false (a b : Ent) : lessE a b = false ↔ leE b a := by
  unfold leE
  rw [← lessE_iff]
  simp
theorem leE_iff (a b : Ent) : leE a b ↔ a.till < b.till ∨ a.till = b.till ∧ a.id ≤ b.id := by unfold leE ltE; omega
theorem leE_trans {a b c : Ent} (h : leE a b) (k : leE b c) : leE a c := by rw [leE_iff] at *; omega
theorem leE_of_lt {a b : Ent} (h : ltE a b) : leE a b := by unfold leE ltE at *; omega
theorem leE_refl (a : Ent) : leE a a := by rw [leE_iff]; omega
theorem leE_total (a b : Ent) : leE a b ∨ leE b a := by rw [leE_iff, leE_iff]; omega

def HeapX (es : List Ent) (n i : Nat) : Prop :=
  (∀ k, 0 < k → k < n → k ≠ i → (k - 1) / 2 ≠ i → leE es[(k - 1) / 2]! es[k]!) ∧ (∀ k, 0 < k → k < n → (k - 1) / 2 = i → 0 < i → leE es[(i - 1) / 2]! es[k]!)
def DownOK (es : List Ent) (n i : Nat) : Prop := ∀ k, 0 < k → k < n → (k - 1) / 2 = i → leE es[i]! es[k]!
def UpOK (es : List Ent) (i : Nat) : Prop := 0 < i → leE es[(i - 1) / 2]! es[i]!
def Heap (es : List Ent) (n : Nat) : Prop := ∀ k, 0 < k → k < n → leE es[(k - 1) / 2]! es[k]!
theorem Heap.of {es : List Ent} {n i : Nat} (h : HeapX es n i) (hd : DownOK es n i) (hu : i < n → UpOK es i) : Heap es n := by
  intro k h0 hk
  by_cases h1 : k = i
  · subst h1; exact hu hk h0
  · by_cases h2 : (k - 1) / 2 = i
    · have := hd k h0 hk h2
      rw [h2]; exact this
    · exact h.1 k h0 hk h1 h2
theorem Heap.x {es : List Ent} {n : Nat} (h : Heap es n) (i : Nat) : HeapX es n i :=
  ⟨fun k h0 hk _ _ => h k h0 hk, fun k h0 hk e hi => by
    have h1 := h k h0 hk
    rw [e] at h1
    exact leE_trans (h i hi (by omega)) h1⟩
/-- One entry changed. -/
theorem Heap.x_set {es : List Ent} {n : Nat} (h : Heap es n) (i : Nat) (e : Ent) : HeapX (es.set i e) n i := by
  have g : ∀ k, k ≠ i → (es.set i e)[k]! = es[k]! := fun k hk => by
    simp only [List.getElem!_eq_getElem?_getD, List.getElem?_set]
    rw [if_neg (fun e => hk e.symm)]
  refine ⟨fun k h0 hk h1 h2 => ?_, fun k h0 hk h1 h2 => ?_⟩
  · rw [g _ h2, g _ h1]; exact h k h0 hk
  · rw [g _ (by omega), g _ (by omega)]
    exact (h.x i).2 k h0 hk h1 h2
theorem Heap.mono {es : List Ent} {n m : Nat} (h : Heap es n) (hm : m ≤ n) : Heap es m := fun k h0 hk => h k h0 (by omega)
theorem down_step {es : List Ent} {n i j : Nat} (hn : n ≤ es.length) (h : HeapX es n i) (hj : j = 2 * i + 1 ∨ j = 2 * i + 2) (hjn : j < n) (hmin : ∀ c, (c = 2 * i + 1 ∨ c = 2 * i + 2) → c < n → leE es[j]! es[c]!) (hlt : ltE es[j]! es[i]!) :
    HeapX (swapL es i j) n j ∧ UpOK (swapL es i j) j := by
  have hi : i < n := by omega
  have G : ∀ k, k < n → (swapL es i j)[k]! = if k = j then es[i]! else if k = i then es[j]! else es[k]! := fun k hk => by
    rw [swapL_get es i j k (by omega) (by omega) (by omega), getElem!_pos es i (by omega), getElem!_pos es j (by omega), getElem!_pos es k (by omega)]
  have gi : (swapL es i j)[i]! = es[j]! := by rw [G i hi, if_neg (by omega), if_pos rfl]
  have gj : (swapL es i j)[j]! = es[i]! := by rw [G j hjn, if_pos rfl]
  have go : ∀ k, k < n → k ≠ i → k ≠ j → (swapL es i j)[k]! = es[k]! := fun k hk h1 h2 => by rw [G k hk, if_neg h2, if_neg h1]
  refine ⟨⟨fun k h0 hk h1 h2 => ?_, fun k h0 hk h1 h2 => ?_⟩, fun h0 => ?_⟩
  · by_cases e1 : k = i
    · subst e1
      rw [gi, go _ (by omega) (by omega) (by omega)]
      exact h.2 j (by omega) hjn (by omega) h0
    · by_cases e2 : (k - 1) / 2 = i
      · rw [e2, gi, go k hk e1 h1]
        exact hmin k (by omega) hk
      · rw [go k hk e1 h1, go _ (by omega) e2 h2]
        exact h.1 k h0 hk e1 e2
  · have e : (j - 1) / 2 = i := by omega
    rw [e, gi, go k hk (by omega) (by omega)]
    have := h.1 k h0 hk (by omega) (by omega)
    rw [h1] at this
    exact this
  · have e : (j - 1) / 2 = i := by omega
    rw [e, gi, gj]
    exact leE_of_lt hlt
theorem up_step {es : List Ent} {n j p : Nat} (hn : n ≤ es.length) (h : HeapX es n j) (hd : DownOK es n j) (h0 : 0 < j) (hj : j < n) (hp : p = (j - 1) / 2) (hlt : ltE es[j]! es[p]!) :
    HeapX (swapL es p j) n p ∧ DownOK (swapL es p j) n p := by
  have hpn : p < n := by omega
  have hpj : p ≠ j := by omega
  have G : ∀ k, k < n → (swapL es p j)[k]! = if k = j then es[p]! else if k = p then es[j]! else es[k]! := fun k hk => by
    rw [swapL_get es p j k (by omega) (by omega) (by omega), getElem!_pos es p (by omega), getElem!_pos es j (by omega), getElem!_pos es k (by omega)]
  have gp : (swapL es p j)[p]! = es[j]! := by rw [G p hpn, if_neg hpj, if_pos rfl]
  have gj : (swapL es p j)[j]! = es[p]! := by rw [G j hj, if_pos rfl]
  have go : ∀ k, k < n → k ≠ p → k ≠ j → (swapL es p j)[k]! = es[k]! := fun k hk h1 h2 => by rw [G k hk, if_neg h2, if_neg h1]
  refine ⟨⟨fun k k0 hk h1 h2 => ?_, fun k k0 hk h1 h2 => ?_⟩, fun k k0 hk h1 => ?_⟩
  · have e1 : k ≠ j := by omega
    by_cases e2 : (k - 1) / 2 = j
    · rw [e2, gj, go k hk h1 e1, hp]
      exact h.2 k k0 hk e2 h0
    · rw [go k hk h1 e1, go _ (by omega) h2 e2]
      exact h.1 k k0 hk e1 e2
  · have e3 : leE es[(p - 1) / 2]! es[p]! := h.1 p h2 hpn hpj (by omega)
    rw [go _ (by omega) (by omega) (by omega)]
    by_cases e1 : k = j
    · subst e1; rw [gj]; exact e3
    · rw [go k hk (by omega) e1]
      have := h.1 k k0 hk e1 (by omega)
      rw [h1] at this
      exact leE_trans e3 this
  · rw [gp]
    by_cases e1 : k = j
    · subst e1; rw [gj]; exact leE_of_lt hlt
    · rw [go k hk (by omega) e1]
      have := h.1 k k0 hk e1 (by omega)
      rw [h1] at this
      exact leE_trans (leE_of_lt hlt) this
/-- A heap's first one is the least. -/
theorem Heap.first {es : List Ent} {n : Nat} (h : Heap es n) : ∀ k, k < n → leE es[0]! es[k]! := by
  intro k
  induction k using Nat.strongRecOn with
  | ind k ih =>
    intro hk
    by_cases h0 : k = 0
    · subst h0; exact leE_refl _
    · exact leE_trans (ih ((k - 1) / 2) (by omega) (by omega)) (h k (by omega) hk)
theorem swapL_perm (es : List Ent) (i j : Nat) (hi : i < es.length) (hj : j < es.length) : (swapL es i j).Perm es := by
  unfold swapL
  rw [getElem!_pos es i hi, getElem!_pos es j hj]
  exact List.set_set_perm hi hj
end Go.Proofs.Ytnnebkmjeigflaa.L
