/- A range over a function, never left early, whose iterator keeps its state in one captured variable (block bc): the caller's invariant must abide a store into that variable. -/
import Derived.RangeFuncFrom
namespace Go.Proofs.YtgonkdfednoclaaDoor.RF
open Go Go.RowKit
variable {F : Fence} {n : Nat} {P : Program}

/-- What an iterator with one variable of its own owes to a caller that never leaves early. -/
def CellSeq {α : Type} (F : Fence) (n : Nat) (P : Program) (g : Nat) (lb : Array Value) (encs : α → Array Value) (Kp : World → World → Prop) (S : List α → Prop) (N : Nat) (Px : α → Prop) (bc : Nat) (w : World) : Prop :=
  ∀ (l : Nat) (J : List α → World → Prop) (W : World), Below w.heap.size w W → AbidesFrom W.heap.size J → (∀ s A v, J s A → J s (A.setCell ⟨bc, 0, none⟩ v)) →
    (∀ pre x W1, J pre W1 → pre.length < N → Px x → YieldAt F (n - 1) P l (encs x) W1 fun e W' => e = .returned (.bool true) ∧ J (pre ++ [x]) W' ∧ Kp W1 W') →
    J [] W → CallsIn F n P g (#[.func (.yield l) #[] #[]] ++ lb) W fun e W' => (∃ v, e = .returned v) ∧ ∃ xs, S xs ∧ J xs W'

/-- The loop's two own blocks: what is put off, in block d; the loop's state, in the next. -/
def Held (d : Nat) (L : Loop) (W : World) : Prop := W.heap[d + 1]? = some (.loop L) ∧ W.heap[d]? = some (.deferred (some []))
theorem Held.grown {d : Nat} {L : Loop} {W W' : World} {row : Option Nat} (h : Held d L W) (hg : W.grownBy W' row) (hr : ∀ r, row = some r → ∃ o : Obj, W.heap[r]? = some o ∧ o.isWalk = true) : Held d L W' :=
  ⟨(grownBy_keeps hg hr h.1 rfl).trans h.1, (grownBy_keeps hg hr h.2 rfl).trans h.2⟩
theorem Held.store {d bc : Nat} {L : Loop} {W : World} (h : Held d L W) (hb : bc < d) (v : Value) : Held d L (W.setCell ⟨bc, 0, none⟩ v) :=
  ⟨(Below.heap_setCell _ _ _ _ (Nat.ne_of_gt (Nat.lt_succ_of_lt hb))).trans h.1, (Below.heap_setCell _ _ _ _ (Nat.ne_of_gt hb)).trans h.2⟩
theorem Held.turn {d : Nat} {L : Loop} {W : World} (h : Held d L W) (L' : Loop) : Held d L' (W.putObj (d + 1) (.loop L')) :=
  ⟨World.putObj_heap_same (Array.getElem?_eq_some_iff.1 h.1).1, (World.putObj_heap_other (Nat.ne_of_lt (Nat.lt_succ_self d))).trans h.2⟩
theorem Held.others {d : Nat} {L : Loop} {W W' : World} (h : Held d L W) (hk : KeepsOthers W W') : Held d L W' := ⟨hk.same _ _ h.1 rfl, hk.same _ _ h.2 rfl⟩
theorem Held.new (w : World) (L : Loop) : Held w.heap.size L ((w.alloc (.deferred (some []))).alloc (.loop L)) := by
  refine ⟨?_, (Below.heap_alloc _ _ _ (by simp)).trans (World.alloc_heap_new w _)⟩
  have h := World.alloc_heap_new (w.alloc (.deferred (some []))) (.loop L)
  rwa [World.size_alloc] at h

/-- A round's end: it goes on. -/
def Onward {α : Type} (Kp : World → World → Prop) (I : List α → World → Prop) (xs : List α) (W : World) : Exit → Act → World → Prop
  | .normal, _, W' => KeepsOthers W W' ∧ Kp W W' ∧ I xs W'
  | _, _, _ => False

theorem rangeCell {α : Type} {g : Operand} {ps : Array Tmp} {assign body : Code} {Q : Exit → Act → World → Prop} {a : Act} {w : World}
    (hro : F.round = none) (h1 : 1 ≤ n) {gf : Nat} {lb : Array Value} (hg : a.eval g = .func (.func gf) #[] lb) (hFg : F.fn gf) (eg : ∀ args w, (callFunc gf args).run P w = .ok (.enter gf args) w)
    {encs : α → Array Value} {Kp : World → World → Prop} {S : List α → Prop} {N : Nat} {Px : α → Prop} {w0 : World} (bc : Nat) (hbc : bc < w.heap.size) (hseq : CellSeq F (n - 1) P gf lb encs Kp S N Px bc w0)
    (trans : ∀ {A B C : World}, Kp A B → Kp B C → Kp A C) (mine : ∀ (W : World) (l : Nat) (o o' : Obj), w.heap.size ≤ l → W.heap[l]? = some o → o.isCells = false → o.isWalk = false → Kp W (W.putObj l o'))
    (hb0 : Below w0.heap.size w0 w) (hps : ∀ x, (encs x).size = ps.size)
    (I : List α → World → Prop) (hI : OwnFrom w.heap.size I) (hIs : ∀ s A v, I s A → I s (A.setCell ⟨bc, 0, none⟩ v)) (h0 : I [] w) (a₁ : α → Act)
    (hassign : ∀ (l : Nat) (x : α) (W : World) (K : Act → World → Prop), K (a₁ x) W →
      assign.wpIn (F.inRound l) (n - 1 - 1) P (Exit.then K (fun _ _ _ => False)) { tmps := (ps.zip (encs x)).foldl (fun t (p, v) => t.setIfInBounds p v) a.tmps, defers := [] } W)
    (hbody : ∀ (l : Nat) (pre : List α) (x : α) (W : World), I pre W → pre.length < N → Px x → body.wpIn (F.inRound l) (n - 1 - 1) P (Onward Kp I (pre ++ [x]) W) (a₁ x) W)
    (hdone : ∀ (D : Nat) (xs : List α) (W : World), w.heap.size ≤ D → S xs → I xs W → W.heap[D]? = some (.deferred (some [])) → Q .normal { a with defers := { target := .collected D, args := #[] } :: a.defers } W) :
    (Code.rangeFunc g ps assign body).wpIn F n P Q a w := by
  refine wpIn_rangeFunc fun fn hfn => ?_
  rw [hro]
  obtain ⟨d, hd⟩ : ∃ d, w.heap.size = d := ⟨_, rfl⟩
  obtain ⟨L, hL⟩ : ∃ L : LoopState → Option Code → Loop, L = fun st pe => { state := st, pending := pe, fn, tmps := a.tmps, params := ps, assign, body, defers := w.heap.size } := ⟨_, rfl⟩
  obtain ⟨V, hV⟩ : ∃ V, (w.alloc (.deferred (some []))).alloc (.loop (L .ready none)) = V := ⟨_, rfl⟩
  have hV0 : Held d (L .ready none) V := by rw [← hV, ← hd]; exact Held.new w _
  have hsz : V.heap.size = d + 2 := by rw [← hV, World.size_alloc, World.size_alloc, hd]
  have hVI : I [] V := by rw [← hV]; exact hI.alloc _ (hI.alloc _ h0)
  have hVb : Below w0.heap.size w0 V := by rw [← hV]; exact hb0.trans ((((Below.refl _ w).alloc (Nat.le_refl _) _).alloc (by simp) _).mono hb0.size)
  have hlift : AbidesFrom V.heap.size fun pre W => I pre W ∧ Held d (L .ready none) W := fun s A B row hs hgr hr =>
    ⟨hI s A B row hs.1 hgr fun r e => by obtain ⟨hB, o, ho, hwk⟩ := hr r e; exact ⟨by omega, o, ho, Obj.not_cells_of_walk hwk⟩, hs.2.grown hgr fun r e => (hr r e).2⟩
  rw [hd] at hI mine hbc hdone
  have hround : ∀ pre x W1, (I pre W1 ∧ Held d (L .ready none) W1) → pre.length < N → Px x →
      YieldAt F (n - 1 - 1) P (d + 1) (encs x) W1 fun e W' => e = .returned (.bool true) ∧ (I (pre ++ [x]) W' ∧ Held d (L .ready none) W') ∧ Kp W1 W' := fun pre x W1 ⟨hi, hh⟩ hlen hpx => by
    have hy := run_yield (P := P) (args := encs x) hh.1 (by rw [hL]; exact hps x)
    have hbusy := hh.turn { L .ready none with state := .busy }
    rw [hL] at hy
    refine ⟨fn, _, assign, body, hy, roundIn_of_wpIn hfn (hassign _ x W1 _ ⟨_, run_beginRound hh.1 (by rw [hL]), ?_⟩)⟩
    refine wpIn_mono (hbody _ pre x _ (hI.putObj _ hi (by omega) hh.1 rfl) hlen hpx) ?_
    rintro e a3 W3 hp
    cases e with
    | normal =>
      obtain ⟨hk, hkp, hi3⟩ := hp
      have h3 := hbusy.others hk
      have hend := run_endRound (P := P) none h3.1
      rw [hL] at hend
      have h4 := h3.turn (L .ready none)
      rw [hL] at h4
      refine ⟨_, _, hend, ⟨rfl, ⟨hI.putObj _ hi3 (by omega) h3.1 rfl, ?_⟩, trans (trans (mine _ _ _ _ (by omega) hh.1 rfl rfl) hkp) (mine _ _ _ _ (by omega) h3.1 rfl rfl)⟩⟩
      rw [hL]
      exact h4
    | _ => exact hp.elim
  refine ⟨d + 1, [{ target := .collected d, args := #[] }], V, { target := .fn (.func gf) lb, args := #[.func (.yield (d + 1)) #[] #[]] }, V, gf, #[.func (.yield (d + 1)) #[] #[]] ++ lb, V, ?_, ?_, ?_, ?_, fun _ => h1, ?_⟩
  · rw [← hV, hL, ← hd]; exact run_enterLoop_outer _ _ _ _ _
  · simp only [resolve, hg]; simp [go_sem]
  · intro f' hf'; simp [Target.leads] at hf'; subst hf'; exact hFg
  · simp [invoke, go_sem, eg]
  · refine (hseq (d + 1) _ V hVb hlift (fun s A v hs => ⟨hIs s A v hs.1, hs.2.store hbc v⟩) hround ⟨hVI, hV0⟩).mono ?_
    rintro e W2 ⟨⟨v, rfl⟩, xs, hS, hi, hh⟩
    have hend := run_endLoop (P := P) hh.1 (by rw [hL]; simp)
    rw [hL] at hend
    exact ⟨none, _, hend, hdone d xs _ (Nat.le_refl _) hS (hI.putObj _ hi (by omega) hh.1 rfl) (hh.turn _).2⟩
end Go.Proofs.YtgonkdfednoclaaDoor.RF
