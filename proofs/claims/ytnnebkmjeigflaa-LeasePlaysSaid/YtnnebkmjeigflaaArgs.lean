/- The laws' arguments opened: one call of a script, a script. -/
import Derived.Test.YtnnebkmjeigflaaLive
import Derived.Lib.SmallJoins
import Derived.Deep.Slices
import Derived.ProofKit
import Derived.OpenShut
import Derived.ShutString
import Derived.ChangeOld
import Derived.SizedLaws
namespace Go.Proofs.Ytnnebkmjeigflaa.L
open Go.ChangeShapes Go.WideShapes Go.ChangeAt Go.RowKit Go.Deep Go.Lib

/-- One call of a script. -/
structure Act3 where
  kind : Int
  id : Int
  till : Int
  deriving Inhabited
def Act3.cells (x : Act3) : List Value := [.int .u8 x.kind, .int .i64 x.id, .int .i64 x.till]
def Act3.Ok (x : Act3) : Prop := 0 ≤ x.kind ∧ x.kind ≤ 255 ∧ Wf x.id ∧ Wf x.till
theorem wf_u8 {a : Int} (h : (Lit.int .u8 a).wf = true) : 0 ≤ a ∧ a ≤ 255 := by
  have hmin : IntKind.u8.min = 0 := rfl
  have hmax : IntKind.u8.max = 255 := rfl
  simp only [Lit.wf, Bool.and_eq_true, decide_eq_true_eq, hmin, hmax] at h
  exact h
section
variable {H : Type} {enc : TypeId × Value → H} {w : World} {base : Nat} {spare : Nat → Bool} {held : Bool}
set_option maxRecDepth 100000 in
theorem open_act_cells {n : Nat} {cs : List Value} {y : DataW H × List MemPlace} (h : DataW.trod enc Try.prog w base spare held n 38 cs = some y) : ∃ x : Act3, cs = x.cells ∧ x.Ok := by
  have hC : Try.prog.cellsOf 38 = 3 := by kernel_rfl
  have h3 : Try.prog.cellsOf 3 = 1 := by kernel_rfl
  have h5 : Try.prog.cellsOf 5 = 1 := by kernel_rfl
  obtain ⟨ys, m, _, hx, hlen, hyl, hf⟩ := DataW.trod_struct Try.underlying38 h
  rw [hC] at hlen
  match cs, hlen, ys, hyl with
  | [c0, c1, c2], _, [y0, y1, y2], _ =>
    have e0 : DataW.trod enc Try.prog w base spare held m 5 (([c0, c1, c2].drop 0).take (Try.prog.cellsOf 5)) = some y0 := hf 0 _ rfl
    have e1 : DataW.trod enc Try.prog w base spare held m 3 (([c0, c1, c2].drop 1).take (Try.prog.cellsOf 3)) = some y1 := hf 1 _ rfl
    have e2 : DataW.trod enc Try.prog w base spare held m 3 (([c0, c1, c2].drop 2).take (Try.prog.cellsOf 3)) = some y2 := hf 2 _ rfl
    rw [h3] at e1 e2
    rw [h5] at e0
    obtain ⟨a, ha, _, wa⟩ := DataW.trod_int Try.underlying5 e0
    obtain ⟨b, hb, _, wb⟩ := DataW.trod_int Try.underlying3 e1
    obtain ⟨c, hc, _, wc⟩ := DataW.trod_int Try.underlying3 e2
    have hu := wf_u8 wa
    exact ⟨⟨a, b, c⟩, by simp_all [Act3.cells], hu.1, hu.2, wb, wc⟩
set_option maxRecDepth 100000 in
theorem open_act {r : Reach} {b0 : Nat} {v : Value} {d : DataW H} {p : List MemPlace} (hv : Value.okWide Try.prog w r b0 38 v) (h : DataW.Trod enc Try.prog w base spare held 38 v d p) :
    ∃ x : Act3, v = .agg #[.int .u8 x.kind, .int .i64 x.id, .int .i64 x.till] ∧ x.Ok := by
  obtain ⟨cs, rfl, hsz⟩ := okWide_struct Try.underlying38 hv
  obtain ⟨fuel, hf⟩ := h
  obtain ⟨x, hx, hok⟩ := open_act_cells hf
  refine ⟨x, ?_, hok⟩
  simp [Value.cells, Act3.cells] at hx
  obtain ⟨l⟩ := cs
  simp at hx
  rw [hx]
/-- A script as its cells read. -/
def ActRow (w : World) (v : Value) (xs : List Act3) : Prop :=
  ∃ ao c, v = .slice ao xs.length c ∧ xs.length ≤ c ∧ xs.length ≤ 9223372036854775807 ∧ (∀ x ∈ xs, x.Ok) ∧ ∀ i (h : i < xs.length), ∃ a, ao = some a ∧ ∀ j u, (xs[i].cells)[j]? = some u → w.cell? (a.add (i * 3 + j)) = some u
theorem list_of {α : Type} {R : Nat → α → Prop} : ∀ (n : Nat), (∀ i, i < n → ∃ x, R i x) → ∃ xs : List α, xs.length = n ∧ ∀ i x, xs[i]? = some x → R i x
  | 0, _ => ⟨[], rfl, fun i x h => by simp at h⟩
  | n + 1, h => by
    obtain ⟨xs, hl, hx⟩ := list_of n (fun i hi => h i (by omega))
    obtain ⟨y, hy⟩ := h n (by omega)
    refine ⟨xs ++ [y], by simp [hl], fun i x hi => ?_⟩
    rcases Nat.lt_or_ge i n with h1 | h1
    · rw [List.getElem?_append_left (by omega)] at hi
      exact hx i x hi
    · have h2 : i = n := by
        have := (List.getElem?_eq_some_iff.1 hi).1
        simp at this
        omega
      subst h2
      rw [List.getElem?_append_right (by omega), hl, Nat.sub_self] at hi
      obtain rfl : y = x := by simpa using hi
      exact hy
set_option maxRecDepth 100000 in
theorem open_acts {r : Reach} {b0 : Nat} {v : Value} {d : DataW H} {p : List MemPlace} (hv : Value.okWide Try.prog w r b0 32 v) (h : DataW.Trod enc Try.prog w base spare held 32 v d p) : ∃ xs, ActRow w v xs := by
  obtain ⟨A, len, cap, rfl⟩ := okWide_slice Try.underlying32 hv
  obtain ⟨fuel, hf⟩ := h
  rcases open_slice Try.underlying32 hf with ⟨hcs, hx⟩ | ⟨a, l, c, m, n, D, Pl, hcs, _, hl, hm, hmm, hx, hi⟩
  · simp [Value.cells] at hcs
    obtain ⟨rfl, rfl, rfl⟩ := hcs
    exact ⟨[], none, 0, rfl, Nat.le_refl _, Nat.zero_le _, fun x hx => (by cases hx), fun i h => absurd h (Nat.not_lt_zero _)⟩
  · simp [Value.cells] at hcs
    obtain ⟨rfl, rfl, rfl⟩ := hcs
    have hC : Try.prog.cellsOf 38 = 3 := by kernel_rfl
    rw [hC] at hi
    have hlm : len ≤ m := by split at hmm <;> omega
    obtain ⟨xs, hxl, hxs⟩ := list_of (R := fun i (x : Act3) => w.cells? base (a.add (i * 3)) 3 = some x.cells ∧ x.Ok) len (fun i hil => by
      obtain ⟨cs', hc, ht⟩ := hi i (by omega)
      obtain ⟨x, rfl, hD⟩ := open_act_cells ht
      exact ⟨x, hc, hD⟩)
    subst hxl
    refine ⟨xs, some a, cap, rfl, hl, by unfold maxLen at hm; omega, fun x hx => ?_, fun i h => ⟨a, rfl, fun j u hu => ?_⟩⟩
    · obtain ⟨i, hi', rfl⟩ := List.getElem_of_mem hx
      exact (hxs i _ (List.getElem?_eq_getElem hi')).2
    · obtain ⟨hc, _⟩ := hxs i _ (List.getElem?_eq_getElem h)
      obtain ⟨_, _, hat⟩ := World.cells?_some hc
      have hi3 : j < 3 := (List.getElem?_eq_some_iff.1 hu).1
      rw [← Go.Deep.add_add, hat j hi3, hu]
end
end Go.Proofs.Ytnnebkmjeigflaa.L
