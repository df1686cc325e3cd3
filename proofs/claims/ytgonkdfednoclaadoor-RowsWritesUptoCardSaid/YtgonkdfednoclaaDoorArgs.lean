/- What the rows of chapter 2 have in common: the tables off 'laid', a slice of rows opened, the law's own start. -/
import Derived.Test.YtgonkdfednoclaaDoorPRowsx0
import Derived.Test.YtgonkdfednoclaaDoorExtB
import Derived.Test.YtgonkdfednoclaaDoorShelf
import Derived.Test.YtgonkdfednoclaaDoorRows
import Derived.Lib.LaidU8T
import Derived.Deep.Slices
import Derived.PinnedBridge
import Derived.Lay
import Derived.LaidOnce
import Derived.WalkKit
import Derived.ProofKit
import Derived.OpenShut
import Derived.ShutString
import Derived.ChangeOld
import Derived.Below
import Derived.SizedLaws
namespace Go.Proofs.YtgonkdfednoclaaDoor.PRows
open Go.ChangeShapes Go.WideShapes Go.ChangeAt Go.RowKit Go.Deep Go.Proofs.YtgonkdfednoclaaDoorW.PrintWords

def laidTwo : List (String × DataW Unit) := [("unicode/utf8.acceptRanges", Rows.laid_unicode_utf8_acceptRanges), ("unicode/utf8.first", Rows.laid_unicode_utf8_first)]
theorem u8x : Go.Proofs.U8Extra Tryd.prog Tryd.lays260_ren := ⟨by kernel_rfl, by kernel_rfl, by kernel_rfl, by kernel_rfl, by kernel_rfl, by kernel_rfl, by kernel_rfl⟩
set_option maxRecDepth 100000 in
theorem xtab_of_laid {W : World} (hL : laidMet Tryd.prog laidTwo W) : XTab W := by
  have h1 := Lib.laidMet.reads hL (.head _)
  have h2 := Lib.laidMet.reads hL (.tail _ (.head _))
  exact Go.Proofs.utf8Tabs_of_readsT (Go.Proofs.U8Types.of260 Tryd.lays260) u8x h2 h1

theorem list_of {α : Type} {R : Nat → α → Prop} : ∀ (n : Nat), (∀ i, i < n → ∃ x, R i x) → ∃ xs : List α, xs.length = n ∧ ∀ i x, xs[i]? = some x → R i x
  | 0, _ => ⟨[], rfl, fun i x h => by simp at h⟩
  | n + 1, h => by
    obtain ⟨xs, hl, hx⟩ := list_of n (fun i hi => h i (by omega))
    obtain ⟨y, hy⟩ := h n (by omega)
    refine ⟨xs ++ [y], by simp [hl], fun i x hi => ?_⟩
    rcases Nat.lt_or_ge i n with h1 | h1
    · rw [List.getElem?_append_left (by omega)] at hi
      exact hx i x hi
    · have h2 : i = n := by
        have := (List.getElem?_eq_some_iff.1 hi).1
        simp at this
        omega
      subst h2
      rw [List.getElem?_append_right (by omega), hl, Nat.sub_self] at hi
      obtain rfl : y = x := by simpa using hi
      exact hy

section
variable {H : Type} {enc : TypeId × Value → H} {w : World} {base : Nat} {spare : Nat → Bool} {held : Bool}
/-- A row of three fields, as it lies and as it reads. -/
theorem open_row31 {n : Nat} {cs : List Value} {d : DataW H} {p : List MemPlace} (h : DataW.trod enc Tryd.prog w base spare held n 31 cs = some (d, p)) :
    ∃ x : S31, cs = [.int .i64 x.f0, .string x.f1, .int .i64 x.f2] ∧ d = .agg [.lit (.int .i64 x.f0), .lit (.string x.f1.data.toList), .lit (.int .i64 x.f2)] := by
  have hC : Tryd.prog.cellsOf 31 = 3 := by kernel_rfl
  have h3 : Tryd.prog.cellsOf 3 = 1 := by kernel_rfl
  have h9 : Tryd.prog.cellsOf 9 = 1 := by kernel_rfl
  obtain ⟨ys, m, _, hx, hlen, hyl, hf⟩ := DataW.trod_struct Tryd.underlying31 h
  rw [hC] at hlen
  match cs, hlen, ys, hyl with
  | [c0, c1, c2], _, [y0, y1, y2], _ =>
    have e0 : DataW.trod enc Tryd.prog w base spare held m 3 (([c0, c1, c2].drop 0).take (Tryd.prog.cellsOf 3)) = some y0 := hf 0 _ rfl
    have e1 : DataW.trod enc Tryd.prog w base spare held m 9 (([c0, c1, c2].drop 1).take (Tryd.prog.cellsOf 9)) = some y1 := hf 1 _ rfl
    have e2 : DataW.trod enc Tryd.prog w base spare held m 3 (([c0, c1, c2].drop 2).take (Tryd.prog.cellsOf 3)) = some y2 := hf 2 _ rfl
    rw [h3] at e0 e2
    rw [h9] at e1
    obtain ⟨a, ha, hya, _⟩ := DataW.trod_int Tryd.underlying3 e0
    obtain ⟨s, hs, hys, _⟩ := DataW.trod_string Tryd.underlying9 e1
    obtain ⟨b, hb, hyb, _⟩ := DataW.trod_int Tryd.underlying3 e2
    refine ⟨⟨a, s, b⟩, ?_, ?_⟩
    · simp_all
    · simp_all

/-- A slice of rows, as an argument. -/
theorem open_rows {r : Reach} {b0 : Nat} {v : Value} {d : DataW H} {p : List MemPlace} (hv : Value.okWide Tryd.prog w r b0 23 v) (h : DataW.Trod enc Tryd.prog w base spare held 23 v d p) :
    ∃ (A : Option Addr) (xs : List S31) (cap : Nat), v = .slice A xs.length cap ∧ xs.length ≤ cap ∧ Kd.C k31 w A xs.length xs ∧
      ((d = .nil ∧ xs = []) ∨ ∃ sp, d = .slice (xs.map fun x => .agg [.lit (.int .i64 x.f0), .lit (.string x.f1.data.toList), .lit (.int .i64 x.f2)]) sp) := by
  obtain ⟨A, len, cap, rfl⟩ := okWide_slice Tryd.underlying23 hv
  obtain ⟨fuel, hf⟩ := h
  rcases open_slice Tryd.underlying23 hf with ⟨hcs, hx⟩ | ⟨a, l, c, m, n, D, Pl, hcs, _, hl, hm, hmm, hx, hi⟩
  · simp [Value.cells] at hcs
    obtain ⟨rfl, rfl, rfl⟩ := hcs
    exact ⟨none, [], 0, rfl, Nat.le_refl _, ⟨rfl, Nat.zero_le _, fun h => absurd h (Nat.lt_irrefl _)⟩, .inl ⟨(Prod.mk.inj hx).1, rfl⟩⟩
  · simp [Value.cells] at hcs
    obtain ⟨rfl, rfl, rfl⟩ := hcs
    have hC : Tryd.prog.cellsOf 31 = 3 := by kernel_rfl
    rw [hC] at hi
    have hlm : len ≤ m := by split at hmm <;> omega
    obtain ⟨xs, hxl, hxs⟩ := list_of (R := fun i (x : S31) => w.cells? base (a.add (i * 3)) 3 = some [.int .i64 x.f0, .string x.f1, .int .i64 x.f2] ∧ D i = .agg [.lit (.int .i64 x.f0), .lit (.string x.f1.data.toList), .lit (.int .i64 x.f2)]) len (fun i hil => by
      obtain ⟨cs', hc, ht⟩ := hi i (by omega)
      obtain ⟨x, rfl, hD⟩ := open_row31 ht
      exact ⟨x, hc, hD⟩)
    subst hxl
    refine ⟨some a, xs, cap, rfl, hl, ⟨rfl, by unfold maxLen at hm; omega, fun _ => ⟨a, rfl, fun j x hj => ?_⟩⟩, .inr ⟨(List.range (m - xs.length)).map fun j => D (xs.length + j), ?_⟩⟩
    · obtain ⟨hc, _⟩ := hxs j x hj
      obtain ⟨_, _, hat⟩ := World.cells?_some hc
      refine ⟨_, rfl, k31_mk w x, fun i u hu => ?_⟩
      have hi3 : i < 3 := (List.getElem?_eq_some_iff.1 hu).1
      show w.cell? (a.add (j * 3 + i)) = some u
      rw [← Go.Deep.add_add, hat i hi3, hu]
    · refine (Prod.mk.inj hx).1.trans ?_
      congr 1
      apply List.ext_getElem?
      intro i
      rcases Nat.lt_or_ge i xs.length with h1 | h1
      · rw [List.getElem?_map, List.getElem?_map, List.getElem?_range h1, List.getElem?_eq_getElem h1]
        simp only [Option.map_some]
        rw [(hxs i _ (List.getElem?_eq_getElem h1)).2]
      · rw [List.getElem?_eq_none (by simpa using h1), List.getElem?_eq_none (by simpa using h1)]
end
/-- How many rows may come in. -/
theorem rows_sized {H : Type} {ts : List TypeId} {ds : List (DataW H)} {j : Nat} {d : DataW H} {xs : List S31} (hsz : (DataW.weightsEach Tryd.prog ts ds).all (· ≤ reachBytes) = true) (ht : ts[j]? = some 23) (hd : ds[j]? = some d)
    (h : (d = .nil ∧ xs = []) ∨ ∃ sp, d = .slice (xs.map fun x => .agg [.lit (.int .i64 x.f0), .lit (.string x.f1.data.toList), .lit (.int .i64 x.f2)]) sp) : xs.length ≤ 4398046510976 := by
  rcases h with ⟨_, rfl⟩ | ⟨sp, rfl⟩
  · exact Nat.zero_le _
  · have hb : Tryd.prog.bytesOf 31 = 32 := by kernel_rfl
    have z := sized_slice hsz ht hd Tryd.underlying23
    rw [hb, List.length_map] at z
    have : reachBytes = 140737488351232 := rfl
    omega
end Go.Proofs.YtgonkdfednoclaaDoor.PRows
