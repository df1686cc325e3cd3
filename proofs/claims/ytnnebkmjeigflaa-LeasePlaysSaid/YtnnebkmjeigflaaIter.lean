/- slices.Values over the pile, slices.AppendSeq, slices.Collect: the pile's entries in a row of the call's own. -/
import Derived.Test.YtnnebkmjeigflaaDue
import Derived.RangeFuncBox
import Derived.RangeFuncFrom
import Derived.Maps.AppendAt
import Derived.RangeFuncNested
import Derived.RangeFuncBound
import Derived.RangeFuncCalls
import Derived.RangeFuncLeaves
import Derived.Shelf.Abstract
import Derived.Shelf.RegionOpen
import Derived.OwnWalkIn
import Derived.TacticsInMore
import Derived.LoopNIn
import Derived.LoopIn
import Derived.Sort.LoopGhostIn
namespace Go.Proofs.Ytnnebkmjeigflaa.L
open Go.RowKit Go.Shelf
attribute [local go_sem] Oper.semAt_some

set_option maxRecDepth 100000 in
set_option maxHeartbeats 2000000 in
theorem values_stops (n : Nat) (hn : 1 ≤ n) (bc : Nat) (ao : Option Addr) (cap : Nat) (es : List Ent) (w : World) (hlen : es.length ≤ 4611686018427387904) (hc : w.cell? ⟨bc, 0, none⟩ = some (.slice ao es.length cap))
    (hcell : ∀ i (h : i < es.length), ∃ g, ao = some ⟨g, 0, none⟩ ∧ w.cell? ⟨g, i, none⟩ = some es[i].ptr) :
    SeqStopsK Fence.wide n Try.prog 39 #[.pointer (some ⟨bc, 0, none⟩)] (fun e : Ent => #[e.ptr]) (Below w.heap.size) (fun xs => xs = es) (fun _ => True) es.length w := fun l J Jx W hW hJ hJx hY h0 => by
  have hbw : bc < w.heap.size := World.block_lt_of_cell? w _ hc
  have hc0 := (hW.cell (p := ⟨bc, 0, none⟩) hbw).trans hc
  refine callsIn_of_wp Try.func39 rfl trivial ?_ rfl
  simp only [Try.ntmps39, List.size_toArray, List.length_cons, List.length_nil, Nat.reduceAdd, Nat.reduceSub, Array.replicate_succ, Array.replicate_zero, List.push_toArray, List.append_toArray, List.nil_append, List.cons_append]
  have HY := Box.mk hY
  have H0 := Box.mk h0
  have HC := Box.mk hcell
  have HW := Box.mk hW
  obtain ⟨m, hm⟩ : ∃ m, es.length = m := ⟨_, rfl⟩
  have HM := Box.mk hm
  rw [hm] at hc0 hlen
  clear hY h0 hJ hJx hc hcell hW hm
  gi_wp2
  gi_loopg [7] m (fun k v wr => ∃ i : Nat, v = .int .i64 i ∧ Box (i + k = m) ∧ Box (J (es.take i) wr) ∧ Box (Below w.heap.size w wr))
  case atStart => exact ⟨0, rfl, ⟨by omega⟩, H0, HW⟩
  case round =>
    clear H0 HW
    obtain ⟨i, rfl, HK, HJp, HB⟩ := hrel
    cases gk with
    | zero =>
      have hi : ¬ ((i : Int) < m) := by have := HK.out; omega
      gi_wp2
      go_end0
      refine ⟨⟨_, rfl⟩, .inl ?_⟩
      have := HJp.out
      rwa [List.take_of_length_le (by have := HK.out; have := HM.out; omega)] at this
    | succ k1 =>
      have hi : (i : Int) < m := by have := HK.out; omega
      have hi' : i < es.length := by have := HK.out; have := HM.out; omega
      obtain ⟨g, hg, hce⟩ := HC.out i hi'
      have hce1 := (HB.out.cell (World.block_lt_of_cell? w _ hce)).trans hce
      obtain ⟨fn, tmps, assign, body, hy, hRd⟩ := HY.out (es.take i) es[i] wr HJp.out (by rw [List.length_take]; omega)
      have h0i : (0 : Int) ≤ i := by omega
      have hi3 : (i : Int) ≤ 4611686018427387904 := by omega
      subst hg
      unfold Ent.ptr at hce1 hy
      have HRd := Box.mk hRd
      clear hce hRd HC
      gi_wp2
      refine HRd.out.mono ?_
      rintro e W3 (⟨rfl, hJ3, hk3⟩ | ⟨rfl, hJ3⟩)
      · have HJ3 := Box.mk hJ3
        have HB3 := Box.mk (HB.out.trans hk3)
        clear hJ3 hk3 hy HRd
        gi_wp2
        gi_roundg k1
        case measure => omega
        case rel => exact ⟨i + 1, by go_num, ⟨by have := HK.out; omega⟩, ⟨by rw [List.take_succ_eq_append_getElem hi']; exact HJ3.out⟩, HB3⟩
      · have HJ3 := Box.mk hJ3
        clear hJ3 hy HRd
        gi_wp2
        refine bodyPost_ret (results_none rfl _ _ _) rfl ?_
        exact ⟨⟨_, rfl⟩, .inr ⟨_, trivial, HJ3.out⟩⟩

set_option maxHeartbeats 1000000 in
theorem values_calls (ao : Option Addr) (l c : Nat) (w : World) : Calls Try.prog 28 #[.slice ao l c] w fun e w' => e = .returned (.func (.func 39) #[] #[.pointer (some ⟨w.heap.size, 0, none⟩)]) ∧ w' = w.alloc (.cells #[.slice ao l c] 54) := by
  go_enter Try.func28, Try.ntmps28
  go_wp2
  go_ret
  exact ⟨rfl, rfl⟩
set_option maxRecDepth 100000 in
set_option maxHeartbeats 2000000 in
theorem appendSeq_calls (bc : Nat) (ao : Option Addr) (cap : Nat) (es : List Ent) (w : World) (hlen : es.length ≤ 1000000) (hc : w.cell? ⟨bc, 0, none⟩ = some (.slice ao es.length cap))
    (hcell : ∀ i (h : i < es.length), ∃ g, ao = some ⟨g, 0, none⟩ ∧ w.cell? ⟨g, i, none⟩ = some es[i].ptr) :
    Calls Try.prog 43 #[.slice none 0 0, .func (.func 39) #[] #[.pointer (some ⟨bc, 0, none⟩)]] w fun e w' => ∃ r, e = .returned r ∧ w'.ownsRow w.heap.size 61 1 r es.length (es.map Ent.ptr) ∧ Below w.heap.size w w' := by
  obtain ⟨i0, hi, hz0, hz1, hz2⟩ := info_parts info61
  refine (callsIn_wide (n := 3)).1 ?_
  refine callsIn_of_wp_marks Try.func43 rfl trivial ?_ rfl
  simp only [Try.ntmps43, List.size_toArray, List.length_cons, List.length_nil, Nat.reduceAdd, Nat.reduceSub, Array.replicate_succ, Array.replicate_zero, List.push_toArray, List.append_toArray, List.nil_append, List.cons_append]
  gi_wp2
  have bO := Boxed.new w 53 (.slice none 0 0)
  have hB0 : Below w.heap.size w (w.alloc (.cells #[.slice none 0 0] 53)) := (Below.refl _ w).alloc (Nat.le_refl _) _
  refine wpIn_rangeFunc_ownF rfl (by omega) (gf := 39) (lb := #[.pointer (some ⟨bc, 0, none⟩)]) rfl trivial (enters_of Try.func39 (by kernel_rfl) rfl)
    (values_stops (3 - 1) (by omega) bc ao cap es w (by omega) hc hcell) belowK_t (belowK_b (n₀ := w.heap.size) (by simp)) hB0 (fun _ => rfl)
    (fun (pre : List Ent) W => (∃ v, Boxed W w.heap.size 53 v ∧ W.ownsRow w.heap.size 61 1 v pre.length (pre.map Ent.ptr) ∧ True) ∧ Below w.heap.size w W) (fun _ _ _ => False)
    (OwnFrom.and (Own.from (holdsRow_own w.heap.size w.heap.size 53 61 1 (fun (pre : List Ent) => pre.length) (fun (pre : List Ent) => pre.map Ent.ptr) (fun _ _ => True)) _) (ownFrom_below (Nat.le_refl _) (by simp)))
    (fun _ _ _ _ _ h => h.elim)
    ⟨⟨_, bO, World.ownsRow_nil _ _ _ _, trivial⟩, hB0⟩
    (fun (x : Ent) => { tmps := #[.slice none 0 0, .func (.func 39) #[] #[.pointer (some ⟨bc, 0, none⟩)], .pointer (some ⟨w.heap.size, 0, none⟩), undef, .slice none 0 0, x.ptr, .func (.func 39) #[] #[.pointer (some ⟨bc, 0, none⟩)], x.ptr, undef, undef, undef, undef, undef], defers := [] }) ?assign ?body ?done ?stop
  case assign =>
    intro l x W K hK
    gi_wp2
    exact hK
  case body =>
    rintro l pre x W ⟨⟨v, hv, hrow, _⟩, hB⟩ hlt
    have hc := hv.cell
    have hq1 : pre.length + 1 ≤ maxLen := by unfold maxLen; omega
    have hq2 : (pre.length + 1) * 8 ≤ 140737488355328 := by omega
    have hq4 : ∀ y ∈ [x.ptr], y.oneCell' = true := by simp [Value.oneCell', Ent.ptr]
    have hq5 : 0 < 1 := by decide
    have hte : (53 : Nat) ≠ 61 := by decide
    have hle : w.heap.size ≤ w.heap.size := Nat.le_refl _
    have hq6 : ∀ o, w.heap.size ≤ (W.alloc o).heap.size := fun o => by rw [World.size_alloc]; have := hB.size; omega
    clear hlt hcell
    unfold Ent.ptr at hq4 ⊢
    gi_wp2_with (first | (gi_at_builtin; refine wpListIn_append_own _ rfl _ _ 53 rfl w.heap.size 61 i0 (.pointer none) 1 8 Try.underlying53 hi hz0 hz1 hz2 rfl hq5 _ _ _ rfl (hrow.alloc _) ⟨W.heap.size, 0, none⟩ 1 1 [.pointer (some ⟨x.blk, 0, none⟩)] rfl rfl (cell_one_new _ _ _) hq4 hq1 hq2 (hq6 _) ?_; intro v' w1 hown' hgrow _; obtain ⟨g', cap', rfl⟩ := ownsRow_succ hown'; obtain ⟨hv1, hv2, hr2, hk2, hb2⟩ := hv.appended hte hrow hB.size hle hown' hgrow; have hc1 := hv1.cell; have hf1 := hv1.frozen; clear hown' hgrow hv1))
    refine ⟨hk2, hb2, ⟨_, hv2, ?_, trivial⟩, hB.trans hb2⟩
    rw [List.length_append, List.length_singleton, List.map_append]
    exact hr2
  case done =>
    rintro D ys W hD rfl ⟨⟨v, hv, hrow, _⟩, hB⟩ hK
    have hc := hv.cell
    gi_wp2
    refine ⟨by simp, .inl ⟨_, _, rfl, run_takeDeferred hK, ?_⟩⟩
    exact ⟨_, results_tmp rfl _ _ _, v, rfl, ownsRow_putObj hrow _ hK rfl, hB.trans (belowK_b (w := w) (Nat.le_refl _) W D _ _ (by have h5 := hD; simp only [World.size_alloc] at h5; omega) hK rfl rfl)⟩
  case stop =>
    intro D c pre W _ _ h
    exact h.elim
end Go.Proofs.Ytnnebkmjeigflaa.L
