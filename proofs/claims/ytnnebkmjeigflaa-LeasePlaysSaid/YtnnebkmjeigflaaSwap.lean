/- The pile's Swap. -/
import Derived.Test.YtnnebkmjeigflaaOrd
import Derived.BigRegion
import Derived.RegionTactic
import Derived.Lib.Hide
import Derived.ChangeAlike
namespace Go.Proofs.Ytnnebkmjeigflaa.L
open Go.RowKit

set_option maxHeartbeats 4000000 in
set_option maxRecDepth 100000 in
theorem swap_walk (g n cap ab bb : Nat) (i j : Nat) (w : World) (hi : (i : Int) < n) (hj : (j : Int) < n) (hij : i ≠ j) (hga : g ≠ ab) (hgb : g ≠ bb) (hab : ab ≠ bb)
    (ci : w.cell? ⟨g, i, none⟩ = some (.pointer (some ⟨ab, 0, none⟩))) (cj : w.cell? ⟨g, j, none⟩ = some (.pointer (some ⟨bb, 0, none⟩))) (fi : w.frozen? ⟨g, i, none⟩ = false) (fj : w.frozen? ⟨g, j, none⟩ = false)
    (ca : ∃ u, w.cell? ⟨ab, 2, none⟩ = some u) (cb : ∃ u, w.cell? ⟨bb, 2, none⟩ = some u) (fa : w.frozen? ⟨ab, 2, none⟩ = false) (fb : w.frozen? ⟨bb, 2, none⟩ = false) :
    Calls Try.prog 82 #[.slice (some ⟨g, 0, none⟩) n cap, .int .i64 i, .int .i64 j] w fun e w' => e = .returned (.tuple #[]) ∧
      ∃ n, w' = World.drewN ((((w.setCell ⟨g, i, none⟩ (.pointer (some ⟨bb, 0, none⟩))).setCell ⟨g, j, none⟩ (.pointer (some ⟨ab, 0, none⟩))).setCell ⟨bb, 2, none⟩ (.int .i64 i)).setCell ⟨ab, 2, none⟩ (.int .i64 j)) n := by
  have k3 : (0 : Int) ≤ i := by omega
  have k4 : (0 : Int) ≤ j := by omega
  have hji : j ≠ i := fun e => hij e.symm
  obtain ⟨ua, ca⟩ := ca
  obtain ⟨ub, cb⟩ := cb
  go_enter Try.func82, Try.ntmps82
  go_wp2
  go_region
  have di : ((w.setCell ⟨g, i, none⟩ (.pointer (some ⟨bb, 0, none⟩))).setCell ⟨g, j, none⟩ (.pointer (some ⟨ab, 0, none⟩))).drew.cell? ⟨g, i, none⟩ = some (.pointer (some ⟨bb, 0, none⟩)) := by
    show ((w.setCell ⟨g, i, none⟩ (.pointer (some ⟨bb, 0, none⟩))).setCell ⟨g, j, none⟩ (.pointer (some ⟨ab, 0, none⟩))).cell? _ = _
    rw [World.cell?_setCell_other _ _ _ _ (by simp), World.cell?_setCell_same' _ _ _ (by rw [ci]; rfl)]
  have dj : ((w.setCell ⟨g, i, none⟩ (.pointer (some ⟨bb, 0, none⟩))).setCell ⟨g, j, none⟩ (.pointer (some ⟨ab, 0, none⟩))).drew.cell? ⟨g, j, none⟩ = some (.pointer (some ⟨ab, 0, none⟩)) := by
    show ((w.setCell ⟨g, i, none⟩ (.pointer (some ⟨bb, 0, none⟩))).setCell ⟨g, j, none⟩ (.pointer (some ⟨ab, 0, none⟩))).cell? _ = _
    rw [World.cell?_setCell_same' _ _ _ (by rw [World.cell?_setCell_other _ _ _ _ (by simp), cj]; rfl)]
  have da : ((w.setCell ⟨g, i, none⟩ (.pointer (some ⟨bb, 0, none⟩))).setCell ⟨g, j, none⟩ (.pointer (some ⟨ab, 0, none⟩))).drew.cell? ⟨ab, 2, none⟩ = some ua := by
    show ((w.setCell ⟨g, i, none⟩ (.pointer (some ⟨bb, 0, none⟩))).setCell ⟨g, j, none⟩ (.pointer (some ⟨ab, 0, none⟩))).cell? _ = _
    rw [World.cell?_setCell_other _ _ _ _ (by simp), World.cell?_setCell_other _ _ _ _ (by simp)]; exact ca
  have db : ((w.setCell ⟨g, i, none⟩ (.pointer (some ⟨bb, 0, none⟩))).setCell ⟨g, j, none⟩ (.pointer (some ⟨ab, 0, none⟩))).drew.cell? ⟨bb, 2, none⟩ = some ub := by
    show ((w.setCell ⟨g, i, none⟩ (.pointer (some ⟨bb, 0, none⟩))).setCell ⟨g, j, none⟩ (.pointer (some ⟨ab, 0, none⟩))).cell? _ = _
    rw [World.cell?_setCell_other _ _ _ _ (by simp), World.cell?_setCell_other _ _ _ _ (by simp)]; exact cb
  have ga : ((w.setCell ⟨g, i, none⟩ (.pointer (some ⟨bb, 0, none⟩))).setCell ⟨g, j, none⟩ (.pointer (some ⟨ab, 0, none⟩))).drew.frozen? ⟨ab, 2, none⟩ = false := by
    show ((w.setCell ⟨g, i, none⟩ (.pointer (some ⟨bb, 0, none⟩))).setCell ⟨g, j, none⟩ (.pointer (some ⟨ab, 0, none⟩))).frozen? _ = _
    rw [World.frozen?_setCell, World.frozen?_setCell]; exact fa
  have gb : ((w.setCell ⟨g, i, none⟩ (.pointer (some ⟨bb, 0, none⟩))).setCell ⟨g, j, none⟩ (.pointer (some ⟨ab, 0, none⟩))).drew.frozen? ⟨bb, 2, none⟩ = false := by
    show ((w.setCell ⟨g, i, none⟩ (.pointer (some ⟨bb, 0, none⟩))).setCell ⟨g, j, none⟩ (.pointer (some ⟨ab, 0, none⟩))).frozen? _ = _
    rw [World.frozen?_setCell, World.frozen?_setCell]; exact fb
  clear ci cj ca cb fa fb fi fj
  generalize hW : ((w.setCell ⟨g, i, none⟩ (.pointer (some ⟨bb, 0, none⟩))).setCell ⟨g, j, none⟩ (.pointer (some ⟨ab, 0, none⟩))).drew = w1 at *
  have HW := Lib.hid hW
  clear hW
  go_wp2
  go_region
  all_goals
    go_end0
    rw [← HW.out]
    exact ⟨rfl, 2, rfl⟩

/-- The pile with two entries changed. -/
def swapL (es : List Ent) (i j : Nat) : List Ent := (es.set i es[j]!).set j es[i]!
theorem swapL_length (es : List Ent) (i j : Nat) : (swapL es i j).length = es.length := by simp [swapL]
theorem swapL_get (es : List Ent) (i j k : Nat) (hi : i < es.length) (hj : j < es.length) (hk : k < es.length) : (swapL es i j)[k]! = if k = j then es[i] else if k = i then es[j] else es[k] := by
  have hk' : k < (swapL es i j).length := by rw [swapL_length]; exact hk
  have e : (swapL es i j)[k]! = if j = k then es[i] else if i = k then es[j] else es[k] := by
    rw [getElem!_pos (swapL es i j) k hk']
    simp only [swapL, List.getElem_set, getElem!_pos es i hi, getElem!_pos es j hj]
  rw [e]
  by_cases h1 : j = k
  · rw [if_pos h1, if_pos h1.symm]
  · rw [if_neg h1, if_neg (show ¬ k = j from fun e => h1 e.symm)]
    by_cases h2 : i = k
    · rw [if_pos h2, if_pos h2.symm]
    · rw [if_neg h2, if_neg (show ¬ k = i from fun e => h2 e.symm)]
theorem Pile.blk_inj {w : World} {B : Nat} {v : Value} {es : List Ent} (h : Pile w B v es) {i j : Nat} (hi : i < es.length) (hj : j < es.length) (e : es[i].blk = es[j].blk) : i = j := by
  have h1 := h.ent i hi
  have h2 := h.ent j hj
  unfold EntAt at h1 h2
  rw [e, h2] at h1
  injection h1 with h1
  injection h1 with h1
  have := congrArg (fun c : Array Value => c[2]?) h1
  simp at this
  omega
theorem Pile.row {w : World} {B g n cap : Nat} {es : List Ent} (h : Pile w B (.slice (some ⟨g, 0, none⟩) n cap) es) : ∃ cur, w.heap[g]? = some (.cells cur 61 (0, 0)) := by
  rcases h.own.2 with ⟨hv, _⟩ | ⟨g', cap', cur, hv, _, hg, _⟩
  · cases hv
  · injection hv with h1 h2 h3
    injection h1 with h1
    injection h1 with h1
    subst h1
    exact ⟨cur, hg⟩
theorem Pile.row_ne {w : World} {B g n cap : Nat} {es : List Ent} (h : Pile w B (.slice (some ⟨g, 0, none⟩) n cap) es) (i : Nat) (hi : i < es.length) : g ≠ es[i].blk := by
  obtain ⟨cur, hg⟩ := h.row
  exact blk_ne hg (h.ent i hi) (by decide)
theorem map_set {α β : Type} (f : α → β) (l : List α) (i : Nat) (x : α) : (l.set i x).map f = (l.map f).set i (f x) := by simp
/-- What the pile's calls may turn. -/
def Pile.Foot (v : Value) (es : List Ent) (k : Nat) : Prop := v.ownBlock = some k ∨ ∃ e ∈ es, e.blk = k
theorem mem_swapL {es : List Ent} {i j : Nat} (hi : i < es.length) (hj : j < es.length) {e : Ent} (h : e ∈ swapL es i j) : e ∈ es := by
  unfold swapL at h
  rcases List.mem_or_eq_of_mem_set h with h | rfl
  · rcases List.mem_or_eq_of_mem_set h with h | rfl
    · exact h
    · rw [getElem!_pos es j hj]; exact List.getElem_mem _
  · rw [getElem!_pos es i hi]; exact List.getElem_mem _
theorem Pile.swapped {w : World} {B g n cap : Nat} {es : List Ent} (h : Pile w B (.slice (some ⟨g, 0, none⟩) n cap) es) (hn : n = es.length) (i j : Nat) (hi : i < es.length) (hj : j < es.length) (hij : i ≠ j) (m : Nat) :
    Pile (World.drewN ((((w.setCell ⟨g, i, none⟩ es[j].ptr).setCell ⟨g, j, none⟩ es[i].ptr).setCell ⟨es[j].blk, 2, none⟩ (.int .i64 i)).setCell ⟨es[i].blk, 2, none⟩ (.int .i64 j)) m) B (.slice (some ⟨g, 0, none⟩) n cap) (swapL es i j) := by
  subst hn
  have hgi := h.row_ne i hi
  have hgj := h.row_ne j hj
  have hbb : es[j].blk ≠ es[i].blk := fun e => hij (h.blk_inj hj hi e).symm
  have o1 := (h.own.stored i es[j].ptr).1
  have o2 := (o1.stored j es[i].ptr).1
  refine ⟨?_, ?_, ?_⟩
  · show World.ownsRow ((((w.setCell ⟨g, i, none⟩ es[j].ptr).setCell ⟨g, j, none⟩ es[i].ptr).setCell ⟨es[j].blk, 2, none⟩ (.int .i64 i)).setCell ⟨es[i].blk, 2, none⟩ (.int .i64 j)) _ _ _ _ _ _
    have e : ((es.map Ent.ptr).set i es[j].ptr).set j es[i].ptr = (swapL es i j).map Ent.ptr := by unfold swapL; rw [map_set, map_set, getElem!_pos es i hi, getElem!_pos es j hj]
    rw [e] at o2
    rw [swapL_length]
    exact ownsRow_setCell_other (ownsRow_setCell_other o2 (a := ⟨es[j].blk, 2, none⟩) (by simpa [Value.ownBlock] using hgj) _) (a := ⟨es[i].blk, 2, none⟩) (by simpa [Value.ownBlock] using hgi) _
  · intro k hk
    have hk' : k < es.length := by rwa [swapL_length] at hk
    have hg := swapL_get es i j k hi hj hk'
    rw [getElem!_pos (swapL es i j) k hk] at hg
    rw [hg]
    have hgk : es[k].blk ≠ g := (h.row_ne k hk').symm
    by_cases h1 : k = j
    · subst h1
      rw [if_pos rfl]
      exact (((((h.ent i hi).other hgi.symm i _).other hgi.symm k _).other hbb.symm 2 _).put k).drewN m
    · rw [if_neg h1]
      by_cases h2 : k = i
      · subst h2
        rw [if_pos rfl]
        exact (((((h.ent j hj).other hgj.symm k _).other hgj.symm j _).put k).other hbb 2 _).drewN m
      · rw [if_neg h2]
        have n1 : es[k].blk ≠ es[i].blk := fun e => h2 (h.blk_inj hk' hi e)
        have n2 : es[k].blk ≠ es[j].blk := fun e => h1 (h.blk_inj hk' hj e)
        exact (((((h.ent k hk').other hgk i _).other hgk j _).other n2 2 _).other n1 2 _).drewN m
  · intro e he
    exact h.base e (mem_swapL hi hj he)
theorem swap_calls (B g n cap : Nat) (es : List Ent) (i j : Nat) (w : World) (h : Pile w B (.slice (some ⟨g, 0, none⟩) n cap) es) (hn : n = es.length) (hi : i < es.length) (hj : j < es.length) (hij : i ≠ j) :
    Calls Try.prog 82 #[.slice (some ⟨g, 0, none⟩) n cap, .int .i64 i, .int .i64 j] w fun e w' => e = .returned (.tuple #[]) ∧ Pile w' B (.slice (some ⟨g, 0, none⟩) n cap) (swapL es i j) ∧ Frame (Pile.Foot (.slice (some ⟨g, 0, none⟩) n cap) es) w w' ∧ w'.heap.size = w.heap.size := by
  obtain ⟨cur, hg⟩ := h.row
  refine (swap_walk g n cap es[i].blk es[j].blk i j w (by omega) (by omega) hij (h.row_ne i hi) (h.row_ne j hj) (fun e => hij (h.blk_inj hi hj e)) (h.cell i hi) (h.cell j hj) (free_of hg i) (free_of hg j)
    ⟨_, (cell_of (h.ent i hi) 2).trans rfl⟩ ⟨_, (cell_of (h.ent j hj) 2).trans rfl⟩ (free_of (h.ent i hi) 2) (free_of (h.ent j hj) 2)).mono ?_
  rintro e w' ⟨rfl, m, rfl⟩
  refine ⟨rfl, h.swapped hn i j hi hj hij m, ?_, by simp [World.setCell]⟩
  have f0 := Frame.refl (Pile.Foot (.slice (some ⟨g, 0, none⟩) n cap) es) w
  exact ((((f0.setCell ⟨g, i, none⟩ (fun _ => .inl rfl) _).setCell ⟨g, j, none⟩ (fun _ => .inl rfl) _).setCell ⟨es[j].blk, 2, none⟩ (fun _ => .inr ⟨_, List.getElem_mem _, rfl⟩) _).setCell ⟨es[i].blk, 2, none⟩ (fun _ => .inr ⟨_, List.getElem_mem _, rfl⟩) _).drewN m
end Go.Proofs.Ytnnebkmjeigflaa.L
