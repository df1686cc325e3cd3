/- cmp.Or of two, order, and the queue's Less. -/
import Derived.Test.YtnnebkmjeigflaaBase
import Derived.Test.YtnnebkmjeigflaaShelf
import Derived.Deep.RegionHeld3
import Derived.Deep.LoopGhost
import Derived.StillTailTactics
import Derived.Deep.RegionWith
namespace Go.Proofs.Ytnnebkmjeigflaa.L
open Go.RowKit

def or2 (x y : Int) : Int := if x = 0 then y else x
set_option maxHeartbeats 1000000 in
theorem or_calls (g : Nat) (x y : Int) (w : World) (h0 : w.cell? ⟨g, 0, none⟩ = some (.int .i64 x)) (h1 : w.cell? ⟨g, 1, none⟩ = some (.int .i64 y)) :
    Calls Try.prog 40 #[.slice (some ⟨g, 0, none⟩) 2 2] w fun e w' => e = .returned (.int .i64 (or2 x y)) ∧ w = w' := by
  unfold or2
  by_cases hx : x = 0
  · rw [if_pos hx]
    subst hx
    by_cases hy : y = 0
    · subst hy
      go_enter Try.func40, Try.ntmps40
      go_wp2
      refine wp_loop_rounds 3 ?_
      rw [rounds_succ]
      go_wp2
      rw [rounds_succ]
      go_wp2
      rw [rounds_succ]
      go_wp2
      go_ret
      exact ⟨rfl, rfl⟩
    · have hy' : (y != 0) = true := by simpa using hy
      go_enter Try.func40, Try.ntmps40
      go_wp2
      refine wp_loop_rounds 2 ?_
      rw [rounds_succ]
      go_wp2
      rw [rounds_succ]
      go_wp2
      go_ret
      exact ⟨rfl, rfl⟩
  · rw [if_neg hx]
    have hx' : (x != 0) = true := by simpa using hx
    go_enter Try.func40, Try.ntmps40
    go_wp2
    refine wp_loop_rounds 1 ?_
    rw [rounds_succ]
    go_wp2
    go_ret
    exact ⟨rfl, rfl⟩

/-- A number, and until when it holds, and its block. -/
structure Ent where
  blk : Nat
  id : Int
  till : Int
  deriving Inhabited
def Ent.ptr (e : Ent) : Value := .pointer (some ⟨e.blk, 0, none⟩)
/-- Entry e lies in its block, at place i of the pile. -/
def EntAt (w : World) (e : Ent) (i : Nat) : Prop := w.heap[e.blk]? = some (.cells #[.int .i64 e.id, .int .i64 e.till, .int .i64 i] 63 (0, 0))
theorem EntAt.put {w : World} {e : Ent} {i : Nat} (h : EntAt w e i) (k : Nat) : EntAt (w.setCell ⟨e.blk, 2, none⟩ (.int .i64 k)) e k := by
  unfold EntAt at h ⊢
  rw [set_same h 2]
  rfl
theorem EntAt.other {w : World} {e : Ent} {i : Nat} (h : EntAt w e i) {b : Nat} (hb : e.blk ≠ b) (o : Nat) (u : Value) : EntAt (w.setCell ⟨b, o, none⟩ u) e i := (set_other hb o u).trans h
theorem EntAt.drewN {w : World} {e : Ent} {i : Nat} (h : EntAt w e i) (n : Nat) : EntAt (w.drewN n) e i := h
theorem EntAt.of {w w' : World} {e : Ent} {i : Nat} (h : EntAt w e i) (hh : w'.heap[e.blk]? = w.heap[e.blk]?) : EntAt w' e i := hh.trans h
theorem EntAt.lt {w : World} {e : Ent} {i : Nat} (h : EntAt w e i) : e.blk < w.heap.size := lt_of_block h
def ordE (a b : Ent) : Int := or2 (Lib.compareInt a.till b.till) (Lib.compareInt a.id b.id)

set_option maxHeartbeats 4000000 in
set_option maxRecDepth 100000 in
theorem order_exact (a b : Ent) (i j : Nat) (w : World) (ha : EntAt w a i) (hb : EntAt w b j) :
    Calls Try.prog 29 #[a.ptr, b.ptr] w fun e w' => e = .returned (.int .i64 (ordE a b)) ∧ ∃ o, w' = (w.alloc o).drew := by
  have a0 : w.cell? ⟨a.blk, 0, none⟩ = some (.int .i64 a.id) := (cell_of ha 0).trans rfl
  have a1 : w.cell? ⟨a.blk, 1, none⟩ = some (.int .i64 a.till) := (cell_of ha 1).trans rfl
  have b0 : w.cell? ⟨b.blk, 0, none⟩ = some (.int .i64 b.id) := (cell_of hb 0).trans rfl
  have b1 : w.cell? ⟨b.blk, 1, none⟩ = some (.int .i64 b.till) := (cell_of hb 1).trans rfl
  unfold ordE Ent.ptr
  obtain ⟨ab, ai, au⟩ := a
  obtain ⟨bb, bi, bu⟩ := b
  dsimp only at *
  clear ha hb
  obtain ⟨x, hx⟩ : ∃ x, Lib.compareInt au bu = x := ⟨_, rfl⟩
  obtain ⟨y, hy⟩ : ∃ y, Lib.compareInt ai bi = y := ⟨_, rfl⟩
  have c1 : ∀ W, Calls Try.prog 41 #[.int .i64 au, .int .i64 bu] W fun e w' => e = .returned (.int .i64 x) ∧ W = w' := fun W => by rw [← hx]; exact (Try.cmp_Compare_int au bu W).mono fun _ _ ⟨h, h'⟩ => ⟨h, h'.symm⟩
  have c2 : ∀ W, Calls Try.prog 41 #[.int .i64 ai, .int .i64 bi] W fun e w' => e = .returned (.int .i64 y) ∧ W = w' := fun W => by rw [← hy]; exact (Try.cmp_Compare_int ai bi W).mono fun _ _ ⟨h, h'⟩ => ⟨h, h'.symm⟩
  rw [hx, hy]
  clear hx hy
  go_enter Try.func29, Try.ntmps29
  go_wp2
  go_region_held3 (fun w' => w'.cell? ⟨ab, 0, none⟩ = some (.int .i64 ai) ∧ w'.cell? ⟨ab, 1, none⟩ = some (.int .i64 au) ∧ w'.cell? ⟨bb, 0, none⟩ = some (.int .i64 bi) ∧ w'.cell? ⟨bb, 1, none⟩ = some (.int .i64 bu)) (go_keep)
    (first | (go_at_call_of 41 au; refine (c1 _).mono ?_; rintro e w' ⟨rfl, rfl⟩) | (go_at_call_of 41 ai; refine (c2 _).mono ?_; rintro e w' ⟨rfl, rfl⟩) | (go_at_call 40; refine (or_calls _ x y _ (by simp) (by simp)).mono ?_; rintro e w' ⟨rfl, rfl⟩))
  all_goals
    go_wp2
    go_ret
    exact ⟨rfl, _, rfl⟩
theorem order_calls (a b : Ent) (i j : Nat) (w : World) (ha : EntAt w a i) (hb : EntAt w b j) :
    Calls Try.prog 29 #[a.ptr, b.ptr] w fun e w' => e = .returned (.int .i64 (ordE a b)) ∧ Below w.heap.size w w' :=
  (order_exact a b i j w ha hb).mono fun _ _ ⟨he, o, hw⟩ => ⟨he, by rw [hw]; exact ((Below.refl _ _).alloc (Nat.le_refl _) _).drew⟩

/-- The pile: its row of pointers (in block g), and its entries in their blocks. -/
structure Pile (w : World) (B : Nat) (v : Value) (es : List Ent) : Prop where
  own : w.ownsRow B 61 1 v es.length (es.map Ent.ptr)
  ent : ∀ i (h : i < es.length), EntAt w es[i] i
  base : ∀ e ∈ es, B ≤ e.blk
theorem Pile.cell {w : World} {B : Nat} {g cap n : Nat} {es : List Ent} (h : Pile w B (.slice (some ⟨g, 0, none⟩) n cap) es) (i : Nat) (hi : i < es.length) : w.cell? ⟨g, i, none⟩ = some es[i].ptr := by
  rcases h.own.2 with ⟨hv, _⟩ | ⟨g', cap', cur, hv, _, hg, _, _, _, ht⟩
  · cases hv
  · injection hv with h1 h2 h3
    injection h1 with h1
    injection h1 with h1
    subst h1
    have : (cur.toList.take (es.length * 1))[i]? = (es.map Ent.ptr)[i]? := by rw [ht]
    rw [List.getElem?_take, if_pos (by omega), List.getElem?_map, List.getElem?_eq_getElem hi] at this
    simp [World.cell?, hg] at this ⊢
    exact this

def lessE (a b : Ent) : Bool := decide (ordE a b < 0)
set_option maxHeartbeats 4000000 in
set_option maxRecDepth 100000 in
theorem less_calls (B g n cap : Nat) (es : List Ent) (i j : Nat) (w : World) (h : Pile w B (.slice (some ⟨g, 0, none⟩) n cap) es) (hn : n = es.length) (hi : i < es.length) (hj : j < es.length) :
    Calls Try.prog 81 #[.slice (some ⟨g, 0, none⟩) n cap, .int .i64 i, .int .i64 j] w fun e w' => e = .returned (.bool (lessE es[i] es[j])) ∧ Below w.heap.size w w' := by
  have ci := h.cell i hi
  have cj := h.cell j hj
  have ei := h.ent i hi
  have ej := h.ent j hj
  generalize es[i] = a at *
  generalize es[j] = b at *
  obtain ⟨o, ho⟩ : ∃ o, ordE a b = o := ⟨_, rfl⟩
  have co : ∀ p : Past w, Calls Try.prog 29 #[a.ptr, b.ptr] p.to fun e w' => e = .returned (.int .i64 o) ∧ Below p.to.heap.size p.to w' := fun p => by rw [← ho]; exact order_calls a b i j p.to (p.get ei) (p.get ej)
  have pi : ∀ p : Past w, p.to.cell? ⟨g, i, none⟩ = some a.ptr := fun p => p.cell ci
  have pj : ∀ p : Past w, p.to.cell? ⟨g, j, none⟩ = some b.ptr := fun p => p.cell cj
  unfold lessE
  rw [ho]
  unfold Ent.ptr at *
  have k1 : (i : Int) < n := by omega
  have k2 : (j : Int) < n := by omega
  have k3 : (0 : Int) ≤ i := by omega
  have k4 : (0 : Int) ≤ j := by omega
  clear h ei ej ci cj ho hn
  go_enter Try.func81, Try.ntmps81
  go_wp2
  refine wp_region_past (by kernel_rfl) (by kernel_rfl) ?_
  repeat (go_big_quiet_step ((go_at_call 29; refine calls_past (co _))))
  refine wpQuiet_nil ?_
  intro _ hw'
  obtain ⟨pw, hw''⟩ := hw'
  subst hw''
  go_wp2
  go_ret
  exact ⟨rfl, pw.below⟩
end Go.Proofs.Ytnnebkmjeigflaa.L
