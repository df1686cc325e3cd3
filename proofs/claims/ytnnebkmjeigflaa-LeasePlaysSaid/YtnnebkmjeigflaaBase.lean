/- What a call of the queue leaves as it was: frames over sets of blocks, and blocks by their whole text. -/
import Derived.Test.YtnnebkmjeigflaaProg
import Derived.WalkKit
import Derived.Below
import Derived.OneCell
import Derived.WalkLawsBesides
import Derived.WalkSpells
import Derived.Deep.QuietTactic
import Derived.BigQuiet
import Derived.KernelRfl
namespace Go.Proofs.Ytnnebkmjeigflaa.L
open Go.RowKit

/-- A fact that the walk does not look into. -/
structure Box (p : Prop) : Prop where
  out : p

/-- All blocks that lay in w, but those of S, are as they were. -/
structure Frame (S : Nat → Prop) (w w' : World) : Prop where
  os : w'.os = w.os
  tape : w'.tape = w.tape
  output : w'.output = w.output
  size : w.heap.size ≤ w'.heap.size
  block : ∀ k, k < w.heap.size → ¬ S k → w'.heap[k]? = w.heap[k]?
theorem Frame.refl (S : Nat → Prop) (w : World) : Frame S w w := ⟨rfl, rfl, rfl, Nat.le_refl _, fun _ _ _ => rfl⟩
theorem Frame.trans {S S' T : Nat → Prop} {a b c : World} (h : Frame S a b) (k : Frame S' b c) (hS : ∀ i, i < a.heap.size → S i → T i) (hS' : ∀ i, i < a.heap.size → S' i → T i) : Frame T a c :=
  ⟨k.os.trans h.os, k.tape.trans h.tape, k.output.trans h.output, Nat.le_trans h.size k.size, fun i hi hn =>
    (k.block i (Nat.lt_of_lt_of_le hi h.size) (fun s => hn (hS' i hi s))).trans (h.block i hi (fun s => hn (hS i hi s)))⟩
theorem Frame.mono {S T : Nat → Prop} {a b : World} (h : Frame S a b) (hS : ∀ i, i < a.heap.size → S i → T i) : Frame T a b :=
  ⟨h.os, h.tape, h.output, h.size, fun i hi hn => h.block i hi (fun s => hn (hS i hi s))⟩
theorem Frame.of_below {S : Nat → Prop} {w w' : World} (h : Below w.heap.size w w') : Frame S w w' := ⟨h.os, h.tape, h.output, h.size, fun k hk _ => h.block k hk⟩
theorem Frame.below {S : Nat → Prop} {B : Nat} {w w' : World} (h : Frame S w w') (hB : B ≤ w.heap.size) (hS : ∀ k, S k → B ≤ k) : Below B w w' :=
  ⟨h.os, h.tape, h.output, h.size, fun k hk => h.block k (by omega) (fun s => by have := hS k s; omega)⟩
theorem Frame.alloc {S : Nat → Prop} {a w : World} (h : Frame S a w) (o : Obj) : Frame S a (w.alloc o) :=
  ⟨h.os, h.tape, h.output, by have := h.size; simp; omega, fun k hk hn => (Below.heap_alloc _ _ _ (Nat.lt_of_lt_of_le hk h.size)).trans (h.block k hk hn)⟩
theorem Frame.drew {S : Nat → Prop} {a w : World} (h : Frame S a w) : Frame S a w.drew := ⟨h.os, h.tape, h.output, h.size, h.block⟩
theorem Frame.drewN {S : Nat → Prop} {a w : World} (h : Frame S a w) (n : Nat) : Frame S a (w.drewN n) := ⟨h.os, h.tape, h.output, h.size, h.block⟩
theorem Frame.setCell {S : Nat → Prop} {a w : World} (h : Frame S a w) (p : Addr) (hp : p.block < a.heap.size → S p.block) (u : Value) : Frame S a (w.setCell p u) :=
  ⟨h.os, h.tape, h.output, by have := h.size; simp [World.setCell]; omega, fun k hk hn =>
    (Below.heap_setCell _ _ _ _ (fun e => hn (by subst e; exact hp hk))).trans (h.block k hk hn)⟩
theorem Frame.grown {S : Nat → Prop} {a w w' : World} {row : Option Nat} (h : Frame S a w) (hg : w.grownBy w' row) (hr : ∀ k, row = some k → k < a.heap.size → S k) : Frame S a w' :=
  ⟨hg.os.trans h.os, hg.tape.trans h.tape, hg.output.trans h.output, Nat.le_trans h.size hg.size, fun k hk hn =>
    (hg.block k (Nat.lt_of_lt_of_le hk h.size) (fun e => hn (hr k e.symm hk))).trans (h.block k hk hn)⟩
theorem Frame.then {S : Nat → Prop} {a w w' : World} (h : Frame S a w) {S' : Nat → Prop} (k : Frame S' w w') (hS : ∀ i, i < a.heap.size → S' i → S i) : Frame S a w' := h.trans k (fun _ _ s => s) hS
theorem Frame.get {S : Nat → Prop} {w w' : World} (h : Frame S w w') {k : Nat} {o : Obj} (hk : w.heap[k]? = some o) (hn : ¬ S k) : w'.heap[k]? = some o := (h.block k (lt_of_block hk) hn).trans hk

/-- A cell of a block that is known whole; that it may be written. -/
theorem cell_of {w : World} {b : Nat} {cs : Array Value} {t : TypeId} (h : w.heap[b]? = some (.cells cs t (0, 0))) (i : Nat) : w.cell? ⟨b, i, none⟩ = cs[i]? := by simp [World.cell?, h]
theorem free_of {w : World} {b : Nat} {cs : Array Value} {t : TypeId} (h : w.heap[b]? = some (.cells cs t (0, 0))) (i : Nat) : w.frozen? ⟨b, i, none⟩ = false := by simp [World.frozen?, h]
theorem set_same {w : World} {b : Nat} {cs : Array Value} {t : TypeId} (h : w.heap[b]? = some (.cells cs t (0, 0))) (i : Nat) (u : Value) : (w.setCell ⟨b, i, none⟩ u).heap[b]? = some (.cells (cs.setIfInBounds i u) t (0, 0)) := by
  simp [World.setCell, Array.getElem?_modify, h]
theorem set_other {w : World} {b k : Nat} (hk : k ≠ b) (i : Nat) (u : Value) : (w.setCell ⟨b, i, none⟩ u).heap[k]? = w.heap[k]? := Below.heap_setCell _ _ _ _ hk
theorem new_block (w : World) (o : Obj) : (w.alloc o).heap[w.heap.size]? = some o := heap_alloc_new w o
theorem old_block {w : World} {k : Nat} {o : Obj} (h : w.heap[k]? = some o) (o' : Obj) : (w.alloc o').heap[k]? = some o := (Below.heap_alloc _ _ _ (lt_of_block h)).trans h
/-- Blocks of other elements are other blocks. -/
theorem blk_ne {w : World} {a b : Nat} {cs ds : Array Value} {s t : TypeId} {f g : Nat × Nat} (ha : w.heap[a]? = some (.cells cs s f)) (hb : w.heap[b]? = some (.cells ds t g)) (h : s ≠ t) : a ≠ b := fun e => by
  subst e; rw [ha] at hb; exact h (by injection hb with h1; injection h1)

/-! ### a region that draws, whose callees read and lay blocks: the class of the worlds that have grown out of one -/
/-- A world that has grown out of w: all that lay in w lies in it. -/
structure Past (w : World) where
  to : World
  below : Below w.heap.size w to
instance (w : World) : Inhabited (Past w) := ⟨⟨w, Below.refl _ w⟩⟩
theorem wp_region_past {P : Program} {id : Nat} {Q : Exit → Act → World → Prop} {a : Act} {w : World} {l : List Oper} (hm : P.follows .mixedOrders = true) (hB : Region.lexB .any l.toArray = true)
    (h : wpQuiet P l.toArray (fun w' => ∃ p : Past w, w' = p.to) (fun a' => ∀ w', (∃ p : Past w, w' = p.to) → Q .normal a' w') l a) : (Code.region id l.toArray true).wp P Q a w :=
  wp_region_quiet (C := fun w' => ∃ p : Past w, w' = p.to) hm hB ⟨⟨w.drew, (Below.refl _ w).drew⟩, rfl⟩ (by simpa using h)
theorem Past.cell {w : World} (p : Past w) {a : Addr} {v : Value} (h : w.cell? a = some v) : p.to.cell? a = some v := (p.below.cell (World.block_lt_of_cell? w a h)).trans h
theorem Past.get {w : World} (p : Past w) {k : Nat} {o : Obj} (h : w.heap[k]? = some o) : p.to.heap[k]? = some o := (p.below.block k (lt_of_block h)).trans h
theorem calls_past {P : Program} {f : FuncId} {args : Array Value} {w : World} {p : Past w} {v : Value}
    (h : Calls P f args p.to fun e w' => e = .returned v ∧ Below p.to.heap.size p.to w') : Calls P f args p.to fun e w'' => e = .returned v ∧ ∃ p' : Past w, w'' = p'.to :=
  h.mono fun _ w' ⟨he, hb⟩ => ⟨he, ⟨w', p.below.trans (hb.mono p.below.size)⟩, rfl⟩
theorem calls_past_same {P : Program} {f : FuncId} {args : Array Value} {w : World} {p : Past w} {v : Value}
    (h : Calls P f args p.to fun e w' => e = .returned v ∧ p.to = w') : Calls P f args p.to fun e w'' => e = .returned v ∧ ∃ p' : Past w, w'' = p'.to :=
  h.mono fun _ _ ⟨he, hb⟩ => ⟨he, p, hb.symm⟩
/-! ### a method of an interface value whose type is known -/
theorem run_nilchk {P : Program} {w : World} (ts : Array TypeId) (t : TypeId) (a : Addr) (x y : String) : (Builtin.ssaWrapNilChk_ ts t #[.pointer (some a), strVal x, strVal y]).run P w = .ok (.pointer (some a)) w := rfl
theorem run_method_val {P : Program} {w : World} {t elem : TypeId} {f fuel : Nat} {nm : String} {a : Addr} {v : Value}
    (hi : (P.info? t).map (fun i => (i.methods.find? (·.name == nm)).map (fun m => (m.func, m.path))) = some (some (some (f, false), #[]))) (ht : P.underlying t = some (.pointer elem))
    (hl : ∀ w, (isAgg elem).run P w = .ok false w) (h : w.cell? a = some v) : (method (fuel + 1) t (.pointer (some a)) nm).run P w = .ok (f, v) w := by
  obtain ⟨i, hi, hm⟩ := Option.map_eq_some_iff.1 hi
  obtain ⟨m, hm, hf⟩ := Option.map_eq_some_iff.1 hm
  injection hf with h1 h2
  simp [method, typeInfo, hi, hm, h1, h2, follow, receiverAt, run_underlying ht, Place.get, run_nilchk, loadVar, hl, h, go_sem]
theorem run_method_ptr {P : Program} {w : World} {t elem : TypeId} {f fuel : Nat} {nm : String} {v : Value}
    (hi : (P.info? t).map (fun i => (i.methods.find? (·.name == nm)).map (fun m => (m.func, m.path))) = some (some (some (f, true), #[]))) (ht : P.underlying t = some (.pointer elem)) :
    (method (fuel + 1) t v nm).run P w = .ok (f, v) w := by
  obtain ⟨i, hi, hm⟩ := Option.map_eq_some_iff.1 hi
  obtain ⟨m, hm, hf⟩ := Option.map_eq_some_iff.1 hm
  injection hf with h1 h2
  simp [method, typeInfo, hi, hm, h1, h2, follow, receiverAt, run_underlying ht, Place.get, go_sem]
end Go.Proofs.Ytnnebkmjeigflaa.L
