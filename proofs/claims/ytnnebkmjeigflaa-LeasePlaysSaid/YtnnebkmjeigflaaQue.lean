/- The queue: its block, its map, its pile; New, ok. -/
import Derived.Test.YtnnebkmjeigflaaRemove
import Derived.Test.YtnnebkmjeigflaaKmap
import Derived.WalkSpells
namespace Go.Proofs.Ytnnebkmjeigflaa.L
open Go.RowKit Go.Maps

def Wf (a : Int) : Prop := (Lit.int .i64 a).wf = true
theorem wf_iff (a : Int) : Wf a ↔ -9223372036854775808 ≤ a ∧ a ≤ 9223372036854775807 := by
  unfold Wf
  have hmin : IntKind.i64.min = -9223372036854775808 := rfl
  have hmax : IntKind.i64.max = 9223372036854775807 := rfl
  simp only [Lit.wf, Bool.and_eq_true, decide_eq_true_eq, hmin, hmax]
theorem keyed : Keyed Try.prog 3 := int_keyed Try.underlying3
theorem key_of {a : Int} (h : Wf a) : keyOf Try.prog 3 (.int .i64 a) = some (.int .i64 a) := keyOf_int_mk Try.underlying3 h
/-- What the map has under each number. -/
def Knows (f : Lit → Option Value) (es : List Ent) : Prop :=
  ∀ a, Wf a → (∀ e ∈ es, e.id = a → f (.int .i64 a) = some e.ptr) ∧ ((∀ e ∈ es, e.id ≠ a) → f (.int .i64 a) = none)
theorem Knows.perm {f : Lit → Option Value} {es es' : List Ent} (h : Knows f es) (hp : es'.Perm es) : Knows f es' := fun a ha =>
  ⟨fun e he => (h a ha).1 e (hp.mem_iff.1 he), fun hn => (h a ha).2 fun e he => hn e (hp.mem_iff.2 he)⟩
def Apart (es : List Ent) : Prop := es.Pairwise fun a b => a.id ≠ b.id
theorem Apart.perm {es es' : List Ent} (h : Apart es) (hp : es'.Perm es) : Apart es' := (hp.symm.pairwise_iff (R := fun a b : Ent => a.id ≠ b.id) (fun h => h.symm)).1 h
/-- A queue in blocks qb (itself) and m (its map), of the call's own from B on. -/
structure Que (w : World) (B qb m : Nat) (v : Value) (es : List Ent) : Prop where
  q : QAt w qb v (.map (some m))
  pile : Pile w B v es
  map : ∃ f, Kmap Try.prog 3 w m es.length f ∧ Knows f es
  heap : Heap es es.length
  apart : Apart es
  wf : ∀ e ∈ es, Wf e.id ∧ Wf e.till ∧ 1 ≤ e.id
  few : es.length ≤ 1024
  bq : B ≤ qb
  bm : B ≤ m
/-- What the queue's calls may turn. -/
def Que.Foot (qb m : Nat) (v : Value) (es : List Ent) (k : Nat) : Prop := k = qb ∨ k = m ∨ Pile.Foot v es k
theorem Pile.foot_cells {w : World} {B k : Nat} {v : Value} {es : List Ent} (h : Pile w B v es) (hF : Pile.Foot v es k) : ∃ cs s, w.heap[k]? = some (.cells cs s (0, 0)) := by
  rcases hF with hv | ⟨e, he, rfl⟩
  · rcases h.own.2 with ⟨rfl, _⟩ | ⟨g, cap, cur, rfl, _, hg, _⟩
    · simp [Value.ownBlock] at hv
    · simp [Value.ownBlock] at hv
      subst hv
      exact ⟨_, _, hg⟩
  · obtain ⟨i, hi, rfl⟩ := List.getElem_of_mem he
    exact ⟨_, _, h.ent i hi⟩
theorem Pile.foot_base {w : World} {B k : Nat} {v : Value} {es : List Ent} (h : Pile w B v es) (hF : Pile.Foot v es k) : B ≤ k ∧ k < w.heap.size := by
  obtain ⟨cs, s, hk⟩ := h.foot_cells hF
  refine ⟨?_, lt_of_block hk⟩
  rcases hF with hv | ⟨e, he, rfl⟩
  · exact (h.own.lt k hv).1
  · exact h.base e he
theorem Que.foot_base {w : World} {B qb m k : Nat} {v : Value} {es : List Ent} (h : Que w B qb m v es) (hF : Que.Foot qb m v es k) : B ≤ k ∧ k < w.heap.size := by
  rcases hF with rfl | rfl | hF
  · exact ⟨h.bq, lt_of_block h.q⟩
  · obtain ⟨f, hf, _⟩ := h.map
    exact ⟨h.bm, hf.lt⟩
  · exact h.pile.foot_base hF
theorem Que.map_apart {w : World} {B qb m : Nat} {v : Value} {es : List Ent} (h : Que w B qb m v es) : qb ≠ m ∧ ¬ Pile.Foot v es m := by
  obtain ⟨f, hf, _⟩ := h.map
  refine ⟨hf.ne_cells h.q, fun hF => ?_⟩
  obtain ⟨cs, s, hk⟩ := h.pile.foot_cells hF
  exact hf.ne_cells hk rfl
theorem Pile.of {w w' : World} {B : Nat} {v : Value} {es : List Ent} (h : Pile w B v es) (hh : ∀ k, Pile.Foot v es k → w'.heap[k]? = w.heap[k]?) : Pile w' B v es := by
  refine ⟨⟨h.own.1, ?_⟩, fun i hi => (h.ent i hi).of (hh _ (.inr ⟨_, List.getElem_mem _, rfl⟩)), h.base⟩
  rcases h.own.2 with hn | ⟨g, cap, cur, rfl, hb, hg, hr⟩
  · exact .inl hn
  · exact .inr ⟨g, cap, cur, rfl, hb, (hh g (.inl rfl)).trans hg, hr⟩
theorem Que.of {w w' : World} {B qb m : Nat} {v : Value} {es : List Ent} (h : Que w B qb m v es) (hh : ∀ k, Que.Foot qb m v es k → w'.heap[k]? = w.heap[k]?) : Que w' B qb m v es := by
  obtain ⟨f, hf, hk⟩ := h.map
  exact { h with q := (hh qb (.inl rfl)).trans h.q, pile := h.pile.of (fun k hF => hh k (.inr (.inr hF))), map := ⟨f, hf.of (hh m (.inr (.inl rfl))), hk⟩ }
theorem Que.past {w w' : World} {B qb m : Nat} {v : Value} {es : List Ent} (h : Que w B qb m v es) (hb : Below w.heap.size w w') : Que w' B qb m v es := h.of fun k hF => hb.block k (h.foot_base hF).2
theorem Que.slice {w : World} {B qb m : Nat} {v : Value} {es : List Ent} (h : Que w B qb m v es) : ∃ ao cap, v = .slice ao es.length cap ∧ (es ≠ [] → ∃ g, ao = some ⟨g, 0, none⟩) := by
  rcases h.pile.own.2 with ⟨rfl, h0⟩ | ⟨g, cap, cur, rfl, _⟩
  · exact ⟨none, 0, by rw [h0], fun hn => absurd (List.length_eq_zero_iff.1 h0) hn⟩
  · exact ⟨_, _, rfl, fun _ => ⟨g, rfl⟩⟩

set_option maxHeartbeats 1000000 in
set_option maxRecDepth 100000 in
theorem new_calls (w : World) : Calls Try.prog 8 #[] w fun e w' => ∃ qb m, e = .returned (.pointer (some ⟨qb, 0, none⟩)) ∧ Que w' w.heap.size qb m (.slice none 0 0) [] ∧ Below w.heap.size w w' := by
  have hmm := @run_makeMap Try.prog
  go_enter Try.func8, Try.ntmps8
  go_wp2
  go_ret
  refine ⟨w.heap.size + 1, w.heap.size, rfl, ?_, ((Below.refl _ w).alloc (Nat.le_refl _) _).alloc (by simp) _⟩
  have hm := (Kmap.made w Try.prog 3)
  have hq := new_block (w.alloc (.map #[] 0)) (.cells #[.slice none 0 0, .map (some w.heap.size)] 57)
  rw [World.size_alloc] at hq
  exact { q := hq, pile := ⟨World.ownsRow_nil _ _ _ _, fun i hi => absurd hi (Nat.not_lt_zero _), fun e he => (by cases he)⟩, map := ⟨_, hm.of (Below.heap_alloc _ _ _ (by simp)), fun a _ => ⟨fun e he => (by cases he), fun _ => rfl⟩⟩,
          heap := fun k h0 hk => absurd hk (Nat.not_lt_zero _), apart := List.Pairwise.nil, wf := fun e he => (by cases he), few := by decide, bq := by simp, bm := Nat.le_refl _ }
set_option maxHeartbeats 1000000 in
set_option maxRecDepth 100000 in
theorem ok_calls (B qb m : Nat) (v : Value) (es : List Ent) (w : World) (h : Que w B qb m v es) : Calls Try.prog 24 #[.pointer (some ⟨qb, 0, none⟩)] w fun e w' => e = .returned (.bool true) ∧ w = w' := by
  have c1 := h.q.c1
  have q1 := fun W r => run_neq_map_nil (P := Try.prog) W 55 3 61 r Try.underlying55
  clear h
  go_enter Try.func24, Try.ntmps24
  go_wp2
  go_ret
  exact ⟨rfl, rfl⟩
end Go.Proofs.Ytnnebkmjeigflaa.L
