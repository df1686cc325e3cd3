/- A map of numbers to times; rows of numbers open to the walk; Until by the list alone. -/
import Derived.Test.YtnnebkmjeigflaaDoes
namespace Go.Proofs.Ytnnebkmjeigflaa.L
open Go.RowKit Go.Maps

/-- What the map has under each number. -/
def Tills (f : Lit → Option Value) (l : List (Int × Int)) : Prop :=
  ∀ a, Wf a → (∀ p ∈ l, p.1 = a → f (.int .i64 a) = some (.int .i64 p.2)) ∧ ((∀ p ∈ l, p.1 ≠ a) → f (.int .i64 a) = none)
theorem tills_nil : Tills (fun _ => none) [] := fun a _ => ⟨fun p hp => (by cases hp), fun _ => rfl⟩
theorem tills_step {f : Lit → Option Value} {l : List (Int × Int)} (h : Tills f l) {e : Int × Int} (hn : ∀ x ∈ l, x.1 ≠ e.1) : Tills (putF f (.int .i64 e.1) (some (.int .i64 e.2))) (l ++ [e]) := fun a ha => by
  unfold putF
  have hs : (Lit.int .i64 a).sameKey (.int .i64 e.1) = true ↔ a = e.1 := by
    rw [WideAt.sameKey_iff (by trivial)]
    constructor
    · intro h; injection h
    · intro h; rw [h]
  refine ⟨fun x hx hid => ?_, fun hx => ?_⟩
  · rcases List.mem_append.1 hx with h1 | h1
    · rw [if_neg (fun e2 => hn x h1 (hid.trans (hs.1 e2)))]
      exact (h a ha).1 x h1 hid
    · obtain rfl := List.mem_singleton.1 h1
      rw [if_pos (hs.2 hid.symm)]
  · rw [if_neg (fun e2 => hx e (List.mem_append.2 (.inr (List.mem_singleton.2 rfl))) (hs.1 e2).symm)]
    exact (h a ha).2 fun x h1 => hx x (List.mem_append.2 (.inl h1))
theorem apart_eq {l : List (Int × Int)} (h : ApartKV l) : ∀ p ∈ l, ∀ q ∈ l, p.1 = q.1 → p = q := by
  unfold ApartKV at h
  induction l with
  | nil => intro p hp; cases hp
  | cons x l ih =>
    rw [List.pairwise_cons] at h
    intro p hp q hq e
    rcases List.mem_cons.1 hp with e1 | h1
    · rcases List.mem_cons.1 hq with e2 | h2
      · exact e1.trans e2.symm
      · exact absurd (e1 ▸ e) (h.1 q h2)
    · rcases List.mem_cons.1 hq with e2 | h2
      · exact absurd (e2 ▸ e).symm (h.1 p h1)
      · exact ih h.2 p h1 q h2 e
theorem untilV_in {es : List Ent} {L : List (Int × Int)} (hA : Apart es) (hp : (es.map kv).Perm L) {p : Int × Int} (h : p ∈ L) : untilV es p.1 = .tuple #[.int .i64 p.2, .bool true] := by
  have hm := hp.mem_iff.2 h
  obtain ⟨e, he, hk⟩ := List.mem_map.1 hm
  unfold untilV
  cases hf : es.find? (fun x => x.id == p.1) with
  | none =>
    have := List.find?_eq_none.1 hf e he
    rw [← hk] at this
    simp [kv] at this
  | some x =>
    have hx := List.mem_of_find?_eq_some hf
    have hid : x.id = p.1 := by simpa using List.find?_some hf
    have e1 : kv x = p := apart_eq (apart_kv hA) (kv x) (List.mem_map_of_mem hx) p hm hid
    have e2 : x.till = p.2 := by rw [← e1]; rfl
    show Value.tuple #[.int .i64 x.till, .bool true] = _
    rw [e2]
theorem untilV_out {es : List Ent} {L : List (Int × Int)} (hp : (es.map kv).Perm L) {id : Int} (h : ∀ p ∈ L, p.1 ≠ id) : untilV es id = .tuple #[.int .i64 0, .bool false] := by
  unfold untilV
  cases hf : es.find? (fun x => x.id == id) with
  | none => rfl
  | some x =>
    have hx := List.mem_of_find?_eq_some hf
    have hid : x.id = id := by simpa using List.find?_some hf
    exact absurd hid (h (kv x) (hp.mem_iff.1 (List.mem_map_of_mem hx)))
/-- A row of numbers in a block of its own. -/
def Row (w : World) (B : Nat) (ao : Option Addr) (l : List (Int × Int)) : Prop := ∀ w' : World, (∀ k, B ≤ k → k < w.heap.size → w'.heap[k]? = w.heap[k]?) → ∀ i (h : i < l.length), ∃ a, ao = some a ∧ w'.cell? (a.add i) = some (.int .i64 l[i].1)
theorem row_open {w : World} {B : Nat} {v : Value} {l : List (Int × Int)} (h : w.ownsRow B 3 1 v l.length (l.map intV)) : ∃ ao c, v = .slice ao l.length c ∧ Row w B ao l := by
  rcases h.2 with ⟨rfl, h0⟩ | ⟨g, cap, cur, rfl, hb, hg, _⟩
  · exact ⟨none, 0, by rw [h0], fun w' _ i hi => absurd hi (by rw [h0]; exact Nat.not_lt_zero _)⟩
  · refine ⟨_, _, rfl, fun w' hw i hi => ⟨_, rfl, ?_⟩⟩
    have h1 := (owns_cells h i (by rw [List.length_map]; exact hi)).1
    rw [List.getElem_map] at h1
    rw [add_block, World.cell?_of_block (w := w) (hw g hb (lt_of_block hg)), h1]
    rfl
theorem Row.at {w w' : World} {B : Nat} {ao : Option Addr} {l : List (Int × Int)} (h : Row w B ao l) {S : Nat → Prop} (hf : Frame S w w') (hS : ∀ k, S k → k < B) : ∀ i (h : i < l.length), ∃ a, ao = some a ∧ w'.cell? (a.add i) = some (.int .i64 l[i].1) :=
  h w' fun k h1 h2 => hf.block k h2 (fun s => by have := hS k s; omega)
theorem drop_late {L : List (Int × Int)} (h : L.Pairwise ltKV) (now : Int) : ∀ p ∈ L.dropWhile (fun p => decide (p.2 ≤ now)), now < p.2 := by
  induction L with
  | nil => intro p hp; cases hp
  | cons x L ih =>
    rw [List.pairwise_cons] at h
    intro p hp
    rw [List.dropWhile_cons] at hp
    split at hp
    · exact ih h.2 p hp
    · rename_i hx
      have hx' : now < x.2 := by simpa using hx
      rcases List.mem_cons.1 hp with rfl | hp
      · exact hx'
      · have := h.1 p hp
        unfold ltKV at this
        omega
theorem take_early {L : List (Int × Int)} (now : Int) : ∀ p ∈ L.takeWhile (fun p => decide (p.2 ≤ now)), p.2 ≤ now := fun p hp => by
  have := List.all_takeWhile (p := fun p : Int × Int => decide (p.2 ≤ now)) (l := L)
  simpa using List.all_eq_true.1 this p hp
theorem frame_past {S : Nat → Prop} {w w1 w2 : World} (h : Frame S w w1) (hb : Below w1.heap.size w1 w2) : Frame S w w2 := h.then (Frame.of_below (S := S) hb) (fun _ _ s => s)
theorem apart_of {es : List Ent} {L : List (Int × Int)} (hA : Apart es) (hp : (es.map kv).Perm L) : ApartKV L := (hp.pairwise_iff (R := fun a b : Int × Int => a.1 ≠ b.1) (fun h => h.symm)).1 (apart_kv hA)
theorem apart_take {L : List (Int × Int)} (h : ApartKV L) (i : Nat) (hi : i < L.length) : ∀ x ∈ L.take i, x.1 ≠ L[i].1 := fun x hx => by
  unfold ApartKV at h
  rw [List.pairwise_iff_getElem] at h
  obtain ⟨j, hj, rfl⟩ := List.getElem_of_mem hx
  rw [List.length_take] at hj
  rw [List.getElem_take]
  exact h j i (by omega) hi (by omega)
theorem apart_split {L : List (Int × Int)} (h : ApartKV L) (now : Int) : ∀ x ∈ L.takeWhile (fun p => decide (p.2 ≤ now)), ∀ y ∈ L.dropWhile (fun p => decide (p.2 ≤ now)), y.1 ≠ x.1 := fun x hx y hy => by
  unfold ApartKV at h
  rw [← List.takeWhile_append_dropWhile (p := fun p : Int × Int => decide (p.2 ≤ now)) (l := L), List.pairwise_append] at h
  exact (h.2.2 x hx y hy).symm
theorem Kmap.past {k : TypeId} {P : Program} {w w' : World} {b n : Nat} {f : Lit → Option Value} (h : Kmap P k w b n f) (hb : Below w.heap.size w w') : Kmap P k w' b n f := h.of (hb.block b h.lt)
theorem below_drewN {w0 w : World} {B : Nat} (h : Below B w0 w) (n : Nat) : Below B w0 (w.drewN n) := ⟨h.os, h.tape, h.output, h.size, h.block⟩
end Go.Proofs.Ytnnebkmjeigflaa.L
