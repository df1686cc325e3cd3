/- Two queues beside one another, and blocks that both let be. -/
import Derived.Test.YtnnebkmjeigflaaTills
namespace Go.Proofs.Ytnnebkmjeigflaa.L
open Go.RowKit Go.Maps

/-- A queue that has l and whose blocks are S. -/
def Held (w : World) (B qb : Nat) (l : List (Int × Int)) (S : Nat → Prop) : Prop := ∃ m v es, Que w B qb m v es ∧ (es.map kv).Perm l ∧ S = Que.Foot qb m v es
/-- What a call leaves of it. -/
def Went (w w' : World) (B qb : Nat) (l : List (Int × Int)) (S : Nat → Prop) : Prop := ∃ S', Held w' B qb l S' ∧ Frame S w w' ∧ ∀ k, S' k → S k ∨ w.heap.size ≤ k
theorem Held.live {w : World} {B qb : Nat} {l : List (Int × Int)} {S : Nat → Prop} (h : Held w B qb l S) : Live w B qb l := by
  obtain ⟨m, v, es, h1, h2, _⟩ := h
  exact ⟨m, v, es, h1, h2⟩
theorem Held.lt {w : World} {B qb k : Nat} {l : List (Int × Int)} {S : Nat → Prop} (h : Held w B qb l S) (hk : S k) : B ≤ k ∧ k < w.heap.size := by
  obtain ⟨m, v, es, h1, h2, rfl⟩ := h
  exact h1.foot_base hk
theorem Held.of {w w' : World} {B qb : Nat} {l : List (Int × Int)} {S : Nat → Prop} (h : Held w B qb l S) (hh : ∀ k, S k → w'.heap[k]? = w.heap[k]?) : Held w' B qb l S := by
  obtain ⟨m, v, es, h1, h2, rfl⟩ := h
  exact ⟨m, v, es, h1.of hh, h2, rfl⟩
theorem Held.past {w w' : World} {B qb : Nat} {l : List (Int × Int)} {S : Nat → Prop} (h : Held w B qb l S) (hb : Below w.heap.size w w') : Held w' B qb l S := h.of fun k hk => hb.block k (h.lt hk).2
theorem Held.repl {w : World} {B qb : Nat} {l l' : List (Int × Int)} {S : Nat → Prop} (h : Held w B qb l S) (hp : l.Perm l') : Held w B qb l' S := by
  obtain ⟨m, v, es, h1, h2, rfl⟩ := h
  exact ⟨m, v, es, h1, h2.trans hp, rfl⟩
theorem Turned.went {w w' : World} {B qb m : Nat} {v v' : Value} {es es' : List Ent} {l : List (Int × Int)} (h : Turned w w' B qb m v es l v' es') : Went w w' B qb l (Que.Foot qb m v es) :=
  ⟨_, ⟨m, v', es', h.que, h.perm, rfl⟩, h.frame, h.foot⟩
theorem ownsRow_base {w : World} {B B' t s n : Nat} {v : Value} {xs : List Value} (h : w.ownsRow B t s v n xs) (hB : B' ≤ B) : w.ownsRow B' t s v n xs := owns_base h hB
theorem Que.base {w : World} {B B' qb m : Nat} {v : Value} {es : List Ent} (h : Que w B qb m v es) (hB : B' ≤ B) : Que w B' qb m v es :=
  { h with pile := ⟨owns_base h.pile.own hB, h.pile.ent, fun e he => Nat.le_trans hB (h.pile.base e he)⟩, bq := Nat.le_trans hB h.bq, bm := Nat.le_trans hB h.bm }
theorem put_held (B qb : Nat) (l : List (Int × Int)) (S : Nat → Prop) (id till : Int) (w : World) (h : Held w B qb l S) (hB : B ≤ w.heap.size) (hw : Wf id) (ht : Wf till) :
    Calls Try.prog 9 #[.pointer (some ⟨qb, 0, none⟩), .int .i64 id, .int .i64 till] w fun e w' => e = .returned (.int .i64 (putRes l id)) ∧ Went w w' B qb (stepPut l id till) S := by
  obtain ⟨m, v, es, hq, hp, rfl⟩ := h
  refine (put_calls B qb m v es id till w hq hB hw ht).mono ?_
  rintro e w' ⟨rfl, v', es', hT⟩
  exact ⟨by rw [putRes_perm hp], (hT.repl (stepPut_perm hp id till)).went⟩
theorem due_held (B qb : Nat) (L : List (Int × Int)) (S : Nat → Prop) (now : Int) (w : World) (h : Held w B qb L S) (hL : L.Pairwise ltKV) :
    Calls Try.prog 22 #[.pointer (some ⟨qb, 0, none⟩), .int .i64 now] w fun e w' => ∃ r, e = .returned r ∧ w'.ownsRow w.heap.size 3 1 r (dueIn L now).length ((dueIn L now).map intV) ∧ Went w w' B qb (dueOut L now) S := by
  obtain ⟨m, v, es, hq, hp, rfl⟩ := h
  refine (due_calls B qb m v es L now w hq ⟨hp.symm, hL⟩).mono ?_
  rintro e w' ⟨r, rfl, ho, v', es', hT⟩
  exact ⟨r, rfl, ho, hT.went⟩
theorem does_held (B qb : Nat) (L : List (Int × Int)) (S : Nat → Prop) (a : Act3) (w : World) (h : Held w B qb L S) (hB : B ≤ w.heap.size) (hL : L.Pairwise ltKV) (ha : a.Ok) :
    Calls Try.prog 14 #[.pointer (some ⟨qb, 0, none⟩), .agg #[.int .u8 a.kind, .int .i64 a.id, .int .i64 a.till]] w fun e w' =>
      ∃ r, e = .returned (.tuple #[r, .int .i64 (doesE L a)]) ∧ w'.ownsRow w.heap.size 3 1 r (doesR L a).length ((doesR L a).map intV) ∧ Went w w' B qb (doesL L a) S := by
  obtain ⟨m, v, es, hq, hp, rfl⟩ := h
  refine (does_calls B qb m v es L a w hq hB ⟨hp.symm, hL⟩ ha).mono ?_
  rintro e w' ⟨r, rfl, ho, v', es', hT⟩
  exact ⟨r, rfl, ho, hT.went⟩
theorem until_held (B qb : Nat) (L : List (Int × Int)) (S : Nat → Prop) (p : Int × Int) (w : World) (h : Held w B qb L S) (hp : p ∈ L) :
    Calls Try.prog 18 #[.pointer (some ⟨qb, 0, none⟩), .int .i64 p.1] w fun e w' => e = .returned (.tuple #[.int .i64 p.2, .bool true]) ∧ w = w' := by
  obtain ⟨m, v, es, hq, hpm, rfl⟩ := h
  obtain ⟨e0, he0, hk0⟩ := List.mem_map.1 (hpm.mem_iff.2 hp)
  have hwid : Wf p.1 := by rw [← hk0]; exact (hq.wf e0 he0).1
  have := until_calls B qb m v es p.1 w hq hwid
  rwa [untilV_in hq.apart hpm hp] at this
theorem first_held (B qb : Nat) (p : Int × Int) (L : List (Int × Int)) (S : Nat → Prop) (w : World) (h : Held w B qb (p :: L) S) (hL : (p :: L).Pairwise ltKV) :
    Calls Try.prog 16 #[.pointer (some ⟨qb, 0, none⟩)] w fun e w' => e = .returned (.tuple #[.int .i64 p.1, .int .i64 p.2, .bool true]) ∧ ∃ n, w' = w.drewN n := by
  obtain ⟨m, v, es, hq, hp, rfl⟩ := h
  have c := first_calls B qb m v es w hq
  cases es with
  | nil => exact absurd hp.length_eq (by simp)
  | cons e es =>
    obtain ⟨L', hL'⟩ := Rises.first (L := p :: L) ⟨hp.symm, hL⟩ hq.heap
    injection hL' with h1 h2
    subst h1
    exact c
theorem Held.wf {w : World} {B qb : Nat} {l : List (Int × Int)} {S : Nat → Prop} (h : Held w B qb l S) : ∀ p ∈ l, Wf p.1 ∧ Wf p.2 ∧ 1 ≤ p.1 := fun p hp => by
  obtain ⟨m, v, es, hq, hpm, rfl⟩ := h
  obtain ⟨e0, he0, hk0⟩ := List.mem_map.1 (hpm.mem_iff.2 hp)
  rw [← hk0]
  exact hq.wf e0 he0

/-- Two queues, apart from one another and from the blocks b0 .. b1, which are as they were in w0. -/
def Duo (w0 : World) (b0 b1 : Nat) (w : World) (B pb qb : Nat) (L M : List (Int × Int)) : Prop :=
  ∃ S T, Held w B pb L S ∧ Held w B qb M T ∧ (∀ k, S k → ¬ T k) ∧ ∀ k, b0 ≤ k → k < b1 → k < w.heap.size ∧ ¬ S k ∧ ¬ T k ∧ w.heap[k]? = w0.heap[k]?
variable {w0 w w' : World} {b0 b1 B pb qb : Nat} {L L' M M' : List (Int × Int)}
theorem Duo.swap (h : Duo w0 b0 b1 w B pb qb L M) : Duo w0 b0 b1 w B qb pb M L := by
  obtain ⟨S, T, h1, h2, h3, h4⟩ := h
  exact ⟨T, S, h2, h1, fun k ht hs => h3 k hs ht, fun k a b => ⟨(h4 k a b).1, (h4 k a b).2.2.1, (h4 k a b).2.1, (h4 k a b).2.2.2⟩⟩
theorem Duo.past (h : Duo w0 b0 b1 w B pb qb L M) (hb : Below w.heap.size w w') : Duo w0 b0 b1 w' B pb qb L M := by
  obtain ⟨S, T, h1, h2, h3, h4⟩ := h
  exact ⟨S, T, h1.past hb, h2.past hb, h3, fun k a b => ⟨Nat.lt_of_lt_of_le (h4 k a b).1 hb.size, (h4 k a b).2.1, (h4 k a b).2.2.1, (hb.block k (h4 k a b).1).trans (h4 k a b).2.2.2⟩⟩
theorem Duo.repl (h : Duo w0 b0 b1 w B pb qb L M) (hL : L.Perm L') (hM : M.Perm M') : Duo w0 b0 b1 w B pb qb L' M' := by
  obtain ⟨S, T, h1, h2, h3, h4⟩ := h
  exact ⟨S, T, h1.repl hL, h2.repl hM, h3, h4⟩
theorem Duo.step' {S T : Nat → Prop} (h1 : Held w B pb L S) (h2 : Held w B qb M T) (h3 : ∀ k, S k → ¬ T k) (h4 : ∀ k, b0 ≤ k → k < b1 → k < w.heap.size ∧ ¬ S k ∧ ¬ T k ∧ w.heap[k]? = w0.heap[k]?) (hB : B ≤ w.heap.size) (h : Went w w' B pb L' S) :
    (∃ S', Held w' B pb L' S' ∧ Held w' B qb M T ∧ (∀ k, S' k → ¬ T k) ∧ ∀ k, b0 ≤ k → k < b1 → k < w'.heap.size ∧ ¬ S' k ∧ ¬ T k ∧ w'.heap[k]? = w0.heap[k]?) ∧ Below B w w' := by
  obtain ⟨S', g1, g2, g3⟩ := h
  refine ⟨⟨S', g1, h2.of fun k hk => g2.block k (h2.lt hk).2 (fun hs => h3 k hs hk), fun k hs ht => ?_, fun k a b => ?_⟩, g2.below hB fun k hk => (h1.lt hk).1⟩
  · rcases g3 k hs with h | h
    · exact h3 k h ht
    · have := (h2.lt ht).2; omega
  · obtain ⟨p1, p2, p3, p4⟩ := h4 k a b
    refine ⟨Nat.lt_of_lt_of_le p1 g2.size, fun hs => ?_, p3, (g2.block k p1 p2).trans p4⟩
    rcases g3 k hs with h | h
    · exact p2 h
    · omega
theorem Duo.step {S T : Nat → Prop} (h1 : Held w B pb L S) (h2 : Held w B qb M T) (h3 : ∀ k, S k → ¬ T k) (h4 : ∀ k, b0 ≤ k → k < b1 → k < w.heap.size ∧ ¬ S k ∧ ¬ T k ∧ w.heap[k]? = w0.heap[k]?) (hB : B ≤ w.heap.size) (h : Went w w' B pb L' S) :
    Duo w0 b0 b1 w' B pb qb L' M ∧ Below B w w' := by
  obtain ⟨⟨S', g⟩, hb⟩ := Duo.step' (w0 := w0) (b0 := b0) (b1 := b1) h1 h2 h3 h4 hB h
  exact ⟨⟨S', T, g⟩, hb⟩
theorem put_duo (id till : Int) (h : Duo w0 b0 b1 w B pb qb L M) (hB : B ≤ w.heap.size) (hw : Wf id) (ht : Wf till) :
    Calls Try.prog 9 #[.pointer (some ⟨pb, 0, none⟩), .int .i64 id, .int .i64 till] w fun e w' => e = .returned (.int .i64 (putRes L id)) ∧ Duo w0 b0 b1 w' B pb qb (stepPut L id till) M ∧ Below B w w' := by
  obtain ⟨S, T, h1, h2, h3, h4⟩ := h
  refine (put_held B pb L S id till w h1 hB hw ht).mono ?_
  rintro e w' ⟨rfl, hW⟩
  exact ⟨rfl, Duo.step h1 h2 h3 h4 hB hW⟩
theorem does_duo (a : Act3) (h : Duo w0 b0 b1 w B pb qb L M) (hB : B ≤ w.heap.size) (hL : L.Pairwise ltKV) (ha : a.Ok) :
    Calls Try.prog 14 #[.pointer (some ⟨pb, 0, none⟩), .agg #[.int .u8 a.kind, .int .i64 a.id, .int .i64 a.till]] w fun e w' =>
      ∃ r, e = .returned (.tuple #[r, .int .i64 (doesE L a)]) ∧ Duo w0 b0 b1 w' B pb qb (doesL L a) M ∧ Below B w w' := by
  obtain ⟨S, T, h1, h2, h3, h4⟩ := h
  refine (does_held B pb L S a w h1 hB hL ha).mono ?_
  rintro e w' ⟨r, rfl, _, hW⟩
  exact ⟨r, rfl, Duo.step h1 h2 h3 h4 hB hW⟩
theorem Duo.live (h : Duo w0 b0 b1 w B pb qb L M) : Live w B pb L := by obtain ⟨S, T, h1, _⟩ := h; exact h1.live
theorem until_duo (p : Int × Int) (h : Duo w0 b0 b1 w B pb qb L M) (hp : p ∈ L) :
    Calls Try.prog 18 #[.pointer (some ⟨pb, 0, none⟩), .int .i64 p.1] w fun e w' => e = .returned (.tuple #[.int .i64 p.2, .bool true]) ∧ w = w' := by
  obtain ⟨S, T, h1, _⟩ := h; exact until_held B pb L S p w h1 hp
theorem first_duo (p : Int × Int) (h : Duo w0 b0 b1 w B pb qb (p :: L) M) (hL : (p :: L).Pairwise ltKV) :
    Calls Try.prog 16 #[.pointer (some ⟨pb, 0, none⟩)] w fun e w' => e = .returned (.tuple #[.int .i64 p.1, .int .i64 p.2, .bool true]) ∧ ∃ n, w' = w.drewN n := by
  obtain ⟨S, T, h1, _⟩ := h; exact first_held B pb p L S w h1 hL
theorem Duo.wf (h : Duo w0 b0 b1 w B pb qb L M) : ∀ p ∈ L, Wf p.1 ∧ Wf p.2 ∧ 1 ≤ p.1 := by obtain ⟨S, T, h1, _⟩ := h; exact h1.wf
/-- A row that was made before. -/
theorem Duo.row {ao : Option Addr} {l : List (Int × Int)} (h : Duo w0 b0 w0.heap.size w B pb qb L M) (hr : Row w0 b0 ao l) : ∀ i (h : i < l.length), ∃ a, ao = some a ∧ w.cell? (a.add i) = some (.int .i64 l[i].1) := by
  obtain ⟨S, T, _, _, _, h4⟩ := h
  exact hr w fun k a b => (h4 k a b).2.2.2
/-- Behind All: its row is kept from here. -/
theorem Duo.keep (h : Duo w0 b0 b1 w B pb qb L M) (hb : Below w.heap.size w w') : Duo w' w.heap.size w'.heap.size w' B pb qb L M := by
  have h' := h.past hb
  obtain ⟨S, T, h1, h2, h3, _⟩ := h
  exact ⟨S, T, h1.past hb, h2.past hb, h3, fun k a b => ⟨b, fun hs => by have := (h1.lt hs).2; omega, fun ht => by have := (h2.lt ht).2; omega, rfl⟩⟩
/-- Two new queues. -/
theorem new_duo {w1 w2 : World} {m v es l : _} (h1 : Que w1 w.heap.size pb m v es) (hp1 : (es.map kv).Perm L) (hb : Below w.heap.size w w1) {m2 v2 es2 : _} (h2 : Que w2 w1.heap.size qb m2 v2 es2) (hp2 : (es2.map kv).Perm l) (hb2 : Below w1.heap.size w1 w2) : Duo w 0 0 w2 w.heap.size pb qb L l :=
  ⟨_, _, ⟨m, v, es, h1.past hb2, hp1, rfl⟩, ⟨m2, v2, es2, h2.base hb.size, hp2, rfl⟩, fun k hs ht => by have := (h1.foot_base hs).2; have := (h2.foot_base ht).1; omega, fun k _ hk => absurd hk (Nat.not_lt_zero _)⟩
theorem IntRow.mk {w : World} {ao : Option Addr} {c : Nat} {l : List (Int × Int)} (h : ∀ i (h : i < l.length), ∃ a, ao = some a ∧ w.cell? (a.add i) = some (.int .i64 l[i].1)) : IntRow w (.slice ao l.length c) (l.map (·.1)) :=
  ⟨ao, c, by rw [List.length_map], fun i hi => by rw [List.getElem_map]; exact h i (by rwa [List.length_map] at hi)⟩
theorem same_self (a : List Int) : sameB a a = true := by unfold sameB; simp
/-- Ints of two rows with the same numbers. -/
theorem ints_same {w : World} {ao ao2 : Option Addr} {c c2 : Nat} {l : List (Int × Int)} (h : ∀ i (h : i < l.length), ∃ a, ao = some a ∧ w.cell? (a.add i) = some (.int .i64 l[i].1))
    (h2 : ∀ i (h : i < l.length), ∃ a, ao2 = some a ∧ w.cell? (a.add i) = some (.int .i64 l[i].1)) (hl : l.length ≤ 1000000) :
    Calls Try.prog 20 #[.slice ao l.length c, .slice ao2 l.length c2] w fun e w' => e = .returned (.bool true) ∧ ∃ n, w' = w.drewN n := by
  have := ints_calls _ _ (l.map (·.1)) (l.map (·.1)) w (IntRow.mk (c := c) h) (IntRow.mk (c := c2) h2) (by rw [List.length_map]; exact hl)
  rwa [same_self] at this
/-- Due of both, then Ints of what they answered. -/
def Due2 (w0 : World) (b0 b1 : Nat) (w : World) (B qb pb : Nat) (L : List (Int × Int)) (now : Int) (d : Nat) (ao : Option Addr) (c : Nat) (w1 : World) : Prop :=
  Calls Try.prog 22 #[.pointer (some ⟨qb, 0, none⟩), .int .i64 now] w1 fun e w2 => ∃ ao2 c2, e = .returned (.slice ao2 d c2) ∧ Duo w0 b0 b1 w2 B pb qb (dueOut L now) (dueOut L now) ∧ Below B w w2 ∧
    Calls Try.prog 20 #[.slice ao d c, .slice ao2 d c2] w2 fun e w3 => e = .returned (.bool true) ∧ ∃ n, w3 = w2.drewN n
theorem due_duo (now : Int) (h : Duo w0 b0 b1 w B pb qb L L) (hB : B ≤ w.heap.size) (hL : L.Pairwise ltKV) :
    Calls Try.prog 22 #[.pointer (some ⟨pb, 0, none⟩), .int .i64 now] w fun e w1 => ∃ ao c, e = .returned (.slice ao (dueIn L now).length c) ∧ Due2 w0 b0 b1 w B qb pb L now (dueIn L now).length ao c w1 := by
  have hfew : (dueIn L now).length ≤ 1000000 := by
    have h1 := h.live.few
    have h2 := (List.takeWhile_sublist (fun p : Int × Int => decide (p.2 ≤ now)) (l := L)).length_le
    unfold dueIn
    omega
  obtain ⟨S, T, h1, h2, h3, h4⟩ := h
  refine (due_held B pb L S now w h1 hL).mono ?_
  rintro e w1 ⟨r, rfl, ho, hW⟩
  obtain ⟨⟨S', g1, g2, g3, g4⟩, hb⟩ := Duo.step' (w0 := w0) (b0 := b0) (b1 := b1) h1 h2 h3 h4 hB hW
  obtain ⟨ao, c, rfl, hrow⟩ := row_open ho
  refine ⟨ao, c, rfl, ?_⟩
  unfold Due2
  have hB1 : B ≤ w1.heap.size := Nat.le_trans hB hb.size
  refine (due_held B qb L T now w1 g2 hL).mono ?_
  rintro e w2 ⟨r2, rfl, ho2, hW2⟩
  obtain ⟨ao2, c2, rfl, hrow2⟩ := row_open ho2
  obtain ⟨hD, hb2⟩ := Duo.step (w0 := w0) (b0 := b0) (b1 := b1) g2 g1 (fun k ht hs => g3 k hs ht) (fun k a b => ⟨(g4 k a b).1, (g4 k a b).2.2.1, (g4 k a b).2.1, (g4 k a b).2.2.2⟩) hB1 hW2
  obtain ⟨_, _, hF2, _⟩ := hW2
  exact ⟨ao2, c2, rfl, hD.swap, hb.trans hb2, ints_same (hrow.at hF2 (fun k hk => (h2.lt hk).2)) (hrow2 w2 (fun _ _ _ => rfl)) hfew⟩
/-- All of the first: a row that is kept from here. -/
theorem all_duo (h : Duo w0 b0 b1 w B pb qb L M) (hL : L.Pairwise ltKV) :
    Calls Try.prog 11 #[.pointer (some ⟨pb, 0, none⟩)] w fun e w' => ∃ ao c, e = .returned (.slice ao L.length c) ∧ Row w' w.heap.size ao L ∧ Below w.heap.size w w' := by
  refine (all_live B pb L L w h.live ⟨.refl _, hL⟩).mono ?_
  rintro e w' ⟨r, rfl, ho, hb⟩
  obtain ⟨ao, c, rfl, hrow⟩ := row_open ho
  exact ⟨ao, c, rfl, hrow, hb⟩
theorem qlen_duo (h : Duo w0 b0 b1 w B pb qb L M) : Calls Try.prog 10 #[.pointer (some ⟨pb, 0, none⟩)] w fun e w' => e = .returned (.int .i64 L.length) ∧ w = w' := qlen_live B pb L w h.live
/-- All of both, then Ints of what they answered. -/
def All2 (w : World) (qb l : Nat) (ao : Option Addr) (c : Nat) (w1 : World) : Prop :=
  Calls Try.prog 11 #[.pointer (some ⟨qb, 0, none⟩)] w1 fun e w2 => ∃ ao2 c2, e = .returned (.slice ao2 l c2) ∧ Below w.heap.size w w2 ∧
    Calls Try.prog 20 #[.slice ao l c, .slice ao2 l c2] w2 fun e w3 => e = .returned (.bool true) ∧ ∃ n, w3 = w2.drewN n
theorem all_both (l : Nat) (hl : L.length = l) (h : Duo w0 b0 b1 w B pb qb L L) (hL : L.Pairwise ltKV) :
    Calls Try.prog 11 #[.pointer (some ⟨pb, 0, none⟩)] w fun e w1 => ∃ ao c, e = .returned (.slice ao l c) ∧ All2 w qb l ao c w1 := by
  have hfew : L.length ≤ 1000000 := by have := h.live.few; omega
  subst hl
  refine (all_duo h hL).mono ?_
  rintro e w1 ⟨ao, c, rfl, hr, hb⟩
  refine ⟨ao, c, rfl, ?_⟩
  unfold All2
  refine (all_duo (h.past hb).swap hL).mono ?_
  rintro e w2 ⟨ao2, c2, rfl, hr2, hb2⟩
  exact ⟨ao2, c2, rfl, hb.trans (hb2.mono hb.size), ints_same (hr w2 fun k _ hk => hb2.block k hk) (hr2 w2 fun _ _ _ => rfl) hfew⟩
theorem qlen_of (l : Nat) (hl : L.length = l) (h : Duo w0 b0 b1 w B pb qb L M) : Calls Try.prog 10 #[.pointer (some ⟨pb, 0, none⟩)] w fun e w' => e = .returned (.int .i64 l) ∧ w = w' := by
  subst hl; exact qlen_duo h
end Go.Proofs.Ytnnebkmjeigflaa.L
