/- The laws' short and does. -/
import Derived.Test.YtnnebkmjeigflaaFull
import Derived.Test.YtnnebkmjeigflaaArgs
namespace Go.Proofs.Ytnnebkmjeigflaa.L
open Go.RowKit
attribute [local go_sem] least2_int least_two

/-- The script cut: no more than 300 calls. -/
def Short (w0 w : World) (e : Ending) (w' : World) : Prop := w = w' ∧ ∃ (ao : Option Addr) (n c : Nat) (ys : List Act3), e = .returned (.slice ao n c) ∧ ys.length = n ∧ n ≤ 300 ∧ n ≤ c ∧ (∀ x ∈ ys, x.Ok) ∧ ∀ i (h : i < ys.length), ∃ a, ao = some a ∧ ∀ j u, (ys[i].cells)[j]? = some u → w0.cell? (a.add (i * 3 + j)) = some u
set_option maxHeartbeats 1000000 in
set_option maxRecDepth 100000 in
theorem short_calls (v : Value) (xs : List Act3) (w0 w : World) (h : ActRow w0 v xs) : Calls Try.prog 13 #[v] w (Short w0 w) := by
  obtain ⟨ao, c, rfl, hlc, hmax, hok, hc⟩ := h
  have hok' : ∀ x ∈ xs.take 300, x.Ok := fun x hx => hok x (List.mem_of_mem_take hx)
  have hc' : ∀ i (h : i < (xs.take 300).length), ∃ a, ao = some a ∧ ∀ j u, ((xs.take 300)[i].cells)[j]? = some u → w0.cell? (a.add (i * 3 + j)) = some u := fun i hi => by
    rw [List.getElem_take]
    exact hc i (by rw [List.length_take] at hi; omega)
  by_cases hl : 300 < xs.length
  · have hE : Box (Short w0 w (.returned (.slice ao 300 c)) w) := ⟨rfl, ao, 300, c, xs.take 300, rfl, by rw [List.length_take, Nat.min_eq_left (by omega)], Nat.le_refl _, by omega, hok', hc'⟩
    have h1 : (300 : Int) < xs.length := by omega
    have h2 : (300 : Int) ≤ c := by omega
    have h3 : (300 : Nat) ≤ c := by omega
    clear hc hc' hok hok' hmax hl
    go_enter Try.func13, Try.ntmps13
    go_wp2
    go_ret
    exact hE.out
  · have hE : Box (Short w0 w (.returned (.slice ao xs.length c)) w) := ⟨rfl, ao, xs.length, c, xs.take 300, rfl, by rw [List.take_of_length_le (by omega)], by omega, hlc, hok', hc'⟩
    have h1 : ¬ (300 : Int) < xs.length := by omega
    have h2 : (xs.length : Int) ≤ c := by omega
    have h4 : (0 : Int) ≤ xs.length := by omega
    clear hc hc' hok hok' hmax hl
    obtain ⟨n, hn⟩ : ∃ n, xs.length = n := ⟨_, rfl⟩
    rw [hn] at hE h1 h2 hlc h4 ⊢
    clear hn
    go_enter Try.func13, Try.ntmps13
    go_wp2
    go_ret
    exact hE.out

theorem acts_past {w w' : World} {ao : Option Addr} {xs : List Act3} (hb : Below w.heap.size w w') (hc : ∀ i (h : i < xs.length), ∃ a, ao = some a ∧ ∀ j u, (xs[i].cells)[j]? = some u → w.cell? (a.add (i * 3 + j)) = some u) :
    ∀ i (h : i < xs.length), ∃ a, ao = some a ∧ ∀ j u, (xs[i].cells)[j]? = some u → w'.cell? (a.add (i * 3 + j)) = some u := fun i hi => by
  obtain ⟨a, e, h1⟩ := hc i hi
  exact ⟨a, e, fun j u hu => (hb.cell (World.block_lt_of_cell? w _ (h1 j u hu))).trans (h1 j u hu)⟩
theorem ActRow.past {w w' : World} {v : Value} {xs : List Act3} (h : ActRow w v xs) (hb : Below w.heap.size w w') : ActRow w' v xs := by
  obtain ⟨ao, c, rfl, h1, h2, h3, hc⟩ := h
  exact ⟨ao, c, rfl, h1, h2, h3, acts_past hb hc⟩
theorem add_field (a : Addr) (k j : Nat) (hj : 0 < j) : a.add (k + j) = ⟨(a.add k).block, (a.add k).off + j, none⟩ := by
  unfold Addr.add
  split
  · omega
  · split
    · simp
    · simp; omega
/-- One call of a script, in its three cells. -/
theorem act_at {w : World} {ao : Option Addr} {xs : List Act3} (hc : ∀ i (h : i < xs.length), ∃ a, ao = some a ∧ ∀ j u, (xs[i].cells)[j]? = some u → w.cell? (a.add (i * 3 + j)) = some u) (i : Nat) (h : i < xs.length) :
    ∃ a, ao = some a ∧ w.cell? (a.add (i * 3)) = some (.int .u8 xs[i].kind) ∧ w.cell? ⟨(a.add (i * 3)).block, (a.add (i * 3)).off + 1, none⟩ = some (.int .i64 xs[i].id) ∧ w.cell? ⟨(a.add (i * 3)).block, (a.add (i * 3)).off + 2, none⟩ = some (.int .i64 xs[i].till) := by
  obtain ⟨a, e, h1⟩ := hc i h
  exact ⟨a, e, h1 0 _ rfl, by rw [← add_field _ _ 1 (by omega)]; exact h1 1 _ rfl, by rw [← add_field _ _ 2 (by omega)]; exact h1 2 _ rfl⟩
/-! ### the numbers and times, rising -/
def ltB (p q : Int × Int) : Bool := decide (p.2 < q.2) || (decide (p.2 = q.2) && decide (p.1 < q.1))
theorem ltB_iff (p q : Int × Int) : ltB p q = true ↔ ltKV p q := by unfold ltB ltKV; simp
def insKV (p : Int × Int) : List (Int × Int) → List (Int × Int)
  | [] => [p]
  | q :: L => if ltB p q = true then p :: q :: L else q :: insKV p L
theorem insKV_perm (p : Int × Int) : ∀ L, (insKV p L).Perm (p :: L)
  | [] => .refl _
  | q :: L => by
    unfold insKV
    split
    · exact .refl _
    · exact ((insKV_perm p L).cons q).trans (List.Perm.swap p q L)
theorem insKV_sorted (p : Int × Int) : ∀ L : List (Int × Int), L.Pairwise ltKV → (∀ q ∈ L, q.1 ≠ p.1) → (insKV p L).Pairwise ltKV
  | [], _, _ => List.pairwise_singleton _ _
  | q :: L, h, hn => by
    rw [List.pairwise_cons] at h
    unfold insKV
    split
    · rename_i hlt
      rw [ltB_iff] at hlt
      refine List.pairwise_cons.2 ⟨fun x hx => ?_, List.pairwise_cons.2 h⟩
      rcases List.mem_cons.1 hx with rfl | hx
      · exact hlt
      · have := h.1 x hx
        unfold ltKV at *
        omega
    · rename_i hlt
      rw [ltB_iff] at hlt
      refine List.pairwise_cons.2 ⟨fun x hx => ?_, insKV_sorted p L h.2 (fun x hx => hn x (List.mem_cons_of_mem _ hx))⟩
      rcases List.mem_cons.1 ((insKV_perm p L).mem_iff.1 hx) with rfl | hx
      · have := hn q (List.mem_cons_self ..)
        unfold ltKV at *
        omega
      · exact h.1 x hx
def putS (L : List (Int × Int)) (id till : Int) : List (Int × Int) := if putRes L id = 0 then insKV (id, till) (without L id) else L
theorem without_not (L : List (Int × Int)) (id : Int) : ∀ q ∈ without L id, q.1 ≠ id := fun q hq => by
  have := (List.mem_filter.1 hq).2
  simpa using this
theorem putS_rises {L l : List (Int × Int)} (h : Rises L l) (id till : Int) : Rises (putS L id till) (stepPut l id till) := by
  unfold putS stepPut
  rw [← putRes_perm h.1]
  by_cases h0 : putRes L id = 0
  · rw [if_pos h0, if_pos h0]
    exact ⟨(insKV_perm _ _).trans ((h.1.filter _).cons _), insKV_sorted _ _ (h.2.filter _) (without_not L id)⟩
  · rw [if_neg h0, if_neg h0]
    exact h
theorem without_rises {L l : List (Int × Int)} (h : Rises L l) (id : Int) : Rises (without L id) (without l id) := ⟨h.1.filter _, h.2.filter _⟩
def dueIn (L : List (Int × Int)) (now : Int) : List (Int × Int) := L.takeWhile fun p => decide (p.2 ≤ now)
def dueOut (L : List (Int × Int)) (now : Int) : List (Int × Int) := L.dropWhile fun p => decide (p.2 ≤ now)
theorem dueOut_sorted {L : List (Int × Int)} (h : L.Pairwise ltKV) (now : Int) : (dueOut L now).Pairwise ltKV := h.sublist (List.dropWhile_sublist _)
/-- What a call of a script answers, hands back, leaves. -/
def doesE (L : List (Int × Int)) (a : Act3) : Int := if a.kind % 4 = 2 then dropRes L a.id else if a.kind % 4 = 3 then 0 else putRes L a.id
def doesR (L : List (Int × Int)) (a : Act3) : List (Int × Int) := if a.kind % 4 = 3 then dueIn L a.till else []
def doesL (L : List (Int × Int)) (a : Act3) : List (Int × Int) := if a.kind % 4 = 2 then without L a.id else if a.kind % 4 = 3 then dueOut L a.till else putS L a.id a.till
theorem doesL_sorted {L : List (Int × Int)} (h : L.Pairwise ltKV) (a : Act3) : (doesL L a).Pairwise ltKV := by
  unfold doesL
  split
  · exact h.filter _
  · split
    · exact dueOut_sorted h _
    · exact (putS_rises ⟨.refl _, h⟩ _ _).2
theorem owns_base {w : World} {B B' t s n : Nat} {v : Value} {xs : List Value} (h : w.ownsRow B t s v n xs) (hB : B' ≤ B) : w.ownsRow B' t s v n xs := by
  refine ⟨h.1, ?_⟩
  rcases h.2 with hn | ⟨g, cap, cur, rfl, hb, hr⟩
  · exact .inl hn
  · exact .inr ⟨g, cap, cur, rfl, Nat.le_trans hB hb, hr⟩
theorem Turned.from {w w1 w2 : World} {B qb m : Nat} {v v2 : Value} {es es2 : List Ent} {l : List (Int × Int)} (hb : Below w.heap.size w w1) (h : Turned w1 w2 B qb m v es l v2 es2) : Turned w w2 B qb m v es l v2 es2 :=
  ⟨h.que, h.perm, (Frame.of_below (S := Que.Foot qb m v es) hb).then h.frame (fun _ _ h => h), fun k hF => (h.foot k hF).imp_right (fun h1 => Nat.le_trans hb.size h1)⟩
/-- What does leaves. -/
def Does (w : World) (B qb m : Nat) (v : Value) (es : List Ent) (L : List (Int × Int)) (a : Act3) (e : Ending) (w' : World) : Prop :=
  ∃ r, e = .returned (.tuple #[r, .int .i64 (doesE L a)]) ∧ w'.ownsRow w.heap.size 3 1 r (doesR L a).length ((doesR L a).map intV) ∧ ∃ v' es', Turned w w' B qb m v es (doesL L a) v' es'
set_option maxHeartbeats 2000000 in
set_option maxRecDepth 100000 in
theorem does_calls (B qb m : Nat) (v : Value) (es : List Ent) (L : List (Int × Int)) (a : Act3) (w : World) (h : Que w B qb m v es) (hB : B ≤ w.heap.size) (hL : Rises L (es.map kv)) (ha : a.Ok) :
    Calls Try.prog 14 #[.pointer (some ⟨qb, 0, none⟩), .agg #[.int .u8 a.kind, .int .i64 a.id, .int .i64 a.till]] w (Does w B qb m v es L a) := by
  obtain ⟨W, hW⟩ : ∃ W, w.alloc (.cells #[.int .u8 a.kind, .int .i64 a.id, .int .i64 a.till] 38) = W := ⟨_, rfl⟩
  have hb : Below w.heap.size w W := by rw [← hW]; exact (Below.refl _ w).alloc (Nat.le_refl _) _
  have hbk : W.heap[w.heap.size]? = some (.cells #[.int .u8 a.kind, .int .i64 a.id, .int .i64 a.till] 38 (0, 0)) := by rw [← hW]; exact new_block w _
  have a0 : W.cell? ⟨w.heap.size, 0, none⟩ = some (.int .u8 a.kind) := (cell_of hbk 0).trans rfl
  have a1 : W.cell? ⟨w.heap.size, 1, none⟩ = some (.int .i64 a.id) := (cell_of hbk 1).trans rfl
  have a2 : W.cell? ⟨w.heap.size, 2, none⟩ = some (.int .i64 a.till) := (cell_of hbk 2).trans rfl
  clear hbk
  have hq : Que W B qb m v es := h.past hb
  have hBW : B ≤ W.heap.size := Nat.le_trans hB hb.size
  have h0 := ha.1
  have h1 := ha.2.1
  have hm0 : 0 ≤ a.kind % 4 := Int.emod_nonneg _ (by decide)
  have hm1 : a.kind % 4 < 4 := Int.emod_lt_of_pos _ (by decide)
  have HB := Box.mk hb
  by_cases h2 : a.kind % 4 = 2
  · have c1 := drop_calls B qb m v es a.id W hq ha.2.2.1
    have t1 : ((a.kind % 4) == (2 : Int)) = true := by simpa using h2
    have E : ∀ v' es' w', Turned W w' B qb m v es (without (es.map kv) a.id) v' es' → Does w B qb m v es L a (.returned (.tuple #[.slice none 0 0, .int .i64 (dropRes (es.map kv) a.id)])) w' := fun v' es' w' hT =>
      ⟨_, by unfold doesE; rw [if_pos h2, dropRes_perm hL.1], by unfold doesR; rw [if_neg (by omega)]; exact World.ownsRow_nil _ _ _ _, v', es', by unfold doesL; rw [if_pos h2]; exact (hT.repl (hL.1.filter _).symm).from HB.out⟩
    have HE := Box.mk E
    clear h hq hBW hL ha h2 E hb
    go_enter Try.func14, Try.ntmps14
    go_wp2_with (first | (go_at_call 23; refine c1.mono ?_; rintro e w1 ⟨rfl, v', es', hT⟩; have HT := Box.mk hT; clear hT))
    go_ret2
    exact HE.out _ _ _ HT.out
  · by_cases h3 : a.kind % 4 = 3
    · have c1 := due_calls B qb m v es L a.till W hq hL
      have t1 : ((a.kind % 4) == (2 : Int)) = false := by simpa using h2
      have t2 : ((a.kind % 4) == (3 : Int)) = true := by simpa using h3
      have E : ∀ r v' es' w', w'.ownsRow W.heap.size 3 1 r (dueIn L a.till).length ((dueIn L a.till).map intV) → Turned W w' B qb m v es (dueOut L a.till) v' es' → Does w B qb m v es L a (.returned (.tuple #[r, .int .i64 0])) w' := fun r v' es' w' ho hT =>
        ⟨r, by unfold doesE; rw [if_neg h2, if_pos h3], by unfold doesR; rw [if_pos h3]; exact owns_base ho HB.out.size, v', es', by unfold doesL; rw [if_neg h2, if_pos h3]; exact hT.from HB.out⟩
      have HE := Box.mk E
      clear h hq hBW hL ha h2 h3 E hb
      go_enter Try.func14, Try.ntmps14
      go_wp2_with (first | (go_at_call 22; refine c1.mono ?_; rintro e w1 ⟨r, rfl, ho, v', es', hT⟩; have HT := Box.mk hT; have HO := Box.mk ho; clear hT ho))
      go_ret2
      exact HE.out _ _ _ _ HO.out HT.out
    · have c1 := put_calls B qb m v es a.id a.till W hq hBW ha.2.2.1 ha.2.2.2
      have t1 : ((a.kind % 4) == (2 : Int)) = false := by simpa using h2
      have t2 : ((a.kind % 4) == (3 : Int)) = false := by simpa using h3
      have E : ∀ v' es' w', Turned W w' B qb m v es (stepPut (es.map kv) a.id a.till) v' es' → Does w B qb m v es L a (.returned (.tuple #[.slice none 0 0, .int .i64 (putRes (es.map kv) a.id)])) w' := fun v' es' w' hT =>
        ⟨_, by unfold doesE; rw [if_neg h2, if_neg h3, putRes_perm hL.1], by unfold doesR; rw [if_neg h3]; exact World.ownsRow_nil _ _ _ _, v', es', by unfold doesL; rw [if_neg h2, if_neg h3]; exact (hT.repl (putS_rises hL _ _).1.symm).from HB.out⟩
      have HE := Box.mk E
      clear h hq hBW hL ha h2 h3 E hb
      go_enter Try.func14, Try.ntmps14
      go_wp2_with (first | (go_at_call 9; refine c1.mono ?_; rintro e w1 ⟨rfl, v', es', hT⟩; have HT := Box.mk hT; clear hT))
      go_ret2
      exact HE.out _ _ _ HT.out
theorem does_live (B qb : Nat) (l L : List (Int × Int)) (a : Act3) (w : World) (h : Live w B qb l) (hB : B ≤ w.heap.size) (hL : Rises L l) (ha : a.Ok) :
    Calls Try.prog 14 #[.pointer (some ⟨qb, 0, none⟩), .agg #[.int .u8 a.kind, .int .i64 a.id, .int .i64 a.till]] w fun e w' =>
      ∃ r, e = .returned (.tuple #[r, .int .i64 (doesE L a)]) ∧ w'.ownsRow w.heap.size 3 1 r (doesR L a).length ((doesR L a).map intV) ∧ Live w' B qb (doesL L a) ∧ Below B w w' := by
  obtain ⟨m, v, es, hq, hp⟩ := h
  refine (does_calls B qb m v es L a w hq hB (hL.perm hp) ha).mono ?_
  rintro e w' ⟨r, rfl, ho, v', es', hT⟩
  obtain ⟨h1, h2⟩ := hT.live hq hB
  exact ⟨r, rfl, ho, h1, h2⟩
/-- The queue by a rising list. -/
def LiveS (w : World) (B qb : Nat) (L : List (Int × Int)) : Prop := Live w B qb L ∧ L.Pairwise ltKV
end Go.Proofs.Ytnnebkmjeigflaa.L
