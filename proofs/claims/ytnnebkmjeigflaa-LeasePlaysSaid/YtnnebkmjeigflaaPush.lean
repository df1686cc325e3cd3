/- The pile's Len, Pop and Push. -/
import Derived.Test.YtnnebkmjeigflaaUp
import Derived.Deep.AppendLies
import Derived.OwnWalk
namespace Go.Proofs.Ytnnebkmjeigflaa.L
open Go.RowKit

theorem len_calls (ao : Option Addr) (l c : Nat) (w : World) : Calls Try.prog 80 #[.slice ao l c] w fun e w' => e = .returned (.int .i64 l) ∧ w = w' := by
  go_enter Try.func80, Try.ntmps80
  go_wp2
  go_ret
  exact ⟨rfl, rfl⟩

theorem ownsRow_take {w : World} {B e l m g cap : Nat} {xs : List Value} (h : w.ownsRow B e 1 (.slice (some ⟨g, 0, none⟩) l cap) l xs) (hm : m ≤ l) : w.ownsRow B e 1 (.slice (some ⟨g, 0, none⟩) m cap) m (xs.take m) := by
  obtain ⟨h1, h2⟩ := h
  refine ⟨by rw [List.length_take, h1]; omega, ?_⟩
  rcases h2 with ⟨hv, _⟩ | ⟨g', cap', cur, hv, hb, hg, hnc, hcm, hcs, ht⟩
  · cases hv
  · injection hv with e1 e2 e3
    subst e3
    injection e1 with e1
    injection e1 with e1
    subst e1
    refine .inr ⟨g, cap, cur, rfl, hb, hg, by omega, hcm, hcs, ?_⟩
    rw [← ht, List.take_take]
    congr 1
    omega
theorem Pile.take {w : World} {B g l cap : Nat} {es : List Ent} (h : Pile w B (.slice (some ⟨g, 0, none⟩) l cap) es) (hl : l = es.length) (m : Nat) (hm : m ≤ l) : Pile w B (.slice (some ⟨g, 0, none⟩) m cap) (es.take m) := by
  subst hl
  refine ⟨?_, fun i hi => ?_, fun e he => h.base e (List.mem_of_mem_take he)⟩
  · have := ownsRow_take h.own hm
    rw [← List.map_take] at this
    rw [List.length_take, Nat.min_eq_left hm]
    exact this
  · have hi' : i < es.length := by rw [List.length_take] at hi; omega
    rw [List.getElem_take]
    exact h.ent i hi'
theorem QAt.set {w : World} {qb : Nat} {v mp : Value} (h : QAt w qb v mp) (u : Value) : QAt (w.setCell ⟨qb, 0, none⟩ u) qb u mp := by
  unfold QAt at h ⊢
  rw [set_same h 0]
  rfl
theorem QAt.free {w : World} {qb : Nat} {v mp : Value} (h : QAt w qb v mp) (i : Nat) : w.frozen? ⟨qb, i, none⟩ = false := free_of h i
theorem Pile.other {w : World} {B b : Nat} {v : Value} {es : List Ent} (h : Pile w B v es) (hb : ¬ Pile.Foot v es b) (o : Nat) (u : Value) : Pile (w.setCell ⟨b, o, none⟩ u) B v es :=
  ⟨ownsRow_setCell_other h.own (a := ⟨b, o, none⟩) (fun e => hb (.inl e)) u, fun i hi => (h.ent i hi).other (fun e => hb (.inr ⟨_, List.getElem_mem _, e⟩)) o u, h.base⟩

set_option maxHeartbeats 1000000 in
set_option maxRecDepth 100000 in
theorem pop_calls (qb B g cap l : Nat) (mp : Value) (es : List Ent) (w : World) (hq : QAt w qb (.slice (some ⟨g, 0, none⟩) l cap) mp) (hp : Pile w B (.slice (some ⟨g, 0, none⟩) l cap) es)
    (hl : l = es.length) (h0 : 0 < l) (hbig : l ≤ 1000000000000000000) :
    Calls Try.prog 83 #[.pointer (some ⟨qb, 0, none⟩)] w fun e w' => (∃ v, e = .returned v) ∧ w' = w.setCell ⟨qb, 0, none⟩ (.slice (some ⟨g, 0, none⟩) (l - 1) cap) := by
  obtain ⟨m, hm⟩ : ∃ m, l - 1 = m := ⟨_, rfl⟩
  have hc := hp.cell m (by omega)
  have hcap : l ≤ cap := by
    rcases hp.own.2 with ⟨hv, _⟩ | ⟨g', cap', cur, hv, _, _, hnc, _⟩
    · cases hv
    · injection hv with e1 e2 e3; omega
  unfold Ent.ptr at hc
  have em : (l : Int) - 1 = (m : Int) := by omega
  have k0 : (0 : Int) ≤ m := by omega
  have k1 : (m : Int) < l := by omega
  have k2 : (m : Int) ≤ cap := by omega
  have c0 := hq.c0
  have f0 := hq.free 0
  rw [hm]
  generalize (es[m]'(by omega)).blk = pb at hc
  clear hp hq hl hm hcap
  go_enter Try.func83, Try.ntmps83
  go_wp2
  go_ret
  exact ⟨⟨_, rfl⟩, rfl⟩

theorem info61 : (Try.prog.info? 61).map (fun i => (i.zero, i.size, i.bytes)) = some (some (.pointer none), 1, 8) := by kernel_rfl
theorem Pile.snoc {w : World} {B : Nat} {v' : Value} {es : List Ent} {e : Ent} (hent : ∀ i (h : i < es.length), EntAt w es[i] i) (hbase : ∀ e ∈ es, B ≤ e.blk) (hown : w.ownsRow B 61 1 v' (es.length + 1) ((es ++ [e]).map Ent.ptr)) (he : EntAt w e es.length) (hb : B ≤ e.blk) :
    Pile w B v' (es ++ [e]) := by
  refine ⟨by rw [List.length_append, List.length_singleton]; exact hown, fun i hi => ?_, fun x hx => ?_⟩
  · rw [List.length_append, List.length_singleton] at hi
    by_cases h : i < es.length
    · rw [List.getElem_append_left h]; exact hent i h
    · obtain rfl : i = es.length := by omega
      rw [List.getElem_concat_length rfl]
      exact he
  · rcases List.mem_append.1 hx with h | h
    · exact hbase x h
    · obtain rfl := List.mem_singleton.1 h
      exact hb
theorem run_assert (W : World) (a : Addr) : (Instr.typeAssert (.iface 61 (.pointer (some a))) 20 61 true).run Try.prog W = .ok (.tuple #[.pointer (some a), .bool true]) W := by kernel_rfl
set_option maxHeartbeats 1000000 in
set_option maxRecDepth 100000 in
theorem push_calls (qb B : Nat) (ao : Option Addr) (l cap k : Nat) (mp : Value) (es : List Ent) (e : Ent) (w : World) (hq : QAt w qb (.slice ao l cap) mp) (hp : Pile w B (.slice ao l cap) es)
    (hl : l = es.length) (he : EntAt w e k) (hn : ¬ Pile.Foot (.slice ao l cap) es e.blk) (hB : B ≤ e.blk) (hqB : B ≤ qb) (hbig : l ≤ 1000000) :
    Calls Try.prog 84 #[.pointer (some ⟨qb, 0, none⟩), .iface 61 e.ptr] w fun x w' => x = .returned (.tuple #[]) ∧
      ∃ g cap', QAt w' qb (.slice (some ⟨g, 0, none⟩) (l + 1) cap') mp ∧ Pile w' B (.slice (some ⟨g, 0, none⟩) (l + 1) cap') (es ++ [e]) ∧ Frame (fun b => b = qb ∨ b = e.blk ∨ Pile.Foot (.slice ao l cap) es b) w w' ∧ (ao.map (·.block) = some g ∨ w.heap.size ≤ g) := by
  obtain ⟨i0, hi, hz0, hz1, hz2⟩ := info_parts info61
  have a2 : ∃ u, w.cell? ⟨e.blk, 2, none⟩ = some u := ⟨_, (cell_of he 2).trans rfl⟩
  have fa := free_of he 2
  have c0 := hq.c0
  have hqe : qb ≠ e.blk := blk_ne hq he (by decide)
  have hp1 := Box.mk (hp.other hn 2 (.int .i64 l))
  have hq1 : QAt (w.setCell ⟨e.blk, 2, none⟩ (.int .i64 l)) qb (.slice ao l cap) mp := (set_other hqe 2 _).trans hq
  have he1 := Box.mk (he.put l)
  have HA := Box.mk hp
  have c1 := hq1.c0
  have HQ := Box.mk hq1
  have HQ0 := Box.mk hq
  have HL := Box.mk hl
  obtain ⟨ua, a2⟩ := a2
  unfold Ent.ptr
  clear hp hq hq1 he hl
  have hta := fun W a => run_assert W a
  obtain ⟨W1, hW1⟩ : ∃ W1, w.setCell ⟨e.blk, 2, none⟩ (.int .i64 l) = W1 := ⟨_, rfl⟩
  have hsz : W1.heap.size = w.heap.size := by rw [← hW1]; simp [World.setCell]
  have HS := Box.mk hsz
  have hbw : B ≤ w.heap.size := by have := lt_of_block HQ0.out; omega
  have hEW := Box.mk hW1
  rw [hW1] at hp1 he1 c1 HQ
  have hown := hp1.out.own
  rw [← HL.out] at hown
  have HO := Box.mk hown
  have hm0 : 0 < 1 := by decide
  have h63 : l + 1 ≤ maxLen := by unfold maxLen; omega
  have hby : (l + 1) * 8 ≤ 140737488355328 := by omega
  have hbase : ∀ o, B ≤ (W1.alloc o).heap.size := fun o => by rw [World.size_alloc, hsz]; omega
  have hcells : ∀ u ∈ [Value.pointer (some ⟨e.blk, 0, none⟩)], u.oneCell' = true := by simp [Value.oneCell']
  clear hsz hown
  go_enter Try.func84, Try.ntmps84
  go_wp2_with (at_builtin; refine wpList_append_lies _ rfl _ _ 54 rfl B 61 i0 (.pointer none) 1 8 Try.underlying54 hi hz0 hz1 hz2 (by rfl) hm0 _ l _ (by rfl) (HO.out.alloc _) ⟨W1.heap.size, 0, none⟩ 1 1 [.pointer (some ⟨e.blk, 0, none⟩)] (by rfl) (by rfl) (cell_one_new _ _ _) hcells hm0 h63 hby (hbase _) (W1.heap.size + 1) (by simp) ?_)
  intro g cap' w2 hown2 hgrow hat hlt
  -- the queue's block, and the entries, in the world behind the append
  have ha : ∀ {b : Nat} {o : Obj}, W1.heap[b]? = some o → ¬ (Value.slice ao l cap).ownBlock = some b → w2.heap[b]? = some o := fun {b o} hb hne =>
    (hgrow.block b (by rw [World.size_alloc]; have := lt_of_block hb; omega) (fun e => hne e.symm)).trans (old_block hb _)
  have hq2 : QAt w2 qb (.slice ao l cap) mp := ha HQ.out (fun e => HQ.out.apart hp1.out (.inl e))
  have he2 : EntAt w2 e l := ha he1.out (fun x => hn (.inl x))
  have hent2 : ∀ i (h : i < es.length), EntAt w2 es[i] i := fun i hi => ha (hp1.out.ent i hi) (fun x => by
    rcases hp1.out.own.2 with ⟨hv, _⟩ | ⟨g', _, cur, hv, _, hg, _⟩
    · injection hv with e1; subst e1; simp [Value.ownBlock] at x
    · rw [hv] at x
      simp [Value.ownBlock] at x
      exact blk_ne hg (hp1.out.ent i hi) (by decide) x)
  have c2 := hq2.c0
  have f2 := hq2.free 0
  have HH := Box.mk (And.intro hown2 (And.intro hgrow (And.intro hat hlt)))
  have HQ2 := Box.mk hq2
  have HE2 := Box.mk he2
  have HN2 := Box.mk hent2
  clear hown2 hgrow hat hlt hq2 he2 hent2 ha hta hbase hcells
  go_wp2
  go_end0
  obtain ⟨hown2, hgrow, hat, hlt⟩ := HH.out
  have hgq : g ≠ qb := by
    rcases hown2.2 with ⟨hv, _⟩ | ⟨g', _, cur, hv, _, hg, _⟩
    · cases hv
    · injection hv with e1
      injection e1 with e1
      injection e1 with e1
      subst e1
      exact blk_ne hg HQ2.out (by decide)
  have hge : ∀ {x : Ent} {i : Nat}, EntAt w2 x i → x.blk ≠ qb := fun hx => blk_ne hx HQ2.out (by decide)
  have hLL := HL.out
  refine ⟨rfl, g, cap', HQ2.out.set _, ?_, ?_, ?_⟩
  · refine Pile.snoc (fun i hi => (HN2.out i hi).other (hge (HN2.out i hi)) 0 _) HA.out.base ?_ (hLL ▸ (HE2.out.other (hge HE2.out) 0 _)) hB
    rw [List.map_append, ← hLL]
    exact ownsRow_setCell_other hown2 (a := ⟨qb, 0, none⟩) (by simpa [Value.ownBlock] using hgq) _
  · have f1 := ((Frame.refl (fun b => b = qb ∨ b = e.blk ∨ Pile.Foot (.slice ao l cap) es b) w).setCell ⟨e.blk, 2, none⟩ (fun _ => .inr (.inl rfl)) (.int .i64 l))
    rw [hEW.out] at f1
    exact ((f1.alloc _).grown hgrow (fun k hk _ => .inr (.inr (.inl hk)))).setCell ⟨qb, 0, none⟩ (fun _ => .inl rfl) _
  · rcases hat with h | h
    · left
      cases ao with
      | none => simp [Value.ownBlock] at h
      | some a => simpa [Value.ownBlock] using h
    · right
      rw [h, HS.out]
      omega
end Go.Proofs.Ytnnebkmjeigflaa.L
