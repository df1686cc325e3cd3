/- The queue's Put. -/
import Derived.Test.YtnnebkmjeigflaaKv
import Derived.Maps.OwnIn
namespace Go.Proofs.Ytnnebkmjeigflaa.L
open Go.RowKit Go.Maps

/-- A queue that was l (as numbers with times) is l' now, and nothing else has turned. -/
structure Turned (w w' : World) (B qb m : Nat) (v : Value) (es : List Ent) (l' : List (Int × Int)) (v' : Value) (es' : List Ent) : Prop where
  que : Que w' B qb m v' es'
  perm : (es'.map kv).Perm l'
  frame : Frame (Que.Foot qb m v es) w w'
  foot : ∀ k, Que.Foot qb m v' es' k → Que.Foot qb m v es k ∨ w.heap.size ≤ k
def Puts (w : World) (B qb m : Nat) (v : Value) (es : List Ent) (id till : Int) (e : Ending) (w' : World) : Prop :=
  e = .returned (.int .i64 (putRes (es.map kv) id)) ∧ ∃ v' es', Turned w w' B qb m v es (stepPut (es.map kv) id till) v' es'
theorem Turned.same {w : World} {B qb m : Nat} {v : Value} {es : List Ent} {l : List (Int × Int)} (h : Que w B qb m v es) (hl : es.map kv = l) : Turned w w B qb m v es l v es := ⟨h, by rw [hl], .refl _ _, fun _ hk => .inl hk⟩

theorem Que.find {w : World} {B qb m : Nat} {v : Value} {es : List Ent} (h : Que w B qb m v es) (i : Nat) (hi : i < es.length) : (Instr.lookup 55 (.map (some m)) (.int .i64 es[i].id) false).run Try.prog w = .ok es[i].ptr w := by
  obtain ⟨f, hf, hk⟩ := h.map
  have hw := (h.wf _ (List.getElem_mem hi)).1
  have := hf.look keyed Try.underlying55 (Try.zeroValue61 w) (key_of hw)
  rw [(hk _ hw).1 _ (List.getElem_mem hi) rfl] at this
  exact this
theorem Que.miss {w : World} {B qb m : Nat} {v : Value} {es : List Ent} (h : Que w B qb m v es) {id : Int} (hw : Wf id) (hn : knownKV (es.map kv) id = false) : (Instr.lookup 55 (.map (some m)) (.int .i64 id) false).run Try.prog w = .ok (.pointer none) w := by
  obtain ⟨f, hf, hk⟩ := h.map
  have := hf.look keyed Try.underlying55 (Try.zeroValue61 w) (key_of hw)
  rw [(hk _ hw).2 ((known_kv_false _ _).1 hn)] at this
  exact this

set_option maxHeartbeats 1000000 in
set_option maxRecDepth 100000 in
theorem put_low (B qb m : Nat) (v : Value) (es : List Ent) (id till : Int) (w : World) (h : Que w B qb m v es) (hid : id < 1) :
    Calls Try.prog 9 #[.pointer (some ⟨qb, 0, none⟩), .int .i64 id, .int .i64 till] w (Puts w B qb m v es id till) := by
  have c1 := ok_calls B qb m v es w h
  have hr : putRes (es.map kv) id = 1 := by unfold putRes; rw [if_pos hid]
  have hE : Puts w B qb m v es id till (.returned (.int .i64 1)) w := ⟨by rw [hr], v, es, .same h (by unfold stepPut; rw [hr, if_neg (by decide)])⟩
  have HE := Box.mk hE
  clear h hr hE
  go_enter Try.func9, Try.ntmps9
  go_wp2_with (first | (go_at_call 24; refine c1.mono ?_; rintro e w1 ⟨rfl, rfl⟩))
  go_ret
  exact HE.out
theorem map_set_ptr (es : List Ent) (i : Nat) (hi : i < es.length) (till : Int) : (es.set i ⟨es[i].blk, es[i].id, till⟩).map Ent.ptr = es.map Ent.ptr := by
  rw [List.map_set]
  have e : Ent.ptr ⟨es[i].blk, es[i].id, till⟩ = (es.map Ent.ptr)[i]'(by rw [List.length_map]; exact hi) := by rw [List.getElem_map]; rfl
  rw [e, List.set_getElem_self]
theorem Pile.retime {w : World} {B : Nat} {v : Value} {es : List Ent} (h : Pile w B v es) (i : Nat) (hi : i < es.length) (till : Int) (n : Nat) : Pile ((w.setCell ⟨es[i].blk, 1, none⟩ (.int .i64 till)).drewN n) B v (es.set i ⟨es[i].blk, es[i].id, till⟩) := by
  refine ⟨?_, fun k hk => ?_, fun e he => ?_⟩
  · show World.ownsRow (w.setCell ⟨es[i].blk, 1, none⟩ (.int .i64 till)) _ _ _ _ _ _
    rw [map_set_ptr es i hi till, List.length_set]
    refine ownsRow_setCell_other h.own (a := ⟨es[i].blk, 1, none⟩) (fun e => ?_) _
    rcases h.own.2 with ⟨hv, _⟩ | ⟨g, _, cur, hv, _, hg, _⟩
    · rw [hv] at e; simp [Value.ownBlock] at e
    · rw [hv] at e
      simp [Value.ownBlock] at e
      exact blk_ne hg (h.ent i hi) (by decide) e
  · rw [List.length_set] at hk
    show EntAt (w.setCell ⟨es[i].blk, 1, none⟩ (.int .i64 till)) _ _
    rw [List.getElem_set]
    by_cases hik : i = k
    · subst hik
      rw [if_pos rfl]
      have := h.ent i hi
      unfold EntAt at this ⊢
      exact (set_same this 1 _).trans rfl
    · rw [if_neg hik]
      exact (h.ent k hk).other (fun e => hik (h.blk_inj hi hk e.symm)) 1 _
  · rcases List.mem_or_eq_of_mem_set he with he | rfl
    · exact h.base e he
    · exact h.base es[i] (List.getElem_mem hi)
theorem foot_retime {v : Value} {es : List Ent} {i : Nat} (hi : i < es.length) {till : Int} {k : Nat} (h : Pile.Foot v (es.set i ⟨es[i].blk, es[i].id, till⟩) k) : Pile.Foot v es k := by
  rcases h with h | ⟨e, he, rfl⟩
  · exact .inl h
  · rcases List.mem_or_eq_of_mem_set he with he | rfl
    · exact .inr ⟨e, he, rfl⟩
    · exact .inr ⟨es[i], List.getElem_mem hi, rfl⟩
theorem knows_retime {f : Lit → Option Value} {es : List Ent} (h : Knows f es) (i : Nat) (hi : i < es.length) (till : Int) : Knows f (es.set i ⟨es[i].blk, es[i].id, till⟩) := fun a ha => by
  refine ⟨fun e he hid => ?_, fun hn => (h a ha).2 fun e he hid => ?_⟩
  · rcases List.mem_or_eq_of_mem_set he with he | rfl
    · exact (h a ha).1 e he hid
    · exact (h a ha).1 es[i] (List.getElem_mem hi) hid
  · obtain ⟨k, hk, rfl⟩ := List.getElem_of_mem he
    by_cases hik : i = k
    · subst hik
      exact hn ⟨es[i].blk, es[i].id, till⟩ (List.mem_set hi _) hid
    · exact hn es[k] (by have : (es.set i ⟨es[i].blk, es[i].id, till⟩)[k]'(by rw [List.length_set]; exact hk) = es[k] := by rw [List.getElem_set, if_neg hik]
                         rw [← this]; exact List.getElem_mem _) hid
theorem apart_of_map {es es' : List Ent} (h : Apart es) (hm : es'.map Ent.id = es.map Ent.id) : Apart es' := by
  unfold Apart at *
  have h1 : (es.map Ent.id).Pairwise (· ≠ ·) := List.pairwise_map.2 h
  rw [← hm] at h1
  exact List.pairwise_map.1 h1
theorem map_set_id (es : List Ent) (i : Nat) (hi : i < es.length) (till : Int) : (es.set i ⟨es[i].blk, es[i].id, till⟩).map Ent.id = es.map Ent.id := by
  rw [List.map_set]
  have e : (Ent.mk es[i].blk es[i].id till).id = (es.map Ent.id)[i]'(by rw [List.length_map]; exact hi) := by rw [List.getElem_map]
  rw [e, List.set_getElem_self]
/-- Behind Fix. -/
theorem Que.fixed {w w' : World} {B qb m g cap l : Nat} {es es' : List Ent} (h : Que w B qb m (.slice (some ⟨g, 0, none⟩) l cap) es) (i : Nat) (hi : i < es.length) (till : Int) (ht : Wf till) (n : Nat)
    (hM : Moved ((w.setCell ⟨es[i].blk, 1, none⟩ (.int .i64 till)).drewN n) w' B l (.slice (some ⟨g, 0, none⟩) l cap) (es.set i ⟨es[i].blk, es[i].id, till⟩) es') (hh : Heap es' l) (hl : l = es.length) :
    Turned w w' B qb m (.slice (some ⟨g, 0, none⟩) l cap) es ((es[i].id, till) :: without (es.map kv) es[i].id) (.slice (some ⟨g, 0, none⟩) l cap) es' := by
  obtain ⟨f, hf, hk⟩ := h.map
  obtain ⟨hqm, hmF⟩ := h.map_apart
  have hA1 : Apart (es.set i ⟨es[i].blk, es[i].id, till⟩) := apart_of_map h.apart (map_set_id es i hi till)
  have f0 : Frame (Pile.Foot (.slice (some ⟨g, 0, none⟩) l cap) es) w ((w.setCell ⟨es[i].blk, 1, none⟩ (.int .i64 till)).drewN n) := ((Frame.refl _ w).setCell ⟨es[i].blk, 1, none⟩ (fun _ => .inr ⟨_, List.getElem_mem hi, rfl⟩) _).drewN n
  have fr : Frame (Pile.Foot (.slice (some ⟨g, 0, none⟩) l cap) es) w w' := f0.then hM.frame (fun _ _ h1 => foot_retime hi h1)
  have hlen : es'.length = es.length := by rw [hM.length, List.length_set]
  refine ⟨⟨h.q.kept h.pile fr, hM.pile, ⟨f, ?_, (knows_retime hk i hi till).perm hM.perm⟩, by rw [hlen, ← hl]; exact hh, hA1.perm hM.perm, fun e he => ?_, by rw [hlen]; exact h.few, h.bq, h.bm⟩, (hM.perm.map kv).trans (set_perm h.apart i hi till), fr.mono (fun _ _ h1 => .inr (.inr h1)), fun k hF => .inl ?_⟩
  · rw [hlen]
    exact hf.of (fr.block m hf.lt hmF)
  · rcases List.mem_or_eq_of_mem_set (hM.perm.mem_iff.1 he) with h1 | rfl
    · exact h.wf e h1
    · have := h.wf es[i] (List.getElem_mem hi)
      exact ⟨this.1, ht, this.2.2⟩
  · rcases hF with h1 | h1 | h1
    · exact .inl h1
    · exact .inr (.inl h1)
    · exact .inr (.inr (foot_retime hi (Pile.Foot.perm hM.perm h1)))
set_option maxHeartbeats 2000000 in
set_option maxRecDepth 100000 in
theorem put_old (B qb m : Nat) (v : Value) (es : List Ent) (i : Nat) (hi : i < es.length) (till : Int) (w : World) (h : Que w B qb m v es) (ht : Wf till) :
    Calls Try.prog 9 #[.pointer (some ⟨qb, 0, none⟩), .int .i64 es[i].id, .int .i64 till] w (Puts w B qb m v es es[i].id till) := by
  have c1 := ok_calls B qb m v es w h
  obtain ⟨ao, cap, rfl, hg⟩ := h.slice
  obtain ⟨g, rfl⟩ := hg (by intro e; rw [e] at hi; exact absurd hi (Nat.not_lt_zero _))
  have hkn : knownKV (es.map kv) es[i].id = true := (known_kv _ _).2 ⟨_, List.getElem_mem hi, rfl⟩
  have hid : ¬ es[i].id < 1 := by have := (h.wf _ (List.getElem_mem hi)).2.2; omega
  have hr : putRes (es.map kv) es[i].id = 0 := by unfold putRes; rw [if_neg hid, if_pos hkn]
  have hfind : (Instr.lookup 55 (.map (some m)) (.int .i64 es[i].id) false).run Try.prog w = .ok (.pointer (some ⟨es[i].blk, 0, none⟩)) w := h.find i hi
  have he := h.pile.ent i hi
  have hu : ∃ u, w.cell? ⟨es[i].blk, 1, none⟩ = some u := ⟨_, (cell_of he 1).trans rfl⟩
  have hfz := free_of he 1
  have hqb1 : QAt (w.setCell ⟨es[i].blk, 1, none⟩ (.int .i64 till)) qb _ _ := (set_other (blk_ne h.q he (by decide)) 1 _).trans h.q
  have hat : (w.setCell ⟨es[i].blk, 1, none⟩ (.int .i64 till)).cell? ⟨es[i].blk, 2, none⟩ = some (.int .i64 i) := (cell_of (set_same he 1 (.int .i64 till)) 2).trans rfl
  have hx := h.heap.x_set i ⟨es[i].blk, es[i].id, till⟩
  have c2 := fix_calls qb B g cap es.length i (.map (some m)) _ _ (show QAt ((w.setCell ⟨es[i].blk, 1, none⟩ (.int .i64 till)).drew) qb _ _ from hqb1) (h.pile.retime i hi till 1) (List.length_set).symm hi hx (by have := h.few; omega)
  have hc1 := h.q.c1
  have hc2 : (w.setCell ⟨es[i].blk, 1, none⟩ (.int .i64 till)).cell? ⟨qb, 0, none⟩ = _ := hqb1.c0
  have H := Box.mk h
  have HR := Box.mk hr
  have HI := Box.mk hi
  unfold Puts stepPut
  rw [hr, if_pos rfl]
  have fin := fun w' es' hM hh => H.out.fixed i hi till ht 1 (w' := w') (es' := es') hM hh rfl
  have FIN := Box.mk fin
  generalize es[i].blk = eb at *
  generalize es[i].id = id at *
  clear h hr hkn he hqb1 hx fin hg
  obtain ⟨u, hu⟩ := hu
  go_enter Try.func9, Try.ntmps9
  go_wp2_with (first | (go_at_call 24; refine c1.mono ?_; rintro e w1 ⟨rfl, rfl⟩))
  go_region_with (go_at_call 25; refine c2.mono ?_; rintro e w2 ⟨rfl, es', hM, hh⟩)
  all_goals
    have HM := Box.mk (And.intro hM hh)
    clear hM hh c2
    go_wp2
    go_ret
    exact ⟨rfl, _, es', FIN.out w2 es' HM.out.1 HM.out.2⟩

set_option maxHeartbeats 2000000 in
set_option maxRecDepth 100000 in
theorem put_full (B qb m : Nat) (v : Value) (es : List Ent) (id till : Int) (w : World) (h : Que w B qb m v es) (hid : 1 ≤ id) (hw : Wf id) (hn : knownKV (es.map kv) id = false) (hf : es.length = 1024) :
    Calls Try.prog 9 #[.pointer (some ⟨qb, 0, none⟩), .int .i64 id, .int .i64 till] w (Puts w B qb m v es id till) := by
  have c1 := ok_calls B qb m v es w h
  have hr : putRes (es.map kv) id = 5 := by unfold putRes; rw [if_neg (by omega), hn, if_neg (by decide), if_neg (by rw [List.length_map]; omega)]
  have hE : Puts w B qb m v es id till (.returned (.int .i64 5)) w := ⟨by rw [hr], v, es, .same h (by unfold stepPut; rw [hr, if_neg (by decide)])⟩
  have HE := Box.mk hE
  obtain ⟨ao, cap, rfl, hg⟩ := h.slice
  have hmiss := h.miss hw hn
  have hc1 := h.q.c1
  have hc0 := h.q.c0
  rw [hf] at hc0
  have hid' : ¬ id < 1 := by omega
  clear h hr hE hf hn hg
  go_enter Try.func9, Try.ntmps9
  go_wp2_with (first | (go_at_call 24; refine c1.mono ?_; rintro e w1 ⟨rfl, rfl⟩))
  go_ret
  exact HE.out
end Go.Proofs.Ytnnebkmjeigflaa.L
