/- The queue's Put, a number that is not there yet. -/
import Derived.Test.YtnnebkmjeigflaaPut
namespace Go.Proofs.Ytnnebkmjeigflaa.L
open Go.RowKit Go.Maps

theorem knows_new {f : Lit → Option Value} {es : List Ent} (h : Knows f es) {e : Ent} (hw : Wf e.id) (hn : ∀ x ∈ es, x.id ≠ e.id) : Knows (putF f (.int .i64 e.id) (some e.ptr)) (es ++ [e]) := fun a ha => by
  unfold putF
  have hs : (Lit.int .i64 a).sameKey (.int .i64 e.id) = true ↔ a = e.id := by
    rw [WideAt.sameKey_iff (by trivial)]
    constructor
    · intro h; injection h
    · intro h; rw [h]
  refine ⟨fun x hx hid => ?_, fun hx => ?_⟩
  · rcases List.mem_append.1 hx with h1 | h1
    · rw [if_neg (fun e2 => hn x h1 (hid.trans (hs.1 e2)))]
      exact (h a ha).1 x h1 hid
    · obtain rfl := List.mem_singleton.1 h1
      rw [if_pos (hs.2 hid.symm)]
  · rw [if_neg (fun e2 => hx e (List.mem_append.2 (.inr (List.mem_singleton.2 rfl))) (hs.1 e2).symm)]
    exact (h a ha).2 fun x h1 => hx x (List.mem_append.2 (.inl h1))
theorem knowsNone {f : Lit → Option Value} {es : List Ent} (h : Knows f es) {id : Int} (hw : Wf id) (hn : ∀ x ∈ es, x.id ≠ id) : f (.int .i64 id) = none := (h id hw).2 hn
/-- Behind Push. -/
theorem Que.pushed {w w2 w3 : World} {B qb m g l cap cap' : Nat} {ao : Option Addr} {es es' : List Ent} (h : Que w B qb m (.slice ao l cap) es) (id till : Int) (hid : 1 ≤ id) (hw : Wf id) (ht : Wf till) (hn : knownKV (es.map kv) id = false) (hl : l = es.length) (hfew : es.length < 1024)
    {f : Lit → Option Value} (hk : Knows f es) (hm : Kmap Try.prog 3 w2 m (es.length + 1) (putF f (.int .i64 id) (some (Ent.mk w.heap.size id till).ptr))) (hf2 : Frame (fun i => i = m) (w.alloc (.cells #[.int .i64 id, .int .i64 till, .int .i64 0] 63)) w2)
    (hq3 : QAt w3 qb (.slice (some ⟨g, 0, none⟩) (l + 1) cap') (.map (some m))) (hp3 : Pile w3 B (.slice (some ⟨g, 0, none⟩) (l + 1) cap') es') (hperm : es'.Perm (es ++ [Ent.mk w.heap.size id till])) (hh : Heap es' (l + 1))
    (hf3 : Frame (fun b => b = qb ∨ b = w.heap.size ∨ Pile.Foot (.slice ao l cap) es b) w2 w3) (hg : ao.map (·.block) = some g ∨ w2.heap.size ≤ g) :
    Turned w w3 B qb m (.slice ao l cap) es ((id, till) :: without (es.map kv) id) (.slice (some ⟨g, 0, none⟩) (l + 1) cap') es' := by
  obtain ⟨hqm, hmF⟩ := h.map_apart
  have hlen : es'.length = es.length + 1 := by rw [hperm.length_eq, List.length_append, List.length_singleton]
  have hnone := (known_kv_false _ _).1 hn
  have hmw : m < w.heap.size := by obtain ⟨f, hf, _⟩ := h.map; exact hf.lt
  have hsz : w.heap.size < w2.heap.size := by have := hf2.size; rw [World.size_alloc] at this; omega
  have hA : Apart (es ++ [Ent.mk w.heap.size id till]) := by
    unfold Apart
    rw [List.pairwise_append]
    exact ⟨h.apart, List.pairwise_singleton _ _, fun a ha b hb => by obtain rfl := List.mem_singleton.1 hb; exact hnone a ha⟩
  refine ⟨⟨hq3, hp3, ⟨_, ?_, (knows_new (e := Ent.mk w.heap.size id till) hk hw hnone).perm hperm⟩, by rw [hlen, ← hl]; exact hh, hA.perm hperm, fun e he => ?_, by rw [hlen]; omega, h.bq, h.bm⟩, ?_, ?_, fun k hF => ?_⟩
  · rw [hlen]
    refine hm.of (hf3.block m hm.lt (fun hF => ?_))
    rcases hF with h1 | h1 | h1
    · exact hqm h1.symm
    · omega
    · exact hmF h1
  · rcases List.mem_append.1 (hperm.mem_iff.1 he) with h1 | h1
    · exact h.wf e h1
    · obtain rfl := List.mem_singleton.1 h1
      exact ⟨hw, ht, hid⟩
  · refine (hperm.map kv).trans ?_
    rw [List.map_append, without_none hn]
    exact List.perm_append_comm
  · have f1 := (Frame.refl (Que.Foot qb m (.slice ao l cap) es) w).alloc (.cells #[.int .i64 id, .int .i64 till, .int .i64 0] 63)
    refine (f1.then hf2 (fun i _ h1 => .inr (.inl h1))).then hf3 (fun i hi h1 => ?_)
    rcases h1 with h1 | h1 | h1
    · exact .inl h1
    · omega
    · exact .inr (.inr h1)
  · rcases hF with h1 | h1 | h1
    · exact .inl (.inl h1)
    · exact .inl (.inr (.inl h1))
    · rcases h1 with hv | ⟨e, he, rfl⟩
      · have : g = k := by simpa [Value.ownBlock] using hv
        subst this
        rcases hg with hg | hg
        · left; right; right; left
          cases ao with
          | none => simp at hg
          | some a => simpa [Value.ownBlock] using hg
        · right; omega
      · rcases List.mem_append.1 (hperm.mem_iff.1 he) with h1 | h1
        · exact .inl (.inr (.inr (.inr ⟨e, h1, rfl⟩)))
        · obtain rfl := List.mem_singleton.1 h1
          exact .inr (Nat.le_refl _)

set_option maxHeartbeats 2000000 in
set_option maxRecDepth 100000 in
theorem put_new (B qb m : Nat) (v : Value) (es : List Ent) (id till : Int) (w : World) (h : Que w B qb m v es) (hB : B ≤ w.heap.size) (hid : 1 ≤ id) (hw : Wf id) (ht : Wf till) (hn : knownKV (es.map kv) id = false) (hf : es.length < 1024) :
    Calls Try.prog 9 #[.pointer (some ⟨qb, 0, none⟩), .int .i64 id, .int .i64 till] w (Puts w B qb m v es id till) := by
  have c1 := ok_calls B qb m v es w h
  have hr : putRes (es.map kv) id = 0 := by unfold putRes; rw [if_neg (by omega), hn, if_neg (by decide), if_pos (by rw [List.length_map]; omega)]
  obtain ⟨ao, cap, rfl, hg⟩ := h.slice
  have hmiss := h.miss hw hn
  have hc1 := h.q.c1
  have hc0 := h.q.c0
  have hid' : ¬ id < 1 := by omega
  have hlen : ((es.length : Int) == 1024) = false := by simp; omega
  obtain ⟨f, hkm, hk⟩ := h.map
  have hnone := knowsNone hk hw ((known_kv_false _ _).1 hn)
  obtain ⟨es0, c0, hob⟩ := hkm.obj
  have hkm1 : Kmap Try.prog 3 (w.alloc (.cells #[.int .i64 id, .int .i64 till, .int .i64 0] 63)) m es.length f := hkm.of (Below.heap_alloc _ _ _ hkm.lt)
  obtain ⟨w2, hst, hkm2, hturn⟩ := hkm1.store keyed Try.underlying55 (by unfold maxLen; omega) (val := (Ent.mk w.heap.size id till).ptr) (key_of hw)
  obtain ⟨hf2, hz2⟩ := turned_frame hturn
  rw [hnone] at hkm2
  simp only [Option.isSome_none, Bool.false_eq_true, if_false] at hkm2
  have hq1 : QAt (w.alloc (.cells #[.int .i64 id, .int .i64 till, .int .i64 0] 63)) qb _ _ := old_block h.q _
  have hq2 : QAt w2 qb (.slice ao es.length cap) (.map (some m)) := hf2.get hq1 h.map_apart.1
  have hp2 : Pile w2 B (.slice ao es.length cap) es := h.pile.of fun k hF => (hf2.block k (by rw [World.size_alloc]; have := (h.pile.foot_base hF).2; omega) (fun e => h.map_apart.2 (e ▸ hF))).trans (Below.heap_alloc _ _ _ (h.pile.foot_base hF).2)
  have he2 : EntAt w2 (Ent.mk w.heap.size id till) 0 := hf2.get (new_block w _) (fun e => Nat.lt_irrefl _ ((show w.heap.size = m from e) ▸ hkm.lt))
  have c2 := hpush_calls qb B ao es.length cap 0 (.map (some m)) es (Ent.mk w.heap.size id till) w2 hq2 hp2 rfl h.heap he2 (fun hF => Nat.lt_irrefl _ (show w.heap.size < w.heap.size from (h.pile.foot_base hF).2)) hB h.bq (by omega)
  have c0' := hq2.c0
  have fin := fun {w3 : World} {g cap' : Nat} {es' : List Ent} (hq3 : QAt w3 qb (.slice (some ⟨g, 0, none⟩) (es.length + 1) cap') (.map (some m))) hp3 hperm hh hf3 hg => h.pushed (w3 := w3) (g := g) (es' := es') id till hid hw ht hn rfl hf hk hkm2 hf2 hq3 hp3 hperm hh hf3 hg
  have FIN := Box.mk @fin
  unfold Ent.ptr at c2 hst
  have HR := Box.mk hr
  unfold Puts stepPut
  rw [hr, if_pos rfl]
  have hc1a : (w.alloc (.cells #[.int .i64 id, .int .i64 till, .int .i64 0] 63)).cell? ⟨qb, 1, none⟩ = some (.map (some m)) := hq1.c1
  clear h hr hn hg hk hkm hkm1 hkm2 hturn hf2 hq1 hq2 hp2 he2 hnone hob fin hz2
  go_enter Try.func9, Try.ntmps9
  go_wp2_with (first | (go_at_call 24; refine c1.mono ?_; rintro e w1 ⟨rfl, rfl⟩) | (go_at_call 26; refine c2.mono ?_; rintro e w3 ⟨rfl, g, cap', es', hq3, hp3, hperm, hh, hf3, hg3⟩; have HF := Box.mk (FIN.out hq3 hp3 hperm hh hf3 hg3); clear hq3 hp3 hperm hh hf3 hg3))
  go_ret
  exact ⟨rfl, _, es', HF.out⟩

theorem put_calls (B qb m : Nat) (v : Value) (es : List Ent) (id till : Int) (w : World) (h : Que w B qb m v es) (hB : B ≤ w.heap.size) (hw : Wf id) (ht : Wf till) :
    Calls Try.prog 9 #[.pointer (some ⟨qb, 0, none⟩), .int .i64 id, .int .i64 till] w (Puts w B qb m v es id till) := by
  by_cases h1 : id < 1
  · exact put_low B qb m v es id till w h h1
  · cases hk : knownKV (es.map kv) id with
    | true =>
      obtain ⟨e, he, rfl⟩ := (known_kv _ _).1 hk
      obtain ⟨i, hi, rfl⟩ := List.getElem_of_mem he
      exact put_old B qb m v es i hi till w h ht
    | false =>
      by_cases h2 : es.length < 1024
      · exact put_new B qb m v es id till w h hB (by omega) hw ht hk h2
      · exact put_full B qb m v es id till w h (by omega) hw hk (by have := h.few; omega)
end Go.Proofs.Ytnnebkmjeigflaa.L
