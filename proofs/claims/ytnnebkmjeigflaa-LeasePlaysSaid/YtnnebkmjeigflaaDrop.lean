/- The queue's Drop. -/
import Derived.Test.YtnnebkmjeigflaaPutNew
namespace Go.Proofs.Ytnnebkmjeigflaa.L
open Go.RowKit Go.Maps

def stepDrop (l : List (Int × Int)) (id : Int) : List (Int × Int) := without l id
def Drops (w : World) (B qb m : Nat) (v : Value) (es : List Ent) (id : Int) (e : Ending) (w' : World) : Prop :=
  e = .returned (.int .i64 (dropRes (es.map kv) id)) ∧ ∃ v' es', Turned w w' B qb m v es (without (es.map kv) id) v' es'

set_option maxHeartbeats 1000000 in
set_option maxRecDepth 100000 in
theorem drop_none (B qb m : Nat) (v : Value) (es : List Ent) (id : Int) (w : World) (h : Que w B qb m v es) (hw : Wf id) (hn : knownKV (es.map kv) id = false) :
    Calls Try.prog 23 #[.pointer (some ⟨qb, 0, none⟩), .int .i64 id] w (Drops w B qb m v es id) := by
  have c1 := ok_calls B qb m v es w h
  have hmiss := h.miss hw hn
  have hc1 := h.q.c1
  have hE : Drops w B qb m v es id (.returned (.int .i64 6)) w := ⟨by unfold dropRes; rw [hn, if_neg (by decide)], v, es, .same h (without_none hn).symm⟩
  have HE := Box.mk hE
  clear h hn hE
  go_enter Try.func23, Try.ntmps23
  go_wp2_with (first | (go_at_call 24; refine c1.mono ?_; rintro e w1 ⟨rfl, rfl⟩))
  go_ret
  exact HE.out
theorem knows_away {f : Lit → Option Value} {es es' : List Ent} {e : Ent} (h : Knows f es) (hA : Apart es) (hp : (es' ++ [e]).Perm es) : Knows (putF f (.int .i64 e.id) none) es' := fun a ha => by
  have hA' := hA.perm hp
  unfold Apart at hA'
  rw [List.pairwise_append] at hA'
  have hs : (Lit.int .i64 a).sameKey (.int .i64 e.id) = true ↔ a = e.id := by
    rw [WideAt.sameKey_iff (by trivial)]
    constructor
    · intro h; injection h
    · intro h; rw [h]
  unfold putF
  refine ⟨fun x hx hid => ?_, fun hx => ?_⟩
  · rw [if_neg (fun e2 => hA'.2.2 x hx e (List.mem_singleton.2 rfl) (hid.trans (hs.1 e2)))]
    exact (h a ha).1 x (hp.mem_iff.1 (List.mem_append.2 (.inl hx))) hid
  · by_cases he : (Lit.int .i64 a).sameKey (.int .i64 e.id) = true
    · rw [if_pos he]
    · rw [if_neg he]
      refine (h a ha).2 fun x h1 => ?_
      rcases List.mem_append.1 (hp.mem_iff.2 h1) with h2 | h2
      · exact hx x h2
      · obtain rfl := List.mem_singleton.1 h2
        exact fun e2 => he (hs.2 e2.symm)
theorem Que.dropped {w w2 w3 : World} {B qb m g cap n i : Nat} {es : List Ent} (h : Que w B qb m (.slice (some ⟨g, 0, none⟩) (n + 1) cap) es) (hi : i < es.length) (hl : n + 1 = es.length) {f : Lit → Option Value} (hk : Knows f es)
    (hR : Removed w w2 qb B g cap n i (.map (some m)) es) (hm : Kmap Try.prog 3 w3 m n (putF f (.int .i64 es[i].id) none)) (hf : Frame (fun k => k = m) w2 w3) :
    ∃ es', Turned w w3 B qb m (.slice (some ⟨g, 0, none⟩) (n + 1) cap) es (without (es.map kv) es[i].id) (.slice (some ⟨g, 0, none⟩) n cap) es' := by
  obtain ⟨es', hq, hp, hperm, hh, hfr⟩ := hR
  rw [getElem!_pos es i hi] at hperm
  obtain ⟨hqm, hmF⟩ := h.map_apart
  have hlen : es'.length = n := by have := hperm.length_eq; rw [List.length_append, List.length_singleton] at this; omega
  have hsub : ∀ e ∈ es', e ∈ es := fun e he => hperm.mem_iff.1 (List.mem_append.2 (.inl he))
  have hF' : ∀ k, Pile.Foot (.slice (some ⟨g, 0, none⟩) n cap) es' k → Pile.Foot (.slice (some ⟨g, 0, none⟩) (n + 1) cap) es k := fun k hF => by
    rcases hF with h1 | ⟨e, he, h1⟩
    · exact .inl h1
    · exact .inr ⟨e, hsub e he, h1⟩
  have hA : Apart es' := by
    have := h.apart.perm hperm
    unfold Apart at this ⊢
    exact (List.pairwise_append.1 this).1
  refine ⟨es', ⟨hf.get hq hqm, hp.of fun k hF => hf.block k (hp.foot_base hF).2 (fun e => hmF (e ▸ hF' k hF)), ⟨_, by rw [hlen]; exact hm, knows_away hk h.apart hperm⟩, by rw [hlen]; exact hh, hA, fun e he => h.wf e (hsub e he), by have := h.few; omega, h.bq, h.bm⟩, away_perm h.apart hperm, ?_, fun k hF => .inl ?_⟩
  · refine (hfr.mono (fun k _ h1 => ?_)).then hf (fun k _ h1 => .inr (.inl h1))
    rcases h1 with h1 | h1
    · exact .inl h1
    · exact .inr (.inr h1)
  · rcases hF with h1 | h1 | h1
    · exact .inl h1
    · exact .inr (.inl h1)
    · exact .inr (.inr (hF' k h1))
set_option maxHeartbeats 2000000 in
set_option maxRecDepth 100000 in
theorem drop_old (B qb m : Nat) (v : Value) (es : List Ent) (i : Nat) (hi : i < es.length) (w : World) (h : Que w B qb m v es) :
    Calls Try.prog 23 #[.pointer (some ⟨qb, 0, none⟩), .int .i64 es[i].id] w (Drops w B qb m v es es[i].id) := by
  have c1 := ok_calls B qb m v es w h
  obtain ⟨ao, cap, rfl, hg⟩ := h.slice
  obtain ⟨g, rfl⟩ := hg (by intro e; rw [e] at hi; exact absurd hi (Nat.not_lt_zero _))
  have hkn : knownKV (es.map kv) es[i].id = true := (known_kv _ _).2 ⟨_, List.getElem_mem hi, rfl⟩
  have hfind : (Instr.lookup 55 (.map (some m)) (.int .i64 es[i].id) false).run Try.prog w = .ok (.pointer (some ⟨es[i].blk, 0, none⟩)) w := h.find i hi
  obtain ⟨n, hn⟩ : ∃ n, es.length = n + 1 := ⟨es.length - 1, by omega⟩
  rw [hn] at h ⊢
  have he := h.pile.ent i hi
  have hat : w.cell? ⟨es[i].blk, 2, none⟩ = some (.int .i64 i) := (cell_of he 2).trans rfl
  have c2 := hremove_calls qb B g cap n i (.map (some m)) es w.drew h.q ⟨h.pile.own, h.pile.ent, h.pile.base⟩ hn.symm (by omega) (hn ▸ h.heap) (by have := h.few; omega)
  obtain ⟨f, hkm, hk⟩ := h.map
  have hwf := (h.wf _ (List.getElem_mem hi)).1
  have hsome : (f (.int .i64 es[i].id)).isSome = true := by rw [(hk _ hwf).1 _ (List.getElem_mem hi) rfl]; rfl
  have hkey := key_of hwf
  have hc1 := h.q.c1
  have hmq := h.map_apart
  have H := Box.mk h
  have hR : ∀ w2, Removed w.drew w2 qb B g cap n i (.map (some m)) es → w2.cell? ⟨qb, 1, none⟩ = some (.map (some m)) ∧ Kmap Try.prog 3 w2 m (n + 1) f := fun w2 ⟨es', hq, _, _, _, hfr⟩ =>
    ⟨hq.c1, by rw [← hn]; exact (hkm.of (hfr.block m hkm.lt (fun hF => by rcases hF with h1 | h1; exact hmq.1 h1.symm; exact hmq.2 h1)))⟩
  have fin := fun {w2 w3 : World} (hR : Removed w.drew w2 qb B g cap n i (.map (some m)) es) (hm : Kmap Try.prog 3 w3 m n (putF f (.int .i64 es[i].id) none)) (hf : Frame (fun k => k = m) w2 w3) =>
    H.out.dropped (w2 := w2) (w3 := w3) (i := i) hi hn.symm hk (by obtain ⟨es', a1, a2, a3, a4, a5⟩ := hR; exact ⟨es', a1, a2, a3, a4, ⟨a5.os, a5.tape, a5.output, a5.size, a5.block⟩⟩) hm hf
  have FIN := Box.mk @fin
  have HRR := Box.mk hR
  have HSM := Box.mk hsome
  unfold Drops dropRes
  rw [hkn, if_pos rfl]
  have HN := Box.mk hn
  have HI := Box.mk hi
  generalize es[i].blk = eb at *
  generalize es[i].id = id at *
  clear h hkn he hg hkm hk hmq hR fin hsome hwf hn
  go_enter Try.func23, Try.ntmps23
  go_wp2_with (first | (go_at_call 24; refine c1.mono ?_; rintro e w1 ⟨rfl, rfl⟩))
  go_region_with (go_at_call 34; refine c2.mono ?_; rintro e w2 ⟨⟨v, rfl⟩, hR⟩)
  all_goals
    have hh := HRR.out w2 hR
    have HR := Box.mk hR
    have HK := Box.mk hh.2
    have hc2 := hh.1
    clear hh hR c2
    go_wp2_with (first | (at_delete; refine wpList_delete_k rfl _ _ 55 3 rfl 61 keyed Try.underlying55 m (n + 1) f rfl HK.out _ _ rfl hkey ?_; intro w3 hm3 ht3))
    go_ret
    rw [HSM.out, if_pos rfl] at hm3
    obtain ⟨es', hT⟩ := FIN.out HR.out hm3 (turned_frame ht3).1
    exact ⟨rfl, _, es', hT⟩
theorem drop_calls (B qb m : Nat) (v : Value) (es : List Ent) (id : Int) (w : World) (h : Que w B qb m v es) (hw : Wf id) :
    Calls Try.prog 23 #[.pointer (some ⟨qb, 0, none⟩), .int .i64 id] w (Drops w B qb m v es id) := by
  cases hk : knownKV (es.map kv) id with
  | true =>
    obtain ⟨e, he, rfl⟩ := (known_kv _ _).1 hk
    obtain ⟨i, hi, rfl⟩ := List.getElem_of_mem he
    exact drop_old B qb m v es i hi w h
  | false => exact drop_none B qb m v es id w h hw hk
end Go.Proofs.Ytnnebkmjeigflaa.L
