/- container/heap's Fix, Push, Remove over the queue's pile. -/
import Derived.Test.YtnnebkmjeigflaaDown
import Derived.Test.YtnnebkmjeigflaaPush
namespace Go.Proofs.Ytnnebkmjeigflaa.L
open Go.RowKit

theorem Moved.trans {a b c : World} {B n : Nat} {v : Value} {es es' es'' : List Ent} (h : Moved a b B n v es es') (k : Moved b c B n v es' es'') : Moved a c B n v es es'' :=
  ⟨k.pile, k.perm.trans h.perm, fun i hi => (k.rest i hi).trans (h.rest i hi), h.frame.then k.frame (fun _ _ => .perm h.perm)⟩

set_option maxHeartbeats 1000000 in
set_option maxRecDepth 100000 in
theorem fix_calls (qb B g cap l i : Nat) (mp : Value) (es : List Ent) (w : World) (hq : QAt w qb (.slice (some ⟨g, 0, none⟩) l cap) mp) (hp : Pile w B (.slice (some ⟨g, 0, none⟩) l cap) es)
    (hl : l = es.length) (hi : i < l) (hx : HeapX es l i) (hbig : l ≤ 1000000000000000000) :
    Calls Try.prog 25 #[.iface 65 (.pointer (some ⟨qb, 0, none⟩)), .int .i64 i] w fun e w' => e = .returned (.tuple #[]) ∧ ∃ es', Moved w w' B l (.slice (some ⟨g, 0, none⟩) l cap) es es' ∧ Heap es' l := by
  have hm := hq.len
  have HQ := Box.mk hq
  have HP := Box.mk hp
  have c1 := fun W => len_calls (some ⟨g, 0, none⟩) l cap W
  have c2 := down_calls qb B g cap l l i mp es w hq hp hl (Nat.le_refl _) hi hx hbig
  have HL := Box.mk hl
  have HX := Box.mk hx
  clear hq hp hl hx
  go_enter Try.func25, Try.ntmps25
  go_wp2_with (first | (go_at_call 80; refine (c1 _).mono ?_; rintro e w1 ⟨rfl, rfl⟩))
  refine c2.mono ?_
  rintro e w2 ⟨b, rfl, D⟩
  have HD := Box.mk D
  clear D c2
  cases b with
  | true =>
    go_wp2
    go_end0
    obtain ⟨es', M, h, _⟩ := HD.out
    exact ⟨rfl, es', M, h rfl⟩
  | false =>
    obtain ⟨es', M, _, h⟩ := HD.out
    obtain ⟨rfl, hd⟩ := h rfl
    have c3 := up_calls qb B g cap l l i mp es' w2 (HQ.out.kept HP.out M.frame) M.pile HL.out (Nat.le_refl _) hi HX.out hd (by omega)
    have HM := Box.mk M
    clear M h hd
    go_wp2_with (first | (go_at_call 36; refine c3.mono ?_; rintro e w3 ⟨rfl, es2, M, h⟩; have HM2 := Box.mk (And.intro M h); clear M h))
    go_end0
    exact ⟨rfl, es2, HM.out.trans HM2.out.1, HM2.out.2⟩

theorem Heap.snoc {es : List Ent} {e : Ent} {l : Nat} (hl : l = es.length) (h : Heap es l) : HeapX (es ++ [e]) (l + 1) l ∧ DownOK (es ++ [e]) (l + 1) l := by
  subst hl
  have g : ∀ k, k < es.length → (es ++ [e])[k]! = es[k]! := fun k hk => by
    rw [getElem!_pos (es ++ [e]) k (by simp; omega), getElem!_pos es k hk, List.getElem_append_left hk]
  refine ⟨⟨fun k h0 hk h1 h2 => ?_, fun k h0 hk h1 _ => by omega⟩, fun k h0 hk h1 => by omega⟩
  rw [g k (by omega), g _ (by omega)]
  exact h k h0 (by omega)
set_option maxHeartbeats 1000000 in
set_option maxRecDepth 100000 in
theorem hpush_calls (qb B : Nat) (ao : Option Addr) (l cap k : Nat) (mp : Value) (es : List Ent) (e : Ent) (w : World) (hq : QAt w qb (.slice ao l cap) mp) (hp : Pile w B (.slice ao l cap) es)
    (hl : l = es.length) (hh : Heap es l) (he : EntAt w e k) (hn : ¬ Pile.Foot (.slice ao l cap) es e.blk) (hB : B ≤ e.blk) (hqB : B ≤ qb) (hbig : l ≤ 1000000) :
    Calls Try.prog 26 #[.iface 65 (.pointer (some ⟨qb, 0, none⟩)), .iface 61 e.ptr] w fun x w' => x = .returned (.tuple #[]) ∧
      ∃ g cap' es', QAt w' qb (.slice (some ⟨g, 0, none⟩) (l + 1) cap') mp ∧ Pile w' B (.slice (some ⟨g, 0, none⟩) (l + 1) cap') es' ∧ es'.Perm (es ++ [e]) ∧ Heap es' (l + 1) ∧
        Frame (fun b => b = qb ∨ b = e.blk ∨ Pile.Foot (.slice ao l cap) es b) w w' ∧ (ao.map (·.block) = some g ∨ w.heap.size ≤ g) := by
  have c1 := push_calls qb B ao l cap k mp es e w hq hp hl he hn hB hqB hbig
  have hpush := run_push w (.pointer (some ⟨qb, 0, none⟩))
  have HL := Box.mk hl
  have HH := Box.mk hh
  clear hq hp hl hh he
  go_enter Try.func26, Try.ntmps26
  go_wp2_with (first | (go_at_call 84; refine c1.mono ?_; rintro x w1 ⟨rfl, g, cap', hq1, hp1, hf1, hg1⟩; have hm := hq1.len))
  have hl1 : l + 1 = (es ++ [e]).length := by rw [List.length_append, List.length_singleton, HL.out]
  have st := HH.out.snoc (e := e) HL.out
  have c2 := fun W => len_calls (some ⟨g, 0, none⟩) (l + 1) cap' W
  have c3 := up_calls qb B g cap' (l + 1) (l + 1) l mp (es ++ [e]) w1 hq1 hp1 hl1 (Nat.le_refl _) (Nat.lt_succ_self _) st.1 st.2 (by omega)
  have HQ1 := Box.mk hq1
  have HP1 := Box.mk hp1
  have HF1 := Box.mk hf1
  have HG1 := Box.mk hg1
  clear hq1 hp1 hf1 hg1 hl1 st c1
  go_wp2_with (first | (go_at_call 80; refine (c2 _).mono ?_; rintro e w1 ⟨rfl, rfl⟩) | (go_at_call 36; refine c3.mono ?_; rintro e w2 ⟨rfl, es', M, h⟩; have HM := Box.mk (And.intro M h); clear M h))
  go_end0
  obtain ⟨M, h⟩ := HM.out
  refine ⟨rfl, g, cap', es', HQ1.out.kept HP1.out M.frame, M.pile, M.perm, h, ?_, HG1.out⟩
  refine HF1.out.then M.frame (fun b hb hF => ?_)
  rcases hF with hv | ⟨x, hx, rfl⟩
  · rcases HG1.out with h1 | h1
    · right; right; left
      cases ao with
      | none => simp at h1
      | some a => simp [Value.ownBlock] at h1 hv ⊢; omega
    · simp [Value.ownBlock] at hv
      omega
  · rcases List.mem_append.1 hx with h1 | h1
    · exact .inr (.inr (.inr ⟨x, h1, rfl⟩))
    · obtain rfl := List.mem_singleton.1 h1
      exact .inr (.inl rfl)
end Go.Proofs.Ytnnebkmjeigflaa.L
