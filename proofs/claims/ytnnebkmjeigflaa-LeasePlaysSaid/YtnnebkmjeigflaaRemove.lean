/- container/heap's Remove over the queue's pile. -/
import Derived.Test.YtnnebkmjeigflaaFix
namespace Go.Proofs.Ytnnebkmjeigflaa.L
open Go.RowKit

theorem take_last {es : List Ent} {n : Nat} (hn : n + 1 = es.length) : es.take n ++ [es[n]!] = es := by
  rw [getElem!_pos es n (by omega), List.take_append_getElem (by omega), List.take_of_length_le (by omega)]
theorem Heap.take {es : List Ent} {n : Nat} (h : Heap es n) (hn : n ≤ es.length) : Heap (es.take n) n := by
  have g : ∀ k, k < n → (es.take n)[k]! = es[k]! := fun k hk => by
    rw [getElem!_pos (es.take n) k (by rw [List.length_take]; omega), getElem!_pos es k (by omega), List.getElem_take]
  intro k h0 hk
  rw [g k hk, g _ (by omega)]
  exact h k h0 hk
theorem HeapX.congr {es es' : List Ent} {n i : Nat} (hi : i < n) (hg : ∀ k, k < n → es'[k]! = es[k]!) (h : HeapX es n i) : HeapX es' n i :=
  ⟨fun k h0 hk h1 h2 => by rw [hg k hk, hg _ (by omega)]; exact h.1 k h0 hk h1 h2, fun k h0 hk h1 h2 => by rw [hg k hk, hg _ (by omega)]; exact h.2 k h0 hk h1 h2⟩
theorem Heap.x_swap {es : List Ent} {n i : Nat} (hl : n + 1 = es.length) (hi : i < n) (h : Heap es (n + 1)) : HeapX (swapL es i n) n i := by
  refine HeapX.congr hi (fun k hk => ?_) ((h.mono (by omega)).x_set i es[n]!)
  unfold swapL
  simp only [List.getElem!_eq_getElem?_getD, List.getElem?_set]
  rw [if_neg (by omega)]
theorem swapL_last {es : List Ent} {n i : Nat} (hl : n + 1 = es.length) (hi : i < n) : (swapL es i n)[n]! = es[i]! := by
  rw [swapL_get es i n n (by omega) (by omega) (by omega), if_pos rfl, getElem!_pos es i (by omega)]
/-- What Remove leaves. -/
def Removed (w w' : World) (qb B g cap n i : Nat) (mp : Value) (es : List Ent) : Prop :=
  ∃ es', QAt w' qb (.slice (some ⟨g, 0, none⟩) n cap) mp ∧ Pile w' B (.slice (some ⟨g, 0, none⟩) n cap) es' ∧ (es' ++ [es[i]!]).Perm es ∧ Heap es' n ∧ Frame (fun b => b = qb ∨ Pile.Foot (.slice (some ⟨g, 0, none⟩) (n + 1) cap) es b) w w'
theorem removed {w w1 : World} {qb B g cap n i : Nat} {mp : Value} {es es' : List Ent} (hl : n + 1 = es.length) (hq : QAt w1 qb (.slice (some ⟨g, 0, none⟩) (n + 1) cap) mp) (hp : Pile w1 B (.slice (some ⟨g, 0, none⟩) (n + 1) cap) es')
    (hperm : es'.Perm es) (hlast : es'[n]! = es[i]!) (hh : Heap es' n) (hf : Frame (Pile.Foot (.slice (some ⟨g, 0, none⟩) (n + 1) cap) es) w w1) :
    Removed w (w1.setCell ⟨qb, 0, none⟩ (.slice (some ⟨g, 0, none⟩) n cap)) qb B g cap n i mp es := by
  have hl' : n + 1 = es'.length := hl.trans hperm.length_eq.symm
  refine ⟨es'.take n, hq.set _, ?_, ?_, hh.take (by omega), ?_⟩
  · have h1 := hp.take hl' n (by omega)
    refine h1.other (fun hF => hq.apart hp ?_) 0 _
    rcases hF with h | ⟨x, hx, e⟩
    · exact .inl h
    · exact .inr ⟨x, List.mem_of_mem_take hx, e⟩
  · rw [← hlast, take_last hl']
    exact hperm
  · exact (hf.mono (fun _ _ h => .inr h)).setCell ⟨qb, 0, none⟩ (fun _ => .inl rfl) _

set_option maxHeartbeats 1000000 in
set_option maxRecDepth 100000 in
theorem hremove_calls (qb B g cap n i : Nat) (mp : Value) (es : List Ent) (w : World) (hq : QAt w qb (.slice (some ⟨g, 0, none⟩) (n + 1) cap) mp) (hp : Pile w B (.slice (some ⟨g, 0, none⟩) (n + 1) cap) es)
    (hl : n + 1 = es.length) (hi : i ≤ n) (hh : Heap es (n + 1)) (hbig : n ≤ 1000000) :
    Calls Try.prog 34 #[.iface 65 (.pointer (some ⟨qb, 0, none⟩)), .int .i64 i] w fun e w' => (∃ v, e = .returned v) ∧ Removed w w' qb B g cap n i mp es := by
  have hm := hq.len
  have c1 := fun W => len_calls (some ⟨g, 0, none⟩) (n + 1) cap W
  have hpp := fun W => run_pop W (.pointer (some ⟨qb, 0, none⟩))
  have HQ := Box.mk hq
  have HP := Box.mk hp
  have HL := Box.mk hl
  have HH := Box.mk hh
  by_cases hin : i = n
  · subst hin
    have c2 := pop_calls qb B g cap (i + 1) mp es w hq hp hl (by omega) (by omega)
    have ht : ((i : Int) != (i : Int)) = false := by simp
    clear hq hp hl hh
    go_enter Try.func34, Try.ntmps34
    go_wp2_with (first | (go_at_call 80; refine (c1 _).mono ?_; rintro e w1 ⟨rfl, rfl⟩) | (go_at_call 83; refine c2.mono ?_; rintro e w2 ⟨⟨v, rfl⟩, rfl⟩))
    go_ret
    exact ⟨⟨_, rfl⟩, removed HL.out HQ.out HP.out (.refl _) rfl (HH.out.mono (by omega)) (.refl _ _)⟩
  · have hin' : i < n := by omega
    have ht : ((n : Int) != (i : Int)) = true := by simp; omega
    have hsw := hq.swap
    have c2 := swap_calls B g (n + 1) cap es i n w hp hl (by omega) (by omega) hin
    clear hq hp hh hl
    go_enter Try.func34, Try.ntmps34
    go_wp2_with (first | (go_at_call 80; refine (c1 _).mono ?_; rintro e w1 ⟨rfl, rfl⟩) | (go_at_call 82; refine c2.mono ?_; rintro e w2 ⟨rfl, hp2, hf2, hz2⟩))
    have hl2 : n + 1 = (swapL es i n).length := by rw [swapL_length]; exact HL.out
    have hq2 := HQ.out.kept HP.out hf2
    have st := HH.out.x_swap HL.out hin'
    have c3 := down_calls qb B g cap (n + 1) n i mp (swapL es i n) w2 hq2 hp2 hl2 (by omega) hin' st (by omega)
    have M0 : Box (Moved w w2 B n (.slice (some ⟨g, 0, none⟩) (n + 1) cap) es (swapL es i n) ∨ True) := ⟨.inr trivial⟩
    have HL2 := Box.mk hl2
    have HQ2 := Box.mk hq2
    have HP2 := Box.mk hp2
    have HF2 := Box.mk hf2
    have HS := Box.mk st
    clear hl2 hq2 hp2 hf2 st M0 c2 hm hsw
    refine c3.mono ?_
    rintro e w3 ⟨b, rfl, D⟩
    have HD := Box.mk D
    clear D c3
    cases b with
    | true =>
      obtain ⟨es', M, h, _⟩ := HD.out
      have hh := h rfl
      have hq3 := HQ2.out.kept HP2.out M.frame
      have hl3 := HL2.out.trans M.length.symm
      have c4 := pop_calls qb B g cap (n + 1) mp es' w3 hq3 M.pile hl3 (by omega) (by omega)
      have R := removed (i := i) HL.out hq3 M.pile (M.perm.trans (swapL_perm es i n (by have := HL.out; omega) (by have := HL.out; omega))) ((M.rest n (Nat.le_refl _)).trans (swapL_last HL.out hin')) hh
        (HF2.out.then M.frame (fun _ _ => .perm (swapL_perm es i n (by have := HL.out; omega) (by have := HL.out; omega))))
      have HR := Box.mk R
      clear M h hh hq3 hl3 R HD
      go_wp2_with (first | (go_at_call 83; refine c4.mono ?_; rintro e w4 ⟨⟨v, rfl⟩, rfl⟩))
      go_ret
      exact ⟨⟨_, rfl⟩, HR.out⟩
    | false =>
      obtain ⟨es', M, _, h⟩ := HD.out
      obtain ⟨rfl, hd⟩ := h rfl
      have c4 := up_calls qb B g cap (n + 1) n i mp (swapL es i n) w3 (HQ2.out.kept HP2.out M.frame) M.pile HL2.out (by omega) hin' HS.out hd (by omega)
      have HM := Box.mk M
      clear M h hd HD
      go_wp2_with (first | (go_at_call 36; refine c4.mono ?_))
      rintro e w4 ⟨rfl, es2, M, hh⟩
      have hq3 := (HQ2.out.kept HP2.out HM.out.frame).kept HM.out.pile M.frame
      have M2 := HM.out.trans M
      have hl3 := HL2.out.trans M2.length.symm
      have c5 := pop_calls qb B g cap (n + 1) mp es2 w4 hq3 M2.pile hl3 (by omega) (by omega)
      have R := removed (i := i) HL.out hq3 M2.pile (M2.perm.trans (swapL_perm es i n (by have := HL.out; omega) (by have := HL.out; omega))) ((M2.rest n (Nat.le_refl _)).trans (swapL_last HL.out hin')) hh
        (HF2.out.then M2.frame (fun _ _ => .perm (swapL_perm es i n (by have := HL.out; omega) (by have := HL.out; omega))))
      have HR := Box.mk R
      clear M M2 hh hq3 hl3 R c4
      go_wp2_with (first | (go_at_call 83; refine c5.mono ?_; rintro e w5 ⟨⟨v, rfl⟩, rfl⟩))
      go_ret
      exact ⟨⟨_, rfl⟩, HR.out⟩
end Go.Proofs.Ytnnebkmjeigflaa.L
