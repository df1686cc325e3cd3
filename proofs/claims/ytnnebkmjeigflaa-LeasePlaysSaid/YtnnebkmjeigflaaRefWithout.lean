/- The reference's without, where a place is taken out. -/
import Derived.Test.YtnnebkmjeigflaaRefApp
namespace Go.Proofs.Ytnnebkmjeigflaa.L
open Go.RowKit Go.Maps

/-- A list in a row of the call's own. -/
def Made (w : World) (L : List (Int × Int)) (e : Ending) (w' : World) : Prop := ∃ r, e = .returned r ∧ w'.ownsRow w.heap.size 75 2 r L.length (cellsL L) ∧ Below w.heap.size w w'
set_option maxHeartbeats 2000000 in
set_option maxRecDepth 100000 in
theorem without_calls (ao : Option Addr) (c : Nat) (L : List (Int × Int)) (i : Nat) (w : World) (h : RowL w ao c L) (hi : i < L.length) :
    Calls Try.prog 42 #[.slice ao L.length c, .int .i64 i] w (Made w (L.take i ++ L.drop (i + 1))) := by
  obtain ⟨i0, hi0, hz0, hz1, hz2⟩ := info_parts info75
  have hle := h.le
  have hfew := h.few
  cases ao with
  | none => have := (h.empty rfl).1; omega
  | some a =>
  obtain ⟨g, off, rfl⟩ : ∃ g off, a = ⟨g, off, none⟩ := ⟨_, _, h.form a rfl⟩
  have hsp : L = L.take i ++ [L[i]] ++ L.drop (i + 1) := by
    rw [List.append_assoc, List.singleton_append, List.getElem_cons_drop, List.take_append_drop]
  have hN1 : Box (∀ ad, some (⟨g, off, none⟩ : Addr) = some ad → ∀ j u, (cellsL (L.take i))[j]? = some u → w.drew.cell? (ad.add j) = some u) := ⟨fun ad e j u hu => by
    injection e with e; subst e
    have := h.part 0 (M := L.take i) (R := L.drop i) (by simp) (Nat.zero_le _) j u hu
    simpa using this⟩
  have hN2 : Box (∀ j u, (cellsL (L.drop (i + 1)))[j]? = some u → w.cell? ((⟨g, off + (i + 1) * 2, none⟩ : Addr).add j) = some u) := ⟨fun j u hu =>
    h.part (i + 1) (M := L.drop (i + 1)) (R := []) (by simp) (by omega) j u hu⟩
  have hl1 : Box ((cellsL (L.take i)).length = i * 2) := ⟨by rw [cellsL_length, List.length_take, Nat.min_eq_left (by omega)]⟩
  obtain ⟨n, hn⟩ : ∃ n, L.length = n := ⟨_, rfl⟩
  have hl2 : Box ((cellsL (L.drop (i + 1))).length = (n - (i + 1)) * 2) := ⟨by rw [cellsL_length, List.length_drop, hn]⟩
  have hlen : Box ((L.take i ++ L.drop (i + 1)).length = 0 + i + (n - (i + 1))) := ⟨by rw [List.length_append, List.length_take, List.length_drop, hn, Nat.min_eq_left (by omega)]; omega⟩
  rw [hn] at hi hle hfew ⊢
  have ho1 : Box (w.drew.ownsRow w.heap.size 75 2 (.slice none 0 0) 0 []) := ⟨World.ownsRow_nil _ _ _ _⟩
  have hm : (0 : Int) ≤ i := by omega
  have hneg : ¬ (i : Int) < 0 := by omega
  have hic : (i : Int) ≤ c := by omega
  have hwr : IntKind.i64.wrap ((i : Int) + 1) = (i : Int) + 1 := by rw [IntKind.wrap_i64]; omega
  have hp0 : (0 : Int) ≤ (i : Int) + 1 := by omega
  have hp1 : (i : Int) + 1 ≤ (n : Int) := by omega
  have hp2 : ((i : Int) + 1).toNat = i + 1 := by omega
  have hp3 : (n : Int) ≤ c := by omega
  by_cases hc : c = i + 1
  · have hN3 : Box (∀ w1, w.drew.grownBy w1 (Value.slice none 0 0).ownBlock → ∀ ad, some (⟨g, off, none⟩ : Addr) = some ad → ∀ j u, (cellsL (L.drop (i + 1)))[j]? = some u → w1.cell? (ad.add j) = some u) := ⟨fun w1 hg ad e j u hu => by
      have := (List.getElem?_eq_some_iff.1 hu).1
      have h2 := hl2.out
      omega⟩
    clear h hsp hn
    subst hc
    have hic2 : (i : Int) ≤ (i : Int) + 1 := by omega
    go_enter Try.func42, Try.ntmps42
    go_wp2_with fail
    go_region_law (first | (refine step_append_any _ rfl (.const (.slice none 0 0)) (.tmp 10) 33 rfl w.heap.size 75 i0 _ 2 16 Try.underlying33 hi0 hz0 hz1 hz2 rfl (by decide) (.slice none 0 0) 0 [] rfl ho1.out (some ⟨g, off, none⟩) i (i + 1) (cellsL (L.take i)) (by simp [Act.eval, Act.put]) hl1.out (fun e => by cases e) hN1.out (cellsL_one _) (by unfold maxLen; omega) (by omega) (by simp) ?_; intro v1 w1 ho2 hg1) | (refine step_append_any _ rfl (.tmp 11) (.tmp 15) 33 rfl w.heap.size 75 i0 _ 2 16 Try.underlying33 hi0 hz0 hz1 hz2 rfl (by decide) v1 (0 + i) ([] ++ cellsL (L.take i)) (by simp [Act.eval]) ho2 (some ⟨g, off, none⟩) (n - (i + 1)) 0 (cellsL (L.drop (i + 1))) (by simp [Act.eval]; omega) hl2.out (fun e => by cases e) (hN3.out w1 hg1) (cellsL_one _) (by unfold maxLen; omega) (by omega) (by have := hg1.size; exact this) ?_; intro v2 w2 ho3 hg2))
    all_goals
      have HE : Box (Made w (L.take i ++ L.drop (i + 1)) (.returned v2) w2) := ⟨v2, rfl, by rw [hlen.out, cellsL_append]; simpa using ho3, ((Below.refl _ w).drew.grown hg1 (Nat.le_refl _) (fun k hk => by simp [Value.ownBlock] at hk)).grown hg2 hg1.size (fun k hk => (ho2.lt k hk).1)⟩
      clear ho2 hg1 ho3 hg2
      go_wp2
      go_ret
      exact HE.out
  · have hN3 : Box (∀ w1, w.drew.grownBy w1 (Value.slice none 0 0).ownBlock → ∀ ad, some (⟨g, off + (i + 1) * 2, none⟩ : Addr) = some ad → ∀ j u, (cellsL (L.drop (i + 1)))[j]? = some u → w1.cell? (ad.add j) = some u) := ⟨fun w1 hg ad e j u hu => by
      injection e with e; subst e
      have h0 := hN2.out j u hu
      exact (World.cell?_of_block (w := w) (hg.block _ (World.block_lt_of_cell? w _ h0) (by simp [Value.ownBlock]))).trans h0⟩
    clear h hsp hn
    go_enter Try.func42, Try.ntmps42
    go_wp2_with fail
    go_region_law (first | (refine step_append_any _ rfl (.const (.slice none 0 0)) (.tmp 10) 33 rfl w.heap.size 75 i0 _ 2 16 Try.underlying33 hi0 hz0 hz1 hz2 rfl (by decide) (.slice none 0 0) 0 [] rfl ho1.out (some ⟨g, off, none⟩) i c (cellsL (L.take i)) (by simp [Act.eval, Act.put]) hl1.out (fun e => by cases e) hN1.out (cellsL_one _) (by unfold maxLen; omega) (by omega) (by simp) ?_; intro v1 w1 ho2 hg1) | (refine step_append_any _ rfl (.tmp 11) (.tmp 15) 33 rfl w.heap.size 75 i0 _ 2 16 Try.underlying33 hi0 hz0 hz1 hz2 rfl (by decide) v1 (0 + i) ([] ++ cellsL (L.take i)) (by simp [Act.eval]) ho2 (some ⟨g, off + (i + 1) * 2, none⟩) (n - (i + 1)) (c - (i + 1)) (cellsL (L.drop (i + 1))) (by simp [Act.eval]) hl2.out (fun e => by cases e) (hN3.out w1 hg1) (cellsL_one _) (by unfold maxLen; omega) (by omega) (by have := hg1.size; exact this) ?_; intro v2 w2 ho3 hg2))
    all_goals
      have HE : Box (Made w (L.take i ++ L.drop (i + 1)) (.returned v2) w2) := ⟨v2, rfl, by rw [hlen.out, cellsL_append]; simpa using ho3, ((Below.refl _ w).drew.grown hg1 (Nat.le_refl _) (fun k hk => by simp [Value.ownBlock] at hk)).grown hg2 hg1.size (fun k hk => (ho2.lt k hk).1)⟩
      clear ho2 hg1 ho3 hg2
      go_wp2
      go_ret
      exact HE.out
end Go.Proofs.Ytnnebkmjeigflaa.L
