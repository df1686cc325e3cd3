/- LeaseNobody: the walk. -/
import Derived.Test.YtnnebkmjeigflaaAlive
namespace Go.Proofs.Ytnnebkmjeigflaa.L
open Go.RowKit

set_option maxHeartbeats 4000000 in
set_option maxRecDepth 100000 in
theorem nobody_calls (kind id till : Int) (w : World) : Calls Try.prog 7 #[.agg #[.int .u8 kind, .int .i64 id, .int .i64 till]] w fun e w' => e = .returned (.bool true) ∧ Below w.heap.size w w' := by
  have c4 := alive_calls
  obtain ⟨W0, hW0⟩ : ∃ W0, ((w.alloc (.cells #[.int .u8 kind, .int .i64 id, .int .i64 till] 38)).alloc (.cells #[.slice none 0 0, .map none] 57)).alloc (.cells #[.pointer none, .pointer (some ⟨w.heap.size + 1, 0, none⟩)] 23) = W0 := ⟨_, rfl⟩
  have b1 : W0.heap[w.heap.size]? = some (.cells #[.int .u8 kind, .int .i64 id, .int .i64 till] 38 (0, 0)) := by rw [← hW0]; exact old_block (old_block (new_block w _) _) _
  have b2 : W0.heap[w.heap.size + 1]? = some (.cells #[.slice none 0 0, .map none] 57 (0, 0)) := by
    rw [← hW0]; have := new_block (w.alloc (.cells #[.int .u8 kind, .int .i64 id, .int .i64 till] 38)) (.cells #[.slice none 0 0, .map none] 57); rw [World.size_alloc] at this; exact old_block this _
  have b3 : W0.heap[w.heap.size + 1 + 1]? = some (.cells #[.pointer none, .pointer (some ⟨w.heap.size + 1, 0, none⟩)] 23 (0, 0)) := by
    rw [← hW0]; have := new_block ((w.alloc (.cells #[.int .u8 kind, .int .i64 id, .int .i64 till] 38)).alloc (.cells #[.slice none 0 0, .map none] 57)) (.cells #[.pointer none, .pointer (some ⟨w.heap.size + 1, 0, none⟩)] 23); rw [World.size_alloc, World.size_alloc] at this; exact this
  have hB : Below w.heap.size w W0 := by rw [← hW0]; exact (((Below.refl _ w).alloc (Nat.le_refl _) _).alloc (by simp) _).alloc (by simp; omega) _
  have a1 : W0.cell? ⟨w.heap.size, 1, none⟩ = some (.int .i64 id) := (cell_of b1 1).trans rfl
  have a2 : W0.cell? ⟨w.heap.size, 2, none⟩ = some (.int .i64 till) := (cell_of b1 2).trans rfl
  have e0 : W0.cell? ⟨w.heap.size + 1 + 1, 0, none⟩ = some (.pointer none) := (cell_of b3 0).trans rfl
  have e1 : W0.cell? ⟨w.heap.size + 1 + 1, 1, none⟩ = some (.pointer (some ⟨w.heap.size + 1, 0, none⟩)) := (cell_of b3 1).trans rfl
  have D1 : Dead W0 (.pointer none) := .inl rfl
  have D2 : Dead W0 (.pointer (some ⟨w.heap.size + 1, 0, none⟩)) := .inr ⟨_, rfl, b2⟩
  have f1 := first_dead _ _ D1
  have f2 := first_dead _ _ D2
  unfold firstV at f1 f2
  have u1 := until_dead _ id _ D1
  have u2 := until_dead _ id _ D2
  unfold untilV at u1 u2
  simp only [List.find?_nil] at u1 u2
  have p1 := put_dead _ id till _ D1
  have p2 := put_dead _ id till _ D2
  have r1 := drop_dead _ id _ D1
  have r2 := drop_dead _ id _ D2
  have l1 := qlen_dead _ _ D1
  have l2 := qlen_dead _ _ D2
  have q1 := due_dead _ till _ D1
  have q2 := due_dead _ till _ D2
  have s1 := all_dead _ _ D1
  have s2 := all_dead _ _ D2
  have HB := Box.mk hB
  clear D1 D2 b1 b2 b3 hB
  go_enter Try.func7, Try.ntmps7
  go_wp2
  refine wp_loop_rounds 3 ?_
  rw [rounds_succ]
  go_wp2_with (first | (go_at_call 16; ((with_reducible refine f1.mono ?_)); rintro e w' ⟨rfl, rfl⟩) | (go_at_call 18; ((with_reducible refine u1.mono ?_)); rintro e w' ⟨rfl, rfl⟩) | (go_at_call 9; ((with_reducible refine p1.mono ?_)); rintro e w' ⟨rfl, rfl⟩) | (go_at_call 23; ((with_reducible refine r1.mono ?_)); rintro e w' ⟨rfl, rfl⟩) | (go_at_call 22; ((with_reducible refine q1.mono ?_)); rintro e w' ⟨rfl, rfl⟩) | (go_at_call 10; ((with_reducible refine l1.mono ?_)); rintro e w' ⟨rfl, rfl⟩) | (go_at_call 11; ((with_reducible refine s1.mono ?_)); rintro e w' ⟨rfl, rfl⟩) | (go_at_call 16; ((with_reducible refine f2.mono ?_)); rintro e w' ⟨rfl, rfl⟩) | (go_at_call 18; ((with_reducible refine u2.mono ?_)); rintro e w' ⟨rfl, rfl⟩) | (go_at_call 9; ((with_reducible refine p2.mono ?_)); rintro e w' ⟨rfl, rfl⟩) | (go_at_call 23; ((with_reducible refine r2.mono ?_)); rintro e w' ⟨rfl, rfl⟩) | (go_at_call 22; ((with_reducible refine q2.mono ?_)); rintro e w' ⟨rfl, rfl⟩) | (go_at_call 10; ((with_reducible refine l2.mono ?_)); rintro e w' ⟨rfl, rfl⟩) | (go_at_call 11; ((with_reducible refine s2.mono ?_)); rintro e w' ⟨rfl, rfl⟩) | (go_at_call 12; refine (c4 _).mono ?_; rintro e w8 ⟨rfl, hbB⟩))
  rw [rounds_succ]
  go_wp2_with (first | (go_at_call 16; ((with_reducible refine f1.mono ?_)); rintro e w' ⟨rfl, rfl⟩) | (go_at_call 18; ((with_reducible refine u1.mono ?_)); rintro e w' ⟨rfl, rfl⟩) | (go_at_call 9; ((with_reducible refine p1.mono ?_)); rintro e w' ⟨rfl, rfl⟩) | (go_at_call 23; ((with_reducible refine r1.mono ?_)); rintro e w' ⟨rfl, rfl⟩) | (go_at_call 22; ((with_reducible refine q1.mono ?_)); rintro e w' ⟨rfl, rfl⟩) | (go_at_call 10; ((with_reducible refine l1.mono ?_)); rintro e w' ⟨rfl, rfl⟩) | (go_at_call 11; ((with_reducible refine s1.mono ?_)); rintro e w' ⟨rfl, rfl⟩) | (go_at_call 16; ((with_reducible refine f2.mono ?_)); rintro e w' ⟨rfl, rfl⟩) | (go_at_call 18; ((with_reducible refine u2.mono ?_)); rintro e w' ⟨rfl, rfl⟩) | (go_at_call 9; ((with_reducible refine p2.mono ?_)); rintro e w' ⟨rfl, rfl⟩) | (go_at_call 23; ((with_reducible refine r2.mono ?_)); rintro e w' ⟨rfl, rfl⟩) | (go_at_call 22; ((with_reducible refine q2.mono ?_)); rintro e w' ⟨rfl, rfl⟩) | (go_at_call 10; ((with_reducible refine l2.mono ?_)); rintro e w' ⟨rfl, rfl⟩) | (go_at_call 11; ((with_reducible refine s2.mono ?_)); rintro e w' ⟨rfl, rfl⟩) | (go_at_call 12; refine (c4 _).mono ?_; rintro e w8 ⟨rfl, hbB⟩))
  rw [rounds_succ]
  go_wp2_with (first | (go_at_call 16; ((with_reducible refine f1.mono ?_)); rintro e w' ⟨rfl, rfl⟩) | (go_at_call 18; ((with_reducible refine u1.mono ?_)); rintro e w' ⟨rfl, rfl⟩) | (go_at_call 9; ((with_reducible refine p1.mono ?_)); rintro e w' ⟨rfl, rfl⟩) | (go_at_call 23; ((with_reducible refine r1.mono ?_)); rintro e w' ⟨rfl, rfl⟩) | (go_at_call 22; ((with_reducible refine q1.mono ?_)); rintro e w' ⟨rfl, rfl⟩) | (go_at_call 10; ((with_reducible refine l1.mono ?_)); rintro e w' ⟨rfl, rfl⟩) | (go_at_call 11; ((with_reducible refine s1.mono ?_)); rintro e w' ⟨rfl, rfl⟩) | (go_at_call 16; ((with_reducible refine f2.mono ?_)); rintro e w' ⟨rfl, rfl⟩) | (go_at_call 18; ((with_reducible refine u2.mono ?_)); rintro e w' ⟨rfl, rfl⟩) | (go_at_call 9; ((with_reducible refine p2.mono ?_)); rintro e w' ⟨rfl, rfl⟩) | (go_at_call 23; ((with_reducible refine r2.mono ?_)); rintro e w' ⟨rfl, rfl⟩) | (go_at_call 22; ((with_reducible refine q2.mono ?_)); rintro e w' ⟨rfl, rfl⟩) | (go_at_call 10; ((with_reducible refine l2.mono ?_)); rintro e w' ⟨rfl, rfl⟩) | (go_at_call 11; ((with_reducible refine s2.mono ?_)); rintro e w' ⟨rfl, rfl⟩) | (go_at_call 12; refine (c4 _).mono ?_; rintro e w8 ⟨rfl, hbB⟩))
  go_ret
  exact ⟨rfl, HB.out.trans (hbB.mono HB.out.size)⟩
end Go.Proofs.Ytnnebkmjeigflaa.L
