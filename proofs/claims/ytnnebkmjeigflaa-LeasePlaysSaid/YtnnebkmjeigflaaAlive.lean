/- The law's alive. -/
import Derived.Test.YtnnebkmjeigflaaLive
namespace Go.Proofs.Ytnnebkmjeigflaa.L
open Go.RowKit

theorem wf_small (a : Int) (h : 0 ≤ a ∧ a ≤ 1000000) : Wf a := (wf_iff a).2 (by omega)
theorem alive_rises : Rises [(3, 5), (1, 9), (2, 9)] [(3, 5), (1, 9), (2, 9)] := by
  refine ⟨.refl _, ?_⟩
  simp [ltKV]
set_option maxHeartbeats 4000000 in
set_option maxRecDepth 100000 in
theorem alive_calls (w : World) : Calls Try.prog 12 #[] w fun e w' => e = .returned (.bool true) ∧ Below w.heap.size w w' := by
  have c0 := new_live w
  go_enter Try.func12, Try.ntmps12
  go_wp2_with (first | (go_at_call 8; refine c0.mono ?_; rintro e w1 ⟨qb, rfl, hq1, hb1⟩))
  have c1 := put_live w.heap.size qb [] 2 9 w1 hq1 hb1.size (wf_small _ (by omega)) (wf_small _ (by omega))
  have r1 : putRes [] 2 = 0 := by decide
  have s1 : stepPut [] 2 9 = [(2, 9)] := by decide
  rw [r1, s1] at c1
  have HB1 := Box.mk hb1
  clear hq1 hb1 r1 s1 c0
  refine c1.mono ?_
  rintro e w2 ⟨rfl, hq2, hb2⟩
  have c2 := put_live w.heap.size qb [(2, 9)] 1 9 w2 hq2 (Nat.le_trans HB1.out.size hb2.size) (wf_small _ (by omega)) (wf_small _ (by omega))
  have r1 : putRes [(2, 9)] 1 = 0 := by decide
  have s1 : stepPut [(2, 9)] 1 9 = [(1, 9), (2, 9)] := by decide
  rw [r1, s1] at c2
  have HB2 := Box.mk (HB1.out.trans hb2)
  clear hq2 hb2 r1 s1 c1
  go_wp2_with (first | (go_at_call 9; refine c2.mono ?_))
  rintro e w3 ⟨rfl, hq3, hb3⟩
  have c3 := put_live w.heap.size qb [(1, 9), (2, 9)] 3 5 w3 hq3 (Nat.le_trans HB2.out.size hb3.size) (wf_small _ (by omega)) (wf_small _ (by omega))
  have r1 : putRes [(1, 9), (2, 9)] 3 = 0 := by decide
  have s1 : stepPut [(1, 9), (2, 9)] 3 5 = [(3, 5), (1, 9), (2, 9)] := by decide
  rw [r1, s1] at c3
  have HB3 := Box.mk (HB2.out.trans hb3)
  clear hq3 hb3 r1 s1 c2
  go_wp2_with (first | (go_at_call 9; refine c3.mono ?_))
  rintro e w4 ⟨rfl, hq4, hb4⟩
  have c4 := qlen_live w.heap.size qb [(3, 5), (1, 9), (2, 9)] w4 hq4
  have c5 := due_live w.heap.size qb [(3, 5), (1, 9), (2, 9)] [(3, 5), (1, 9), (2, 9)] 9 w4 hq4 (Nat.le_trans HB3.out.size hb4.size) alive_rises
  have t1 : ([(3, 5), (1, 9), (2, 9)] : List (Int × Int)).takeWhile (fun p => decide (p.2 ≤ 9)) = [(3, 5), (1, 9), (2, 9)] := by decide
  have t2 : ([(3, 5), (1, 9), (2, 9)] : List (Int × Int)).dropWhile (fun p => decide (p.2 ≤ 9)) = [] := by decide
  rw [t1, t2] at c5
  have HB4 := Box.mk (HB3.out.trans hb4)
  clear hq4 hb4 t1 t2 c3
  go_wp2_with (first | (go_at_call 10; refine c4.mono ?_; rintro e w5 ⟨rfl, rfl⟩) | (go_at_call 22; refine c5.mono ?_))
  rintro e w5 ⟨r, rfl, ho, hq5, hb5⟩
  have hb6 : Below w5.heap.size w5 (w5.alloc (.cells #[.int .i64 3, .int .i64 1, .int .i64 2] 3)) := (Below.refl _ _).alloc (Nat.le_refl _) _
  have i1 : IntRow (w5.alloc (.cells #[.int .i64 3, .int .i64 1, .int .i64 2] 3)) r [3, 1, 2] := (IntRow.own ho).past hb6
  have i2 : IntRow (w5.alloc (.cells #[.int .i64 3, .int .i64 1, .int .i64 2] 3)) (.slice (some ⟨w5.heap.size, 0, none⟩) 3 3) [3, 1, 2] := by
    refine ⟨_, _, rfl, fun i hi => ⟨_, rfl, ?_⟩⟩
    rw [add_block, cell_of (new_block w5 _) i]
    match i, hi with
    | 0, _ => rfl
    | 1, _ => rfl
    | 2, _ => rfl
  have c6 := ints_calls _ _ [3, 1, 2] [3, 1, 2] (w5.alloc (.cells #[.int .i64 3, .int .i64 1, .int .i64 2] 3)) i1 i2 (by decide)
  have r1 : sameB [3, 1, 2] [3, 1, 2] = true := by decide
  rw [r1] at c6
  have hq6 : Live (w5.alloc (.cells #[.int .i64 3, .int .i64 1, .int .i64 2] 3)) w.heap.size qb [] := hq5.past hb6
  have HQ6 := Box.mk hq6
  have HB6 := Box.mk ((HB4.out.trans hb5).trans (hb6.mono (by have := (HB4.out.trans hb5).size; omega)))
  obtain ⟨W6, hW6⟩ : ∃ W6, w5.alloc (.cells #[.int .i64 3, .int .i64 1, .int .i64 2] 3) = W6 := ⟨_, rfl⟩
  rw [hW6] at c6 HQ6 HB6
  clear ho hq5 hb5 hb6 i1 i2 r1 hq6 c4 c5
  go_wp2_with (first | (go_at_call 20; refine c6.mono ?_))
  rintro e w7 ⟨rfl, n7, rfl⟩
  have c7 := qlen_live w.heap.size qb [] (W6.drewN n7) (HQ6.out.past ⟨rfl, rfl, rfl, Nat.le_refl _, fun _ _ => rfl⟩)
  clear c6 hW6
  go_wp2_with (first | (go_at_call 10; refine c7.mono ?_))
  rintro e w8 ⟨rfl, rfl⟩
  go_wp2
  go_ret
  exact ⟨rfl, HB6.out.trans ⟨rfl, rfl, rfl, Nat.le_refl _, fun _ _ => rfl⟩⟩
end Go.Proofs.Ytnnebkmjeigflaa.L
