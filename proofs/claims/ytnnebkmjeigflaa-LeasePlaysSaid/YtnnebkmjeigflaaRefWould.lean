/- The reference's Put whole; the law's would. -/
import Derived.Test.YtnnebkmjeigflaaRefPutOld
namespace Go.Proofs.Ytnnebkmjeigflaa.L
open Go.RowKit Go.Maps

set_option maxHeartbeats 1000000 in
set_option maxRecDepth 100000 in
theorem rput_low (B rb : Nat) (ao : Option Addr) (c : Nat) (L : List (Int × Int)) (id till : Int) (h1 : id < 1) (w : World) (h : RefQ w B rb ao c L) :
    Calls Try.prog 32 #[.pointer (some ⟨rb, 0, none⟩), .int .i64 id, .int .i64 till] w (RPuts w B rb ao L id till) := by
  have hp : putRes L id = 1 := by unfold putRes; rw [if_pos h1]
  have HE : Box (RPuts w B rb ao L id till (.returned (.int .i64 1)) w) := ⟨by rw [hp], by unfold putS; rw [hp, if_neg (by decide)]; exact RWent.same h⟩
  clear h hp
  go_enter Try.func32, Try.ntmps32
  go_wp2
  go_ret
  exact HE.out
set_option maxHeartbeats 1000000 in
set_option maxRecDepth 100000 in
theorem rput_full (B rb : Nat) (ao : Option Addr) (c : Nat) (L : List (Int × Int)) (id till : Int) (hn : ∀ p ∈ L, p.1 ≠ id) (h1 : 1 ≤ id) (hl : 1024 ≤ L.length) (w : World) (h : RefQ w B rb ao c L) :
    Calls Try.prog 32 #[.pointer (some ⟨rb, 0, none⟩), .int .i64 id, .int .i64 till] w (RPuts w B rb ao L id till) := by
  have hc0 := h.c0
  have c1 := fun W hb => find_out B rb ao c L id hn W (h.past hb)
  have c2 := fun W => without_neg (.slice ao L.length c) W
  have h1' : ¬ id < 1 := by omega
  have hp : putRes L id = 5 := by unfold putRes; rw [if_neg h1', known_out hn, if_neg (by decide), if_neg (by omega)]
  have HE : Box (RPuts w B rb ao L id till (.returned (.int .i64 5)) (w.drewN 1)) := ⟨by rw [hp], by
    unfold putS; rw [hp, if_neg (by decide)]
    have hb : Below w.heap.size w (w.drewN 1) := below_drewN (Below.refl _ _) 1
    exact ⟨ao, c, h.past hb, Frame.of_below hb, fun _ h => .inl h⟩⟩
  obtain ⟨n, hnl⟩ : ∃ n, L.length = n := ⟨_, rfl⟩
  rw [hnl] at hc0 c2 hl
  have hm : (1024 : Int) ≤ n := by omega
  clear h hn hnl hp
  go_enter Try.func32, Try.ntmps32
  go_wp2_with fail
  go_region_with (first | (go_at_call 33; refine (c1 _ (below_drewN (Below.refl _ _) _)).mono ?_; rintro e w1 ⟨rfl, rfl⟩) | (go_at_call 42; refine (c2 _).mono ?_; rintro e w1 ⟨rfl, rfl⟩))
  all_goals
    go_wp2
    go_ret
    exact HE.out
theorem rput_calls (B rb : Nat) (ao : Option Addr) (c : Nat) (L : List (Int × Int)) (hA : ApartKV L) (id till : Int) (w : World) (h : RefQ w B rb ao c L) (hB : B ≤ w.heap.size) :
    Calls Try.prog 32 #[.pointer (some ⟨rb, 0, none⟩), .int .i64 id, .int .i64 till] w (RPuts w B rb ao L id till) := by
  by_cases h1 : id < 1
  · exact rput_low B rb ao c L id till h1 w h
  · by_cases hk : ∃ i : Nat, ∃ hi : i < L.length, L[i].1 = id
    · obtain ⟨i, hi, rfl⟩ := hk
      exact rput_old B rb ao c L hA i hi till (by omega) w h hB
    · have hn : ∀ p ∈ L, p.1 ≠ id := fun p hp e => by
        obtain ⟨i, hi, rfl⟩ := List.getElem_of_mem hp
        exact hk ⟨i, hi, e⟩
      by_cases hl : L.length < 1024
      · cases ao with
        | none => exact rput_none B rb c L id till (by omega) w h hB
        | some a =>
          obtain ⟨g, off, rfl⟩ : ∃ g off, a = ⟨g, off, none⟩ := ⟨_, _, (h.row a rfl).1⟩
          exact rput_new B rb g off c L id till hn (by omega) hl w h hB
      · exact rput_full B rb ao c L id till hn (by omega) (by omega) w h
/-- What would leaves. -/
def Would (w : World) (B rb : Nat) (ao : Option Addr) (L : List (Int × Int)) (a : Act3) (e : Ending) (w' : World) : Prop :=
  ∃ r, e = .returned (.tuple #[r, .int .i64 (doesE L a)]) ∧ w'.ownsRow w.heap.size 3 1 r (doesR L a).length ((doesR L a).map intV) ∧ RWent w w' B rb ao (doesL L a)
theorem RWent.from {w w1 w2 : World} {B rb : Nat} {ao : Option Addr} {L : List (Int × Int)} (hb : Below w.heap.size w w1) (h : RWent w1 w2 B rb ao L) : RWent w w2 B rb ao L := by
  obtain ⟨ao', c', h1, h2, h3⟩ := h
  exact ⟨ao', c', h1, (Frame.of_below (S := fun k => k = rb) hb).then h2 (fun _ _ h => h), fun k hF => (h3 k hF).imp_right (fun h1 => Nat.le_trans hb.size h1)⟩
set_option maxHeartbeats 2000000 in
set_option maxRecDepth 100000 in
theorem would_calls (B rb : Nat) (ao : Option Addr) (c : Nat) (L : List (Int × Int)) (hA : ApartKV L) (a : Act3) (w : World) (h : RefQ w B rb ao c L) (hB : B ≤ w.heap.size) (ha : a.Ok) :
    Calls Try.prog 15 #[.pointer (some ⟨rb, 0, none⟩), .agg #[.int .u8 a.kind, .int .i64 a.id, .int .i64 a.till]] w (Would w B rb ao L a) := by
  obtain ⟨W, hW⟩ : ∃ W, w.alloc (.cells #[.int .u8 a.kind, .int .i64 a.id, .int .i64 a.till] 38) = W := ⟨_, rfl⟩
  have hb : Below w.heap.size w W := by rw [← hW]; exact (Below.refl _ w).alloc (Nat.le_refl _) _
  have hbk : W.heap[w.heap.size]? = some (.cells #[.int .u8 a.kind, .int .i64 a.id, .int .i64 a.till] 38 (0, 0)) := by rw [← hW]; exact new_block w _
  have a0 : W.cell? ⟨w.heap.size, 0, none⟩ = some (.int .u8 a.kind) := (cell_of hbk 0).trans rfl
  have a1 : W.cell? ⟨w.heap.size, 1, none⟩ = some (.int .i64 a.id) := (cell_of hbk 1).trans rfl
  have a2 : W.cell? ⟨w.heap.size, 2, none⟩ = some (.int .i64 a.till) := (cell_of hbk 2).trans rfl
  clear hbk
  have hq : RefQ W B rb ao c L := h.past hb
  have hBW : B ≤ W.heap.size := Nat.le_trans hB hb.size
  have h0 := ha.1
  have h1 := ha.2.1
  have hm0 : 0 ≤ a.kind % 4 := Int.emod_nonneg _ (by decide)
  have hm1 : a.kind % 4 < 4 := Int.emod_lt_of_pos _ (by decide)
  have HB := Box.mk hb
  by_cases h2 : a.kind % 4 = 2
  · have c1 := rdrop_calls B rb ao c L hA a.id W hq hBW
    have t1 : ((a.kind % 4) == (2 : Int)) = true := by simpa using h2
    have E : ∀ w', RWent W w' B rb ao (without L a.id) → Would w B rb ao L a (.returned (.tuple #[.slice none 0 0, .int .i64 (dropRes L a.id)])) w' := fun w' hT =>
      ⟨_, by unfold doesE; rw [if_pos h2], by unfold doesR; rw [if_neg (by omega)]; exact World.ownsRow_nil _ _ _ _, by unfold doesL; rw [if_pos h2]; exact hT.from HB.out⟩
    have HE := Box.mk E
    clear h hq hBW ha h2 E hb hA
    go_enter Try.func15, Try.ntmps15
    go_wp2_with (first | (go_at_call 30; refine c1.mono ?_; rintro e w1 ⟨rfl, hT⟩; have HT := Box.mk hT; clear hT))
    go_ret2
    exact HE.out _ HT.out
  · by_cases h3 : a.kind % 4 = 3
    · have c1 := rdue_calls B rb ao c L a.till W hq
      have t1 : ((a.kind % 4) == (2 : Int)) = false := by simpa using h2
      have t2 : ((a.kind % 4) == (3 : Int)) = true := by simpa using h3
      have E : ∀ r w', w'.ownsRow W.heap.size 3 1 r (dueIn L a.till).length ((dueIn L a.till).map intV) → RWent W w' B rb ao (dueOut L a.till) → Would w B rb ao L a (.returned (.tuple #[r, .int .i64 0])) w' := fun r w' ho hT =>
        ⟨r, by unfold doesE; rw [if_neg h2, if_pos h3], by unfold doesR; rw [if_pos h3]; exact owns_base ho HB.out.size, by unfold doesL; rw [if_neg h2, if_pos h3]; exact hT.from HB.out⟩
      have HE := Box.mk E
      clear h hq hBW ha h2 h3 E hb hA
      go_enter Try.func15, Try.ntmps15
      go_wp2_with (first | (go_at_call 31; refine c1.mono ?_; rintro e w1 ⟨r, rfl, ho, hT⟩; have HT := Box.mk hT; have HO := Box.mk ho; clear hT ho))
      go_ret2
      exact HE.out _ _ HO.out HT.out
    · have c1 := rput_calls B rb ao c L hA a.id a.till W hq hBW
      have t1 : ((a.kind % 4) == (2 : Int)) = false := by simpa using h2
      have t2 : ((a.kind % 4) == (3 : Int)) = false := by simpa using h3
      have E : ∀ w', RWent W w' B rb ao (putS L a.id a.till) → Would w B rb ao L a (.returned (.tuple #[.slice none 0 0, .int .i64 (putRes L a.id)])) w' := fun w' hT =>
        ⟨_, by unfold doesE; rw [if_neg h2, if_neg h3], by unfold doesR; rw [if_neg h3]; exact World.ownsRow_nil _ _ _ _, by unfold doesL; rw [if_neg h2, if_neg h3]; exact hT.from HB.out⟩
      have HE := Box.mk E
      clear h hq hBW ha h2 h3 E hb hA
      go_enter Try.func15, Try.ntmps15
      go_wp2_with (first | (go_at_call 32; refine c1.mono ?_; rintro e w1 ⟨rfl, hT⟩; have HT := Box.mk hT; clear hT))
      go_ret2
      exact HE.out _ HT.out
end Go.Proofs.Ytnnebkmjeigflaa.L
