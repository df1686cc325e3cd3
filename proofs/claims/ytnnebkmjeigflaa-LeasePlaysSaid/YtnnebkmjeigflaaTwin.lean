/- The queue and the reference's queue beside one another. -/
import Derived.Test.YtnnebkmjeigflaaRefWould
namespace Go.Proofs.Ytnnebkmjeigflaa.L
open Go.RowKit Go.Maps

/-- Both have the list L. -/
def TwinAt (w : World) (B pb rb : Nat) (L : List (Int × Int)) (S : Nat → Prop) (ao : Option Addr) (c : Nat) : Prop :=
  Held w B pb L S ∧ RefQ w B rb ao c L ∧ (∀ k, S k → ¬ RefQ.Foot rb ao k) ∧ L.Pairwise ltKV
def Twin (w : World) (B pb rb : Nat) (L : List (Int × Int)) : Prop := ∃ S ao c, TwinAt w B pb rb L S ao c
theorem Twin.past {w w' : World} {B pb rb : Nat} {L : List (Int × Int)} (h : Twin w B pb rb L) (hb : Below w.heap.size w w') : Twin w' B pb rb L := by
  obtain ⟨S, ao, c, h1, h2, h3, h4⟩ := h
  exact ⟨S, ao, c, h1.past hb, h2.past hb, h3, h4⟩
theorem first_at (B qb : Nat) (L : List (Int × Int)) (S : Nat → Prop) (v : Value) (hv : refFirst L = v) (w : World) (h : Held w B qb L S) (hL : L.Pairwise ltKV) :
    Calls Try.prog 16 #[.pointer (some ⟨qb, 0, none⟩)] w fun e w' => e = .returned v ∧ ∃ n, w' = w.drewN n := by
  subst hv
  cases L with
  | cons p L => exact first_held B qb p L S w h hL
  | nil =>
    obtain ⟨m, v, es, hq, hp, rfl⟩ := h
    have c := first_calls B qb m v es w hq
    cases es with
    | nil => exact c
    | cons e es => exact absurd hp.length_eq (by simp)
theorem first_ok (L : List (Int × Int)) : ∃ x y z, refFirst L = .tuple #[.int .i64 x, .int .i64 y, .bool z] := by
  cases L with
  | nil => exact ⟨0, 0, false, rfl⟩
  | cons p L => exact ⟨p.1, p.2, true, rfl⟩
/-- Until of both. -/
theorem until_ok (L : List (Int × Int)) (hA : ApartKV L) (id : Int) (hw : Wf id) : ∃ u b, (∀ w B qb S, Held w B qb L S → Calls Try.prog 18 #[.pointer (some ⟨qb, 0, none⟩), .int .i64 id] w fun e w' => e = .returned (.tuple #[.int .i64 u, .bool b]) ∧ w = w') ∧
    (∀ w B rb ao c, RefQ w B rb ao c L → Calls Try.prog 19 #[.pointer (some ⟨rb, 0, none⟩), .int .i64 id] w fun e w' => e = .returned (.tuple #[.int .i64 u, .bool b]) ∧ w = w') := by
  by_cases hk : ∃ p ∈ L, p.1 = id
  · obtain ⟨p, hp, rfl⟩ := hk
    refine ⟨p.2, true, fun w B qb S h => until_held B qb L S p w h hp, fun w B rb ao c h => (runtil_calls B rb ao c L p.1 w h).mono ?_⟩
    rintro e w' ⟨rfl, ⟨q, hq, e1, rfl⟩ | ⟨hn, _⟩⟩
    · rw [apart_eq hA q hq p hp e1]; exact ⟨rfl, rfl⟩
    · exact absurd rfl (hn p hp)
  · have hn : ∀ p ∈ L, p.1 ≠ id := fun p hp e => hk ⟨p, hp, e⟩
    refine ⟨0, false, fun w B qb S h => ?_, fun w B rb ao c h => (runtil_calls B rb ao c L id w h).mono ?_⟩
    · obtain ⟨m, v, es, hq, hpm, rfl⟩ := h
      have := until_calls B qb m v es id w hq hw
      rwa [untilV_out hpm hn] at this
    · rintro e w' ⟨rfl, ⟨q, hq, e1, rfl⟩ | ⟨_, rfl⟩⟩
      · exact absurd e1 (hn q hq)
      · exact ⟨rfl, rfl⟩
/-- All of both, then Ints; the reference's block stays. -/
def AllR (w : World) (rb l : Nat) (u : Value) (ao : Option Addr) (c : Nat) (w1 : World) : Prop :=
  Calls Try.prog 21 #[.pointer (some ⟨rb, 0, none⟩)] w1 fun e w2 => ∃ ao2 c2, e = .returned (.slice ao2 l c2) ∧ Below w.heap.size w w2 ∧ w2.cell? ⟨rb, 0, none⟩ = some u ∧
    Calls Try.prog 20 #[.slice ao l c, .slice ao2 l c2] w2 fun e w3 => e = .returned (.bool true) ∧ ∃ n, w3 = w2.drewN n
theorem all_twin {w : World} {B pb rb c : Nat} {L : List (Int × Int)} {S : Nat → Prop} {ao : Option Addr} (l : Nat) (hl : L.length = l) (h : TwinAt w B pb rb L S ao c) :
    Calls Try.prog 11 #[.pointer (some ⟨pb, 0, none⟩)] w fun e w1 => ∃ ao1 c1, e = .returned (.slice ao1 l c1) ∧ w1.cell? ⟨rb, 0, none⟩ = some (.slice ao l c) ∧ AllR w rb l (.slice ao l c) ao1 c1 w1 := by
  obtain ⟨h1, h2, _, hL⟩ := h
  have hfew : L.length ≤ 1000000 := by have := h2.few; omega
  subst hl
  refine (all_live B pb L L w h1.live ⟨.refl _, hL⟩).mono ?_
  rintro e w1 ⟨r, rfl, ho, hb⟩
  obtain ⟨ao1, c1, rfl, hrow⟩ := row_open ho
  refine ⟨ao1, c1, rfl, (h2.past hb).c0, ?_⟩
  unfold AllR
  refine (rall_calls B rb ao c L w1 (h2.past hb)).mono ?_
  rintro e w2 ⟨r2, rfl, ho2, hb2⟩
  obtain ⟨ao2, c2, rfl, hrow2⟩ := row_open ho2
  exact ⟨ao2, c2, rfl, hb.trans (hb2.mono hb.size), ((h2.past hb).past hb2).c0, ints_same (hrow w2 fun k _ hk => hb2.block k hk) (hrow2 w2 fun _ _ _ => rfl) hfew⟩
/-- Behind does: what would finds. -/
structure Half (w w3 : World) (B pb rb : Nat) (L : List (Int × Int)) (a : Act3) (S : Nat → Prop) (ao : Option Addr) (c : Nat) (S1 : Nat → Prop) (ao1 : Option Addr) : Prop where
  held : Held w3 B pb (doesL L a) S1
  ref : RefQ w3 B rb ao c L
  frame : Frame S w w3
  grow : ∀ k, S1 k → S k ∨ w.heap.size ≤ k
  row : Row w3 w.heap.size ao1 (doesR L a)
theorem TwinAt.half {w w3 : World} {B pb rb c : Nat} {L : List (Int × Int)} {a : Act3} {S : Nat → Prop} {ao : Option Addr} (h : TwinAt w B pb rb L S ao c) {r : Value} (ho : w3.ownsRow w.heap.size 3 1 r (doesR L a).length ((doesR L a).map intV)) (hW : Went w w3 B pb (doesL L a) S) :
    ∃ S1 ao1 c1, r = .slice ao1 (doesR L a).length c1 ∧ Half w w3 B pb rb L a S ao c S1 ao1 := by
  obtain ⟨ao1, c1, rfl, hrow⟩ := row_open ho
  obtain ⟨S1, g1, g2, g3⟩ := hW
  exact ⟨S1, ao1, c1, rfl, g1, h.2.1.of g2.size (fun k hk => g2.block k (h.2.1.foot hk).2 (fun hs => h.2.2.1 k hs hk)), g2, g3, hrow⟩
theorem Half.whole {w w3 w4 : World} {B pb rb c : Nat} {L : List (Int × Int)} {a : Act3} {S S1 : Nat → Prop} {ao ao1 : Option Addr} (h : Half w w3 B pb rb L a S ao c S1 ao1) (h0 : TwinAt w B pb rb L S ao c) {r : Value} (ho : w4.ownsRow w3.heap.size 3 1 r (doesR L a).length ((doesR L a).map intV)) (hW : RWent w3 w4 B rb ao (doesL L a)) :
    ∃ ao2 c2 ao3 c3, r = .slice ao2 (doesR L a).length c2 ∧ TwinAt w4 B pb rb (doesL L a) S1 ao3 c3 ∧ Frame (fun k => k = rb) w3 w4 ∧
      (∀ n c4, Calls Try.prog 20 #[.slice ao1 (doesR L a).length c4, .slice ao2 (doesR L a).length c2] (w4.drewN n) fun e w5 => e = .returned (.bool true) ∧ ∃ n2, w5 = (w4.drewN n).drewN n2) := by
  obtain ⟨ao2, c2, rfl, hrow⟩ := row_open ho
  obtain ⟨ao3, c3, g1, g2, g3⟩ := hW
  have hrb : rb < w.heap.size := (h0.2.1.foot (.inl rfl)).2
  have hfew : (doesR L a).length ≤ 1000000 := by
    have h1 := h0.2.1.few
    unfold doesR dueIn
    split
    · have := (List.takeWhile_sublist (fun p : Int × Int => decide (p.2 ≤ a.till)) (l := L)).length_le
      omega
    · simp
  refine ⟨ao2, c2, ao3, c3, rfl, ⟨h.held.of fun k hk => g2.block k (h.held.lt hk).2 (fun e => ?_), g1, fun k hs hf => ?_, doesL_sorted h0.2.2.2 a⟩, g2, fun n c4 => ints_same (fun i hi => ?_) (fun i hi => ?_) hfew⟩
  · rcases h.grow k hk with h1 | h1
    · exact h0.2.2.1 k h1 (.inl e)
    · omega
  · have hlt := (h.held.lt hs).2
    rcases g3 k hf with h1 | h1
    · rcases h.grow k hs with h2 | h2
      · exact h0.2.2.1 k h2 h1
      · have := (h0.2.1.foot h1).2; omega
    · omega
  · exact h.row.at (S := fun k => k = rb) (w' := w4.drewN n) ⟨g2.os, g2.tape, g2.output, g2.size, g2.block⟩ (fun k hk => by omega) i hi
  · exact hrow (w4.drewN n) (fun _ _ _ => rfl) i hi
end Go.Proofs.Ytnnebkmjeigflaa.L
