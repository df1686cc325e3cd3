/- LeasePlays: the walk. -/
import Derived.Test.YtnnebkmjeigflaaTwin
import Derived.Deep.RegionHeld3
namespace Go.Proofs.Ytnnebkmjeigflaa.L
open Go.RowKit Go.Maps
attribute [local go_sem] least2_int least_two

/-- Both have some list. -/
def TwinS (w : World) (B pb rb : Nat) : Prop := ∃ L, Twin w B pb rb L
theorem Held.apart {w : World} {B qb : Nat} {l : List (Int × Int)} {S : Nat → Prop} (h : Held w B qb l S) : ApartKV l := h.live.apart
theorem twin_new {w1 w2 : World} {B pb m : Nat} {v : Value} (hq : Que w1 B pb m v []) (hB : B ≤ w1.heap.size) (h : Below (w1.alloc (.cells #[.slice none 0 0] 35)).heap.size (w1.alloc (.cells #[.slice none 0 0] 35)) w2) : Twin w2 B pb w1.heap.size [] := by
  have ha : Below w1.heap.size w1 (w1.alloc (.cells #[.slice none 0 0] 35)) := (Below.refl _ w1).alloc (Nat.le_refl _) _
  have hr : w2.heap[w1.heap.size]? = some (.cells #[.slice none 0 0] 35 (0, 0)) := (h.block _ (by simp)).trans (new_block w1 _)
  have hR : RefQ w2 B w1.heap.size none 0 [] := ⟨hr, Nat.le_refl _, by decide, fun _ => ⟨rfl, rfl⟩, fun a e => (by cases e), fun a e => (by cases e), hB⟩
  refine ⟨Que.Foot pb m v [], none, 0, ⟨m, v, [], (hq.past ha).past h, .refl _, rfl⟩, hR, fun k hs hf => ?_, List.Pairwise.nil⟩
  have := (hq.foot_base hs).2
  rcases hf with rfl | ⟨a, e, _⟩
  · omega
  · cases e
theorem doesL_apart {L : List (Int × Int)} (h : ApartKV L) (a : Act3) : ApartKV (doesL L a) := by
  unfold doesL
  split
  · exact h.filter _
  · split
    · exact h.sublist (List.dropWhile_sublist _)
    · unfold putS
      split
      · refine ((insKV_perm (a.id, a.till) (without L a.id)).pairwise_iff (R := fun x y : Int × Int => x.1 ≠ y.1) (fun h => h.symm)).2 (List.pairwise_cons.2 ⟨fun q hq => (without_not L a.id q hq).symm, h.filter _⟩)
      · exact h
theorem rfirst_at (B rb : Nat) (ao : Option Addr) (c : Nat) (L : List (Int × Int)) (v : Value) (hv : refFirst L = v) (w : World) (h : RefQ w B rb ao c L) :
    Calls Try.prog 17 #[.pointer (some ⟨rb, 0, none⟩)] w fun e w' => e = .returned v ∧ ∃ n, w' = w.drewN n := by
  subst hv; exact rfirst_calls B rb ao c L w h
theorem qlen_held (B qb l : Nat) (L : List (Int × Int)) (S : Nat → Prop) (hl : L.length = l) (w : World) (h : Held w B qb L S) : Calls Try.prog 10 #[.pointer (some ⟨qb, 0, none⟩)] w fun e w' => e = .returned (.int .i64 l) ∧ w = w' := by
  subst hl; exact qlen_live B qb L w h.live
theorem TwinAt.past {w w' : World} {B pb rb c : Nat} {L : List (Int × Int)} {S : Nat → Prop} {ao : Option Addr} (h : TwinAt w B pb rb L S ao c) (hb : Below w.heap.size w w') : TwinAt w' B pb rb L S ao c := ⟨h.1.past hb, h.2.1.past hb, h.2.2⟩
set_option maxHeartbeats 4000000 in
set_option maxRecDepth 100000 in
theorem plays_law (v : Value) (xs : List Act3) (w : World) (hx : ActRow w v xs) : Calls Try.prog 4 #[v] w fun e w' => e = .returned (.bool true) ∧ Below w.heap.size w w' := by
  have c0 := new_calls w
  have cA := alive_calls
  have c1 := fun W => short_calls v xs w W hx
  go_enter Try.func4, Try.ntmps4
  go_wp2_with (first | (go_at_call 8; refine c0.mono ?_; rintro e w1 ⟨pb, mp, rfl, hq1, hb1⟩) | (go_at_call 12; refine (cA _).mono ?_; rintro e w2 ⟨rfl, hb2⟩) | (go_at_call 13; refine (c1 _).mono ?_; rintro e w3 ⟨rfl, ao, n, c, ys, rfl, hn, hl3, hlc, hok, hc⟩; have HN := Box.mk hn; have HOK := Box.mk hok; have HC := Box.mk hc; clear hn hok hc))
  have HT : Box (TwinS w2 w.heap.size pb w1.heap.size) := ⟨_, twin_new hq1 hb1.size hb2⟩
  have HB : Box (Below w.heap.size w w2) := ⟨(hb1.alloc hb1.size _).trans (hb2.mono (by rw [World.size_alloc]; have := hb1.size; omega))⟩
  clear hq1 hb1 hb2 c0 cA c1 hx
  generalize w1.heap.size = rb at *
  go_loopg [2, 6, 31] n (fun k v2 v6 v31 wr => v2 = .bool false ∧ ∃ i : Nat, v31 = .int .i64 i ∧ Box (i + k = n) ∧ Box (TwinS wr w.heap.size pb rb) ∧ Box (Below w.heap.size w wr))
  case atStart => exact ⟨rfl, 0, rfl, ⟨by omega⟩, HT, HB⟩
  case round =>
    clear HT HB
    obtain ⟨rfl, i, rfl, HK, HT, HBr⟩ := hrel
    cases gk with
    | zero =>
      have hlt : ¬ (i : Int) < n := by have := HK.out; omega
      go_wp2
      go_ret
      exact ⟨rfl, HBr.out⟩
    | succ k1 =>
      have hlt : (i : Int) < n := by have := HK.out; omega
      have h0 : (0 : Int) ≤ i := by omega
      have hi : i < ys.length := by have := HK.out; have := HN.out; omega
      obtain ⟨a, rfl, x0, x1, x2⟩ := act_at (acts_past HBr.out HC.out) i hi
      have hok := HOK.out ys[i] (List.getElem_mem hi)
      generalize ys[i] = z at *
      obtain ⟨L, S, aq, cq, hT⟩ := HT.out
      have hbx : ∀ o, Below wr.heap.size wr (wr.alloc o) := fun o => (Below.refl _ wr).alloc (Nat.le_refl _) o
      have HT0 : Box (∀ o, TwinAt (wr.alloc o) w.heap.size pb rb L S aq cq) := ⟨fun o => ⟨hT.1.past (hbx o), hT.2.1.past (hbx o), hT.2.2⟩⟩
      have HS : Box (∀ k, S k → w.heap.size ≤ k ∧ k < wr.heap.size) := ⟨fun k hk => hT.1.lt hk⟩
      have HRB : Box (w.heap.size ≤ rb ∧ rb < wr.heap.size) := ⟨hT.2.1.foot (.inl rfl)⟩
      have hBw : ∀ o, w.heap.size ≤ (wr.alloc o).heap.size := fun o => Nat.le_trans HBr.out.size (hbx o).size
      have c2 := fun o => does_held w.heap.size pb L S z (wr.alloc o) (HT0.out o).1 (hBw o) hT.2.2.2 hok
      have HA : Box (ApartKV L) := ⟨hT.1.apart⟩
      have HZ := Box.mk hok
      have hL' := doesL_sorted hT.2.2.2 z
      obtain ⟨fx, fy, fz, hF⟩ := first_ok (doesL L z)
      have HF := Box.mk hF
      have hAA : ApartKV (doesL L z) := doesL_apart HA.out z
      obtain ⟨un, ub, hU⟩ := until_ok (doesL L z) hAA z.id hok.2.2.1
      have HU1 := Box.mk hU.1
      have HU2 := Box.mk hU.2
      obtain ⟨l, hl⟩ : ∃ l, (doesL L z).length = l := ⟨_, rfl⟩
      have HLN := Box.mk hl
      have n1 : (fx != fx) = false := by simp
      have n2 : (fy != fy) = false := by simp
      have n3 : (fz != fz) = false := by simp
      have n4 : (un != un) = false := by simp
      have n5 : (ub != ub) = false := by simp
      have n6 : ((l : Int) != (l : Int)) = false := by simp
      have n7 : (doesE L z != doesE L z) = false := by simp
      clear HC HT hT hF hAA hU hl hL' hok
      go_wp2_with (first | (go_at_call 14; refine (c2 _).mono ?_; rintro e w3 ⟨r, rfl, ho3, hW3⟩; obtain ⟨S1, ao1, d1, rfl, hH⟩ := (HT0.out _).half ho3 hW3; have HH := Box.mk hH; have HX3 : Box (w3.heap[wr.heap.size]? = some (.cells #[.int .u8 z.kind, .int .i64 z.id, .int .i64 z.till] 38 (0, 0))) := Box.mk ((hH.frame.block _ (by simp) (fun hs => Nat.lt_irrefl _ (HS.out _ hs).2)).trans (new_block wr _)); have y0 : w3.cell? ⟨wr.heap.size, 0, none⟩ = some (.int .u8 z.kind) := (cell_of HX3.out 0).trans rfl; have y1 : w3.cell? ⟨wr.heap.size, 1, none⟩ = some (.int .i64 z.id) := (cell_of HX3.out 1).trans rfl; have y2 : w3.cell? ⟨wr.heap.size, 2, none⟩ = some (.int .i64 z.till) := (cell_of HX3.out 2).trans rfl; clear ho3 hW3 hH c2) | (go_at_call 15; refine (would_calls w.heap.size rb _ _ L HA.out z w3 HH.out.ref (Nat.le_trans (hBw _) HH.out.frame.size) HZ.out).mono ?_; rintro e w4 ⟨r2, rfl, ho4, hW4⟩; obtain ⟨ao2, d2, ao3, d3, rfl, hT4, hF4, hI⟩ := HH.out.whole (HT0.out _) ho4 hW4; have hc4 := hT4.2.1.c0; rw [HLN.out] at hc4; have HT4 := Box.mk hT4; have HI := Box.mk hI; have HX4 : Box (w4.heap[wr.heap.size]? = some (.cells #[.int .u8 z.kind, .int .i64 z.id, .int .i64 z.till] 38 (0, 0))) := Box.mk ((hF4.block _ (lt_of_block HX3.out) (fun e => by have := HRB.out; omega)).trans HX3.out); have HBW : Box (Below w.heap.size w w4) := Box.mk (((HBr.out.alloc HBr.out.size _).trans (HH.out.frame.below (hBw _) (fun k hk => (HS.out k hk).1))).trans (hF4.below (Nat.le_trans (hBw _) HH.out.frame.size) (fun k hk => by rw [hk]; exact HRB.out.1))); have z1 : w4.cell? ⟨wr.heap.size, 1, none⟩ = some (.int .i64 z.id) := (cell_of HX4.out 1).trans rfl; clear ho4 hW4 hT4 hF4 hI y0 y1 y2) | (go_at_call 16; refine (first_at w.heap.size pb _ _ _ HF.out _ HT4.out.1 HT4.out.2.2.2).mono ?_; rintro e w5 ⟨rfl, nA, rfl⟩) | (go_at_call 17; refine (rfirst_at w.heap.size rb _ _ _ _ HF.out _ (HT4.out.2.1.past (below_drewN (Below.refl _ _) _))).mono ?_; rintro e w5 ⟨rfl, nB, rfl⟩) | (go_at_call 18; refine (HU1.out _ _ _ _ (HT4.out.1.past (below_drewN (Below.refl _ _) _))).mono ?_; rintro e w6 ⟨rfl, rfl⟩) | (go_at_call 19; refine (HU2.out _ _ _ _ _ (HT4.out.2.1.past (below_drewN (Below.refl _ _) _))).mono ?_; rintro e w6 ⟨rfl, rfl⟩))
      have HAR : Box (∀ n, Calls Try.prog 11 #[.pointer (some ⟨pb, 0, none⟩)] (w4.drewN n) fun e w1 => ∃ ao c, e = .returned (.slice ao l c) ∧ w1.cell? ⟨rb, 0, none⟩ = some (.slice ao3 l d3) ∧ AllR (w4.drewN n) rb l (.slice ao3 l d3) ao c w1) := ⟨fun n => all_twin l HLN.out (HT4.out.past (below_drewN (Below.refl _ _) n))⟩
      unfold AllR at HAR
      have HQL : Box (∀ n, Calls Try.prog 10 #[.pointer (some ⟨pb, 0, none⟩)] (w4.drewN n) fun e w' => e = .returned (.int .i64 l) ∧ (w4.drewN n) = w') := ⟨fun n => qlen_held w.heap.size pb l _ _ HLN.out _ (HT4.out.1.past (below_drewN (Below.refl _ _) n))⟩
      go_region_held3 (fun w' => w'.cell? ⟨rb, 0, none⟩ = some (.slice ao3 l d3)) (go_keep) (first | (go_at_call 20; refine cI2.mono ?_; rintro e w11 ⟨rfl, nD, rfl⟩) | (go_at_call 20; refine (HI.out _ _).mono ?_; rintro e w7 ⟨rfl, nC, rfl⟩) | (go_at_call 10; refine (HQL.out _).mono ?_; rintro e w8 ⟨rfl, rfl⟩) | (go_at_call 11; refine (HAR.out _).mono ?_; rintro e w9 ⟨ao5, d5, rfl, hc9, cR⟩) | (go_at_call 21; refine cR.mono ?_; rintro e w10 ⟨ao6, d6, rfl, hb10, hc10, cI2⟩))
      all_goals
        have HE : Box (Below w4.heap.size w4 (w10.drewN nD)) := ⟨below_drewN ((below_drewN (Below.refl _ w4) _).trans hb10) _⟩
        have HT5 : Box (TwinS (w10.drewN nD) w.heap.size pb rb) := ⟨_, _, _, _, HT4.out.past HE.out⟩
        have HB5 : Box (Below w.heap.size w (w10.drewN nD)) := ⟨HBW.out.trans (HE.out.mono HBW.out.size)⟩
        clear hb10 HE
        go_wp2
        go_roundg k1
        case measure => omega
        case rel => exact ⟨rfl, i + 1, by go_num, ⟨by have := HK.out; omega⟩, HT5, HB5⟩
end Go.Proofs.Ytnnebkmjeigflaa.L
