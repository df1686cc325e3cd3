/- LeaseFull: the walk, and what the numbers are behind each Put. -/
import Derived.Test.YtnnebkmjeigflaaAlive
namespace Go.Proofs.Ytnnebkmjeigflaa.L
open Go.RowKit

theorem least2_int (k k' : IntKind) (x y : Int) : Builtin.min2 (.int k x) (.int k' y) = pure (.int k (if y < x then y else x)) := by simp only [Builtin.min2]
theorem least_two (ats : Array TypeId) (ty : TypeId) (a b : Value) : Builtin.min_ ats ty #[a, b] = (Builtin.min2 a b >>= fun s => pure s) := by simp only [Builtin.min_, List.foldlM_cons, List.foldlM_nil]
attribute [local go_sem] least2_int least_two
/-- A list can be made to rise. -/
theorem rises_cons {L l : List (Int × Int)} (h : Rises L l) (p : Int × Int) (hp : ∀ q ∈ l, q.1 ≠ p.1) : ∃ L', Rises L' (p :: l) := by
  obtain ⟨hperm, hs⟩ := h
  have hpL : ∀ q ∈ L, q.1 ≠ p.1 := fun q hq => hp q (hperm.mem_iff.1 hq)
  suffices ∃ L' : List (Int × Int), L'.Perm (p :: L) ∧ L'.Pairwise ltKV by
    obtain ⟨L', h1, h2⟩ := this
    exact ⟨L', h1.trans (hperm.cons p), h2⟩
  clear hp hperm
  induction L with
  | nil => exact ⟨[p], .refl _, List.pairwise_singleton _ _⟩
  | cons q L ih =>
    rw [List.pairwise_cons] at hs
    by_cases hlt : ltKV p q
    · refine ⟨p :: q :: L, .refl _, List.pairwise_cons.2 ⟨fun x hx => ?_, List.pairwise_cons.2 hs⟩⟩
      rcases List.mem_cons.1 hx with rfl | hx
      · exact hlt
      · have := hs.1 x hx
        unfold ltKV at *
        omega
    · obtain ⟨L', h1, h2⟩ := ih hs.2 (fun x hx => hpL x (List.mem_cons_of_mem _ hx))
      refine ⟨q :: L', (h1.cons q).trans (List.Perm.swap p q L), List.pairwise_cons.2 ⟨fun x hx => ?_, h2⟩⟩
      rcases List.mem_cons.1 (h1.mem_iff.1 hx) with rfl | hx
      · have := hpL q (List.mem_cons_self ..)
        unfold ltKV at *
        omega
      · exact hs.1 x hx
theorem rises_exists : ∀ (l : List (Int × Int)), ApartKV l → ∃ L, Rises L l
  | [], _ => ⟨[], .refl _, List.Pairwise.nil⟩
  | p :: l, h => by
    unfold ApartKV at h
    rw [List.pairwise_cons] at h
    obtain ⟨L, hL⟩ := rises_exists l h.2
    exact rises_cons hL p (fun q hq => (h.1 q hq).symm)
theorem Live.apart {w : World} {B qb : Nat} {l : List (Int × Int)} (h : Live w B qb l) : ApartKV l := by
  obtain ⟨m, v, es, hq, hp⟩ := h
  exact (hp.pairwise_iff (R := fun a b : Int × Int => a.1 ≠ b.1) (fun h => h.symm)).1 (apart_kv hq.apart)
theorem Live.few {w : World} {B qb : Nat} {l : List (Int × Int)} (h : Live w B qb l) : l.length ≤ 1024 := by
  obtain ⟨m, v, es, hq, hp⟩ := h
  rw [← hp.length_eq, List.length_map]; exact hq.few

def fullL (till : Int) : Nat → List (Int × Int)
  | 0 => []
  | i + 1 => stepPut (fullL till i) (i + 1) till
theorem fullL_is (till : Int) (i : Nat) : (fullL till i).length = min i 1024 ∧ (∀ p ∈ fullL till i, 1 ≤ p.1 ∧ p.1 ≤ i) ∧ putRes (fullL till i) (i + 1) = (if i < 1024 then 0 else 5) ∧ (0 < i → knownKV (fullL till i) 1 = true) := by
  have key : ∀ i, (fullL till i).length = min i 1024 → (∀ p ∈ fullL till i, 1 ≤ p.1 ∧ p.1 ≤ i) → knownKV (fullL till i) (i + 1) = false ∧ putRes (fullL till i) (i + 1) = (if i < 1024 then 0 else 5) := by
    intro i h1 h2
    have hk : knownKV (fullL till i) (i + 1) = false := by
      unfold knownKV
      rw [List.any_eq_false]
      intro p hp
      have := h2 p hp
      simp
      omega
    refine ⟨hk, ?_⟩
    unfold putRes
    rw [if_neg (by omega), hk, if_neg (by decide), h1]
    by_cases hi : i < 1024
    · rw [if_pos (by omega), if_pos hi]
    · rw [if_neg (by omega), if_neg hi]
  suffices (fullL till i).length = min i 1024 ∧ (∀ p ∈ fullL till i, 1 ≤ p.1 ∧ p.1 ≤ i) ∧ (0 < i → knownKV (fullL till i) 1 = true) from
    ⟨this.1, this.2.1, (key i this.1 this.2.1).2, this.2.2⟩
  induction i with
  | zero => exact ⟨rfl, fun p hp => (by cases hp), fun h => absurd h (by omega)⟩
  | succ i ih =>
    obtain ⟨h1, h2, h3⟩ := ih
    obtain ⟨hk, hr⟩ := key i h1 h2
    have e : fullL till (i + 1) = if i < 1024 then ((i : Int) + 1, till) :: fullL till i else fullL till i := by
      show stepPut (fullL till i) (i + 1) till = _
      unfold stepPut
      rw [hr, without_none hk]
      by_cases hi : i < 1024
      · rw [if_pos hi, if_pos rfl, if_pos hi]
      · rw [if_neg hi, if_neg (by decide), if_neg hi]
    rw [e]
    by_cases hi : i < 1024
    · rw [if_pos hi]
      refine ⟨by rw [List.length_cons, h1]; omega, fun p hp => ?_, fun _ => ?_⟩
      · rcases List.mem_cons.1 hp with rfl | hp
        · exact ⟨by omega, by omega⟩
        · have := h2 p hp
          exact ⟨this.1, by omega⟩
      · by_cases h0 : i = 0
        · subst h0
          unfold knownKV
          simp
        · have := h3 (by omega)
          unfold knownKV at this ⊢
          rw [List.any_cons, this, Bool.or_true]
    · rw [if_neg hi]
      refine ⟨by rw [h1]; omega, fun p hp => ?_, fun _ => h3 (by omega)⟩
      have := h2 p hp
      exact ⟨this.1, by omega⟩
theorem without_length {l : List (Int × Int)} {id : Int} (hA : ApartKV l) (hk : knownKV l id = true) : (without l id).length + 1 = l.length := by
  unfold knownKV at hk
  rw [List.any_eq_true] at hk
  obtain ⟨p, hp, e⟩ := hk
  obtain ⟨a, b, rfl⟩ := List.append_of_mem hp
  obtain rfl : p.1 = id := by simpa using e
  rw [without_split hA]
  simp
  omega

theorem owns_slice {w : World} {B t s n : Nat} {v : Value} {xs : List Value} (h : w.ownsRow B t s v n xs) : ∃ ao c, v = .slice ao n c := by
  rcases h.2 with ⟨rfl, rfl⟩ | ⟨g, cap, cur, rfl, _⟩
  · exact ⟨_, _, rfl⟩
  · exact ⟨_, _, rfl⟩
set_option maxHeartbeats 4000000 in
set_option maxRecDepth 100000 in
theorem full_calls (many till : Int) (w : World) (h0 : 0 ≤ many) (h1 : many ≤ 65535) (ht : Wf till) : Calls Try.prog 3 #[.int .u16 many, .int .i64 till] w fun e w' => e = .returned (.bool true) ∧ Below w.heap.size w w' := by
  have c0 := new_live w
  obtain ⟨n, hn⟩ := Int.eq_ofNat_of_zero_le (show 0 ≤ many % 1100 by omega)
  have hn1 : n < 1100 := by omega
  go_enter Try.func3, Try.ntmps3
  go_wp2_with (first | (go_at_call 8; refine c0.mono ?_; rintro e w1 ⟨qb, rfl, hq1, hb1⟩))
  have HQ := Box.mk hq1
  have HB := Box.mk hb1
  clear hq1 hb1 c0
  go_loopg [16] n (fun k v16 wr => ∃ i : Nat, v16 = .int .i64 i ∧ Box (i + k = n) ∧ Box (Live wr w.heap.size qb (fullL till i)) ∧ Box (Below w.heap.size w wr))
  case atStart => exact ⟨0, rfl, ⟨by omega⟩, HQ, HB⟩
  case round =>
    clear HQ HB
    obtain ⟨i, rfl, HK, HQ, HB⟩ := hrel
    cases gk with
    | zero =>
      have hlt : ¬ (i : Int) < n := by have := HK.out; omega
      obtain rfl : i = n := by have := HK.out; omega
      have F := fullL_is till i
      by_cases hz : i = 0
      · have hl0 : (fullL till i).length = i := by rw [F.1]; omega
        have hz' : ¬ (0 : Int) < i := by omega
        have hi' : ¬ (1024 : Int) < i := by omega
        clear F hz
        obtain ⟨L, hL⟩ := rises_exists _ HQ.out.apart
        have hLl : L.length = i := hL.1.length_eq.trans hl0
        have c3 := fun W hb => qlen_live w.heap.size qb _ W (HQ.out.past hb)
        rw [hl0] at c3
        have c2 := all_live w.heap.size qb _ L wr HQ.out hL
        unfold Alls at c2
        rw [hLl] at c2
        have c4 := alive_calls
        have heq : (((i : Nat) : Int) == ((i : Nat) : Int)) = true := by simp
        clear hL hLl
        go_wp2_with (first | (go_at_call 10; refine (c3 _ hbA).mono ?_; rintro e w6 ⟨rfl, rfl⟩) | (go_at_call 10; refine (c3 _ (Below.refl _ _)).mono ?_; rintro e w6 ⟨rfl, rfl⟩) | (go_at_call 11; refine c2.mono ?_; rintro e w7 ⟨r, rfl, ho, hbA⟩; obtain ⟨ao, c, rfl⟩ := owns_slice ho; clear ho) | (go_at_call 12; refine (c4 _).mono ?_; rintro e w8 ⟨rfl, hbB⟩))
        go_ret
        exact ⟨rfl, (HB.out.trans (hbA.mono HB.out.size)).trans (hbB.mono (by have := HB.out.size; have := hbA.size; omega))⟩
      · have hA := HQ.out.apart
        have hk1 := F.2.2.2 (by omega)
        have c1 := put_live w.heap.size qb (fullL till i) 1 7 wr HQ.out HB.out.size (wf_small _ (by omega)) (wf_small _ (by omega))
        have hr : putRes (fullL till i) 1 = 0 := by unfold putRes; rw [if_neg (by decide), hk1, if_pos rfl]
        have hs : stepPut (fullL till i) 1 7 = (1, 7) :: without (fullL till i) 1 := by unfold stepPut; rw [hr, if_pos rfl]
        rw [hr, hs] at c1
        have hlen : ((1, 7) :: without (fullL till i) 1).length = (fullL till i).length := by rw [List.length_cons]; exact without_length hA hk1
        rw [F.1] at hlen
        have hpos : (0 : Int) < i := by omega
        by_cases hi : i ≤ 1024
        · have hi' : ¬ (1024 : Int) < i := by omega
          rw [Nat.min_eq_left hi] at hlen
          clear F hA hk1 hr hs
          go_wp2_with (first | (go_at_call 9; refine c1.mono ?_; rintro e w5 ⟨rfl, hq5, hb5⟩; have HQ5 := Box.mk hq5; have HB5 := Box.mk (HB.out.trans hb5); clear hq5 hb5 c1))
          obtain ⟨L, hL⟩ := rises_exists _ HQ5.out.apart
          have hLl : L.length = i := hL.1.length_eq.trans hlen
          have c3 := fun W hb => qlen_live w.heap.size qb _ W (HQ5.out.past hb)
          rw [hlen] at c3
          have c2 := all_live w.heap.size qb _ L w5 HQ5.out hL
          unfold Alls at c2
          rw [hLl] at c2
          have c4 := alive_calls
          have heq : (((i : Nat) : Int) == ((i : Nat) : Int)) = true := by simp
          clear hL hLl
          go_wp2_with (first | (go_at_call 10; refine (c3 _ hbA).mono ?_; rintro e w6 ⟨rfl, rfl⟩) | (go_at_call 10; refine (c3 _ (Below.refl _ _)).mono ?_; rintro e w6 ⟨rfl, rfl⟩) | (go_at_call 11; refine c2.mono ?_; rintro e w7 ⟨r, rfl, ho, hbA⟩; obtain ⟨ao, c, rfl⟩ := owns_slice ho; clear ho) | (go_at_call 12; refine (c4 _).mono ?_; rintro e w8 ⟨rfl, hbB⟩))
          go_ret
          exact ⟨rfl, (HB5.out.trans (hbA.mono HB5.out.size)).trans (hbB.mono (by have := HB5.out.size; have := hbA.size; omega))⟩
        · have hi' : (1024 : Int) < i := by omega
          rw [Nat.min_eq_right (by omega)] at hlen
          clear F hA hk1 hr hs
          go_wp2_with (first | (go_at_call 9; refine c1.mono ?_; rintro e w5 ⟨rfl, hq5, hb5⟩; have HQ5 := Box.mk hq5; have HB5 := Box.mk (HB.out.trans hb5); clear hq5 hb5 c1))
          obtain ⟨L, hL⟩ := rises_exists _ HQ5.out.apart
          have hLl : L.length = 1024 := hL.1.length_eq.trans hlen
          have c3 := fun W hb => qlen_live w.heap.size qb _ W (HQ5.out.past hb)
          rw [hlen] at c3
          have c2 := all_live w.heap.size qb _ L w5 HQ5.out hL
          unfold Alls at c2
          rw [hLl] at c2
          have c4 := alive_calls
          have heq : (((1024 : Nat) : Int) == ((1024 : Nat) : Int)) = true := by simp
          clear hL hLl
          go_wp2_with (first | (go_at_call 10; refine (c3 _ hbA).mono ?_; rintro e w6 ⟨rfl, rfl⟩) | (go_at_call 10; refine (c3 _ (Below.refl _ _)).mono ?_; rintro e w6 ⟨rfl, rfl⟩) | (go_at_call 11; refine c2.mono ?_; rintro e w7 ⟨r, rfl, ho, hbA⟩; obtain ⟨ao, c, rfl⟩ := owns_slice ho; clear ho) | (go_at_call 12; refine (c4 _).mono ?_; rintro e w8 ⟨rfl, hbB⟩))
          go_ret
          exact ⟨rfl, (HB5.out.trans (hbA.mono HB5.out.size)).trans (hbB.mono (by have := HB5.out.size; have := hbA.size; omega))⟩
    | succ k1 =>
      have hlt : (i : Int) < n := by have := HK.out; omega
      have F := fullL_is till i
      have c1 := put_live w.heap.size qb (fullL till i) (i + 1) till wr HQ.out HB.out.size (wf_small _ (by omega)) ht
      rw [F.2.2.1] at c1
      have hfe : stepPut (fullL till i) (i + 1) till = fullL till (i + 1) := rfl
      rw [hfe] at c1
      clear F hfe
      by_cases hi : i < 1024
      · rw [if_pos hi] at c1
        have hi' : (i : Int) < 1024 := by omega
        go_wp2_with (first | (go_at_call 9; refine c1.mono ?_; rintro e w2 ⟨rfl, hq2, hb2⟩; have HQ2 := Box.mk hq2; have HB2 := Box.mk (HB.out.trans hb2); clear hq2 hb2))
        go_roundg k1
        case measure => omega
        case rel => exact ⟨i + 1, by go_num, ⟨by have := HK.out; omega⟩, HQ2, HB2⟩
      · rw [if_neg hi] at c1
        have hi' : ¬ (i : Int) < 1024 := by omega
        go_wp2_with (first | (go_at_call 9; refine c1.mono ?_; rintro e w2 ⟨rfl, hq2, hb2⟩; have HQ2 := Box.mk hq2; have HB2 := Box.mk (HB.out.trans hb2); clear hq2 hb2))
        go_roundg k1
        case measure => omega
        case rel => exact ⟨i + 1, by go_num, ⟨by have := HK.out; omega⟩, HQ2, HB2⟩
end Go.Proofs.Ytnnebkmjeigflaa.L
