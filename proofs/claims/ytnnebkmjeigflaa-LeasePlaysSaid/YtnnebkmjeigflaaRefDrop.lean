/- The reference's Drop; a new row laid into the reference's queue. -/
import Derived.Test.YtnnebkmjeigflaaRefWithout
namespace Go.Proofs.Ytnnebkmjeigflaa.L
open Go.RowKit Go.Maps

theorem apart_at {L : List (Int × Int)} (h : ApartKV L) (i j : Nat) (hi : i < L.length) (hj : j < L.length) (e : L[i].1 = L[j].1) : i = j := by
  unfold ApartKV at h
  rw [List.pairwise_iff_getElem] at h
  rcases Nat.lt_trichotomy i j with h1 | h1 | h1
  · exact absurd e (h i j hi hj h1)
  · exact h1
  · exact absurd e.symm (h j i hj hi h1)
theorem find_in (B rb : Nat) (ao : Option Addr) (c : Nat) (L : List (Int × Int)) (hA : ApartKV L) (i : Nat) (hi : i < L.length) (w : World) (h : RefQ w B rb ao c L) :
    Calls Try.prog 33 #[.pointer (some ⟨rb, 0, none⟩), .int .i64 L[i].1] w fun e w' => e = .returned (.int .i64 i) ∧ w = w' := by
  refine (find_calls B rb ao c L L[i].1 w h).mono ?_
  rintro e w' ⟨rfl, ⟨j, rfl, hj, e⟩ | ⟨rfl, hn⟩⟩
  · rw [apart_at hA j i hj hi e]; exact ⟨rfl, rfl⟩
  · exact absurd rfl (hn _ (List.getElem_mem hi))
theorem find_out (B rb : Nat) (ao : Option Addr) (c : Nat) (L : List (Int × Int)) (id : Int) (hn : ∀ p ∈ L, p.1 ≠ id) (w : World) (h : RefQ w B rb ao c L) :
    Calls Try.prog 33 #[.pointer (some ⟨rb, 0, none⟩), .int .i64 id] w fun e w' => e = .returned (.int .i64 (-1)) ∧ w = w' := by
  refine (find_calls B rb ao c L id w h).mono ?_
  rintro e w' ⟨rfl, ⟨j, rfl, hj, e⟩ | ⟨rfl, _⟩⟩
  · exact absurd e (hn _ (List.getElem_mem hj))
  · exact ⟨rfl, rfl⟩
set_option maxRecDepth 100000 in
theorem without_neg (v : Value) (w : World) : Calls Try.prog 42 #[v, .int .i64 (-1)] w fun e w' => e = .returned v ∧ w = w' := by
  go_enter Try.func42, Try.ntmps42
  go_wp2
  go_ret
  exact ⟨rfl, rfl⟩
theorem without_at {L : List (Int × Int)} (hA : ApartKV L) (i : Nat) (hi : i < L.length) : without L L[i].1 = L.take i ++ L.drop (i + 1) := by
  have hs := split_at L i hi
  have hA' : ApartKV (L.take i ++ L[i] :: L.drop (i + 1)) := hs ▸ hA
  have := without_split hA'
  rw [← hs] at this
  exact this
theorem known_at {L : List (Int × Int)} (i : Nat) (hi : i < L.length) : knownKV L L[i].1 = true := by
  unfold knownKV
  rw [List.any_eq_true]
  exact ⟨_, List.getElem_mem hi, by simp⟩
theorem known_out {L : List (Int × Int)} {id : Int} (h : ∀ p ∈ L, p.1 ≠ id) : knownKV L id = false := by
  unfold knownKV
  rw [List.any_eq_false]
  intro p hp
  simpa using h p hp
/-- A row of the call's own, as it reads. -/
theorem rowL_own {w : World} {B : Nat} {r : Value} {L : List (Int × Int)} (ho : w.ownsRow B 75 2 r L.length (cellsL L)) (hf : L.length ≤ 1024) :
    ∃ ao c, r = .slice ao L.length c ∧ RowL w ao c L ∧ ∀ a, ao = some a → B ≤ a.block ∧ a.block < w.heap.size := by
  rcases ho.2 with ⟨rfl, h0⟩ | ⟨g, cap, cur, rfl, hb, hg, hle, _, hsz, ht⟩
  · refine ⟨none, 0, by rw [h0], ⟨by omega, hf, fun _ => ⟨h0, rfl⟩, fun a e => (by cases e), fun a e => (by cases e)⟩, fun a e => (by cases e)⟩
  · refine ⟨_, cap, rfl, ⟨hle, hf, fun e => (by cases e), fun a e => (by injection e with e; rw [← e]), fun a e j u hu => ?_⟩, fun a e => ?_⟩
    · injection e with e; subst e
      have hj := (List.getElem?_eq_some_iff.1 hu).1
      rw [cellsL_length] at hj
      rw [← ht, List.getElem?_take, if_pos hj] at hu
      show w.cell? ⟨g, 0 + j, none⟩ = _
      rw [Nat.zero_add, cell_of hg j]
      simpa using hu
    · injection e with e; subst e
      exact ⟨hb, lt_of_block hg⟩
/-- The new row laid into the queue. -/
theorem rwent_store {w w1 : World} {B rb c : Nat} {ao : Option Addr} {L L' : List (Int × Int)} {r : Value} (h : RefQ w B rb ao c L) (hB : B ≤ w.heap.size) (ho : w1.ownsRow w.heap.size 75 2 r L'.length (cellsL L')) (hf : L'.length ≤ 1024) (hb : Below w.heap.size w w1) :
    RWent w (w1.setCell ⟨rb, 0, none⟩ r) B rb ao L' := by
  obtain ⟨ao', c', rfl, hr, hlt⟩ := rowL_own ho hf
  have hrb : rb < w.heap.size := lt_of_block h.q
  have hq1 : w1.heap[rb]? = _ := (hb.block rb hrb).trans h.q
  have hs := (Frame.refl (fun k => k = rb) w1).setCell ⟨rb, 0, none⟩ (fun _ => rfl) (.slice ao' L'.length c')
  refine ⟨ao', c', ⟨set_same hq1 0 _, hr.le, hf, hr.empty, fun a e => ⟨hr.form a e, by have := (hlt a e).1; omega, fun e2 => by have := (hlt a e).1; omega, by have := (hlt a e).2; have := hs.size; omega⟩, fun a e i hi => ?_, h.base⟩, (Frame.of_below hb).then hs (fun _ _ h => h), fun k hk => ?_⟩
  · have hne : a.block ≠ rb := fun e2 => by have := (hlt a e).1; omega
    have hg := cellsL_get L' i hi
    have h1 := hr.cells a e _ _ hg.1
    have h2 := hr.cells a e _ _ hg.2
    exact ⟨(World.cell?_of_block (w := w1) (a := ⟨a.block, a.off + i * 2, none⟩) (set_other hne _ _)).trans h1, (World.cell?_of_block (w := w1) (a := ⟨a.block, a.off + i * 2 + 1, none⟩) (set_other hne _ _)).trans h2⟩
  · rcases hk with rfl | ⟨a, e, rfl⟩
    · exact .inl (.inl rfl)
    · exact .inr (hlt a e).1
def RDrops (w : World) (B rb : Nat) (ao : Option Addr) (L : List (Int × Int)) (id : Int) (e : Ending) (w' : World) : Prop := e = .returned (.int .i64 (dropRes L id)) ∧ RWent w w' B rb ao (without L id)
theorem RWent.same {w : World} {B rb c : Nat} {ao : Option Addr} {L : List (Int × Int)} (h : RefQ w B rb ao c L) : RWent w w B rb ao L := ⟨ao, c, h, Frame.refl _ _, fun _ h => .inl h⟩
set_option maxHeartbeats 1000000 in
set_option maxRecDepth 100000 in
theorem rdrop_calls (B rb : Nat) (ao : Option Addr) (c : Nat) (L : List (Int × Int)) (hA : ApartKV L) (id : Int) (w : World) (h : RefQ w B rb ao c L) (hB : B ≤ w.heap.size) :
    Calls Try.prog 30 #[.pointer (some ⟨rb, 0, none⟩), .int .i64 id] w (RDrops w B rb ao L id) := by
  have hc0 := h.c0
  by_cases hk : ∃ i : Nat, ∃ hi : i < L.length, L[i].1 = id
  · obtain ⟨i, hi, rfl⟩ := hk
    have c1 := find_in B rb ao c L hA i hi w h
    have c2 := without_calls ao c L i w h.rowL hi
    have HX : Box (∀ r w1, w1.ownsRow w.heap.size 75 2 r (L.take i ++ L.drop (i + 1)).length (cellsL (L.take i ++ L.drop (i + 1))) → Below w.heap.size w w1 → RDrops w B rb ao L L[i].1 (.returned (.int .i64 0)) (w1.setCell ⟨rb, 0, none⟩ r)) := ⟨fun r w1 ho hb =>
      ⟨by unfold dropRes; rw [known_at i hi, if_pos rfl], by rw [without_at hA i hi]; exact rwent_store h hB ho (by rw [List.length_append, List.length_take, List.length_drop]; have := h.few; omega) hb⟩⟩
    have HB : Box (∀ w1, Below w.heap.size w w1 → w1.heap[rb]? = some (.cells #[.slice ao L.length c] 35 (0, 0))) := ⟨fun w1 hb => (hb.block rb (lt_of_block h.q)).trans h.q⟩
    have hneg : ¬ (i : Int) < 0 := by omega
    obtain ⟨M, hM⟩ : ∃ M, L.take i ++ L.drop (i + 1) = M := ⟨_, rfl⟩
    rw [hM] at c2 HX
    clear h hA hM
    generalize L[i].1 = id at *
    go_enter Try.func30, Try.ntmps30
    go_wp2_with (first | (go_at_call 33; refine c1.mono ?_; rintro e w1 ⟨rfl, rfl⟩) | (go_at_call 42; refine c2.mono ?_; rintro e w2 ⟨r, rfl, ho, hb⟩; obtain ⟨ao2, c2, rfl⟩ := owns_slice ho; have hq := HB.out _ hb; have hf := free_of hq 0; have hcc : w2.cell? ⟨rb, 0, none⟩ = some (.slice ao L.length c) := (cell_of hq 0).trans rfl; have HE := Box.mk (HX.out _ _ ho hb); clear ho hb hq))
    go_ret
    exact HE.out
  · have hn : ∀ p ∈ L, p.1 ≠ id := fun p hp e => by
      obtain ⟨i, hi, rfl⟩ := List.getElem_of_mem hp
      exact hk ⟨i, hi, e⟩
    have c1 := find_out B rb ao c L id hn w h
    have HE : Box (RDrops w B rb ao L id (.returned (.int .i64 6)) w) := ⟨by unfold dropRes; rw [known_out hn, if_neg (by decide)], by rw [without_none (known_out hn)]; exact RWent.same h⟩
    clear h hA hk hn
    go_enter Try.func30, Try.ntmps30
    go_wp2_with (first | (go_at_call 33; refine c1.mono ?_; rintro e w1 ⟨rfl, rfl⟩))
    go_ret
    exact HE.out
end Go.Proofs.Ytnnebkmjeigflaa.L
