/- The reference's queue: a list in a row; find, First, Until, All. -/
import Derived.Test.YtnnebkmjeigflaaDuo
namespace Go.Proofs.Ytnnebkmjeigflaa.L
open Go.RowKit Go.Maps

/-- The reference's queue in block rb: its list is L, and lies in a row that nothing writes to. -/
structure RefQ (w : World) (B rb : Nat) (ao : Option Addr) (c : Nat) (L : List (Int × Int)) : Prop where
  q : w.heap[rb]? = some (.cells #[.slice ao L.length c] 35 (0, 0))
  le : L.length ≤ c
  few : L.length ≤ 1024
  empty : ao = none → L.length = 0 ∧ c = 0
  row : ∀ a, ao = some a → a = ⟨a.block, a.off, none⟩ ∧ B ≤ a.block ∧ a.block ≠ rb ∧ a.block < w.heap.size
  cells : ∀ a, ao = some a → ∀ i (h : i < L.length), w.cell? ⟨a.block, a.off + i * 2, none⟩ = some (.int .i64 L[i].1) ∧ w.cell? ⟨a.block, a.off + i * 2 + 1, none⟩ = some (.int .i64 L[i].2)
  base : B ≤ rb
def RefQ.Foot (rb : Nat) (ao : Option Addr) (k : Nat) : Prop := k = rb ∨ ∃ a, ao = some a ∧ k = a.block
theorem RefQ.foot {w : World} {B rb k : Nat} {ao : Option Addr} {c : Nat} {L : List (Int × Int)} (h : RefQ w B rb ao c L) (hF : RefQ.Foot rb ao k) : B ≤ k ∧ k < w.heap.size := by
  rcases hF with rfl | ⟨a, rfl, rfl⟩
  · exact ⟨h.base, lt_of_block h.q⟩
  · have := h.row a rfl; exact ⟨this.2.1, this.2.2.2⟩
theorem RefQ.of {w w' : World} {B rb : Nat} {ao : Option Addr} {c : Nat} {L : List (Int × Int)} (h : RefQ w B rb ao c L) (hs : w.heap.size ≤ w'.heap.size) (hh : ∀ k, RefQ.Foot rb ao k → w'.heap[k]? = w.heap[k]?) : RefQ w' B rb ao c L :=
  ⟨(hh rb (.inl rfl)).trans h.q, h.le, h.few, h.empty, fun a e => by have := h.row a e; exact ⟨this.1, this.2.1, this.2.2.1, by omega⟩,
    fun a e i hi => by
      have hb := hh a.block (.inr ⟨a, e, rfl⟩)
      have := h.cells a e i hi
      exact ⟨(World.cell?_of_block (w := w) (a := ⟨a.block, a.off + i * 2, none⟩) hb).trans this.1, (World.cell?_of_block (w := w) (a := ⟨a.block, a.off + i * 2 + 1, none⟩) hb).trans this.2⟩, h.base⟩
theorem RefQ.past {w w' : World} {B rb : Nat} {ao : Option Addr} {c : Nat} {L : List (Int × Int)} (h : RefQ w B rb ao c L) (hb : Below w.heap.size w w') : RefQ w' B rb ao c L :=
  h.of hb.size fun k hk => hb.block k (h.foot hk).2
theorem RefQ.c0 {w : World} {B rb : Nat} {ao : Option Addr} {c : Nat} {L : List (Int × Int)} (h : RefQ w B rb ao c L) : w.cell? ⟨rb, 0, none⟩ = some (.slice ao L.length c) := (cell_of h.q 0).trans rfl
theorem RefQ.at {w : World} {B rb : Nat} {ao : Option Addr} {c : Nat} {L : List (Int × Int)} (h : RefQ w B rb ao c L) (i : Nat) (hi : i < L.length) :
    ∃ g off, ao = some ⟨g, off, none⟩ ∧ w.cell? ⟨g, off + i * 2, none⟩ = some (.int .i64 L[i].1) ∧ w.cell? ⟨g, off + i * 2 + 1, none⟩ = some (.int .i64 L[i].2) := by
  cases ao with
  | none => have := (h.empty rfl).1; omega
  | some a =>
    have h1 := (h.row a rfl).1
    have h2 := h.cells a rfl i hi
    exact ⟨a.block, a.off, by rw [← h1], h2⟩

def Found (w : World) (L : List (Int × Int)) (id : Int) (e : Ending) (w' : World) : Prop := w = w' ∧ ((∃ i : Nat, e = .returned (.int .i64 i) ∧ ∃ hi : i < L.length, L[i].1 = id) ∨ (e = .returned (.int .i64 (-1)) ∧ ∀ p ∈ L, p.1 ≠ id))
set_option maxHeartbeats 1000000 in
set_option maxRecDepth 100000 in
/-- find: the first place of a number; -1 where it has none. -/
theorem find_calls (B rb : Nat) (ao : Option Addr) (c : Nat) (L : List (Int × Int)) (id : Int) (w : World) (h : RefQ w B rb ao c L) :
    Calls Try.prog 33 #[.pointer (some ⟨rb, 0, none⟩), .int .i64 id] w (Found w L id) := by
  have hc0 := h.c0
  have hfew := h.few
  have H := Box.mk h
  obtain ⟨n, hn⟩ : ∃ n, L.length = n := ⟨_, rfl⟩
  rw [hn] at hc0 hfew
  have HN := Box.mk hn
  have HC := Box.mk hc0
  clear h hn
  go_enter Try.func33, Try.ntmps33
  go_wp2
  go_loopg [4, 5] n (fun k v4 v5 wr => v4 = .int .i64 0 ∧ ∃ i : Nat, v5 = .int .i64 i ∧ Box (i + k = n) ∧ Box (∀ j (hj : j < L.length), j < i → L[j].1 ≠ id) ∧ Box (w = wr))
  case atStart => exact ⟨rfl, 0, rfl, ⟨by omega⟩, ⟨fun j _ hj => absurd hj (Nat.not_lt_zero _)⟩, ⟨rfl⟩⟩
  case round =>
    obtain ⟨rfl, i, rfl, HK, HJ, HW⟩ := hrel
    have hc0 : wr.cell? ⟨rb, 0, none⟩ = some (.slice ao n c) := by rw [← HW.out]; exact HC.out
    have H : Box (RefQ wr B rb ao c L) := ⟨by rw [← HW.out]; exact H.out⟩
    cases gk with
    | zero =>
      have hlt : ¬ (i : Int) < n := by have := HK.out; omega
      go_wp2
      go_ret
      exact ⟨HW.out, .inr ⟨rfl, fun p hp => by
        obtain ⟨j, hj, rfl⟩ := List.getElem_of_mem hp
        exact HJ.out j hj (by have := HK.out; have := HN.out; omega)⟩⟩
    | succ k1 =>
      have hlt : (i : Int) < n := by have := HK.out; omega
      have h0 : (0 : Int) ≤ i := by omega
      have hi : i < L.length := by have := HK.out; have := HN.out; omega
      obtain ⟨g, off, rfl, x1, x2⟩ := H.out.at i hi
      by_cases he : L[i].1 = id
      · have he' : (L[i].1 == id) = true := by simpa using he
        have HE := Box.mk he
        clear he H
        go_wp2
        go_ret
        exact ⟨HW.out, .inl ⟨i, rfl, hi, HE.out⟩⟩
      · have he' : (L[i].1 == id) = false := by simpa using he
        have HE : Box (∀ j (hj : j < L.length), j < i + 1 → L[j].1 ≠ id) := ⟨fun j hj hji => by
          by_cases e : j = i
          · subst e; exact he
          · exact HJ.out j hj (by omega)⟩
        clear he H
        go_wp2
        go_roundg k1
        case measure => omega
        case rel => exact ⟨rfl, i + 1, by go_num, ⟨by have := HK.out; omega⟩, HE, HW⟩
def refFirst : List (Int × Int) → Value
  | [] => .tuple #[.int .i64 0, .int .i64 0, .bool false]
  | p :: _ => .tuple #[.int .i64 p.1, .int .i64 p.2, .bool true]
set_option maxHeartbeats 1000000 in
set_option maxRecDepth 100000 in
theorem rfirst_calls (B rb : Nat) (ao : Option Addr) (c : Nat) (L : List (Int × Int)) (w : World) (h : RefQ w B rb ao c L) :
    Calls Try.prog 17 #[.pointer (some ⟨rb, 0, none⟩)] w fun e w' => e = .returned (refFirst L) ∧ ∃ n, w' = w.drewN n := by
  have hc0 := h.c0
  have hfew := h.few
  cases L with
  | nil =>
    have ht : (((([] : List (Int × Int)).length : Nat) : Int) == 0) = true := rfl
    clear h
    go_enter Try.func17, Try.ntmps17
    go_wp2
    go_ret3
    exact ⟨rfl, 0, rfl⟩
  | cons p L =>
    obtain ⟨g, off, rfl, x1, x2⟩ := h.at 0 (Nat.zero_lt_succ _)
    have x1 : w.cell? ⟨g, off, none⟩ = some (.int .i64 p.1) := x1
    have x2 : w.cell? ⟨g, off + 1, none⟩ = some (.int .i64 p.2) := x2
    obtain ⟨n, hn⟩ : ∃ n, (p :: L).length = n := ⟨_, rfl⟩
    have h0 : (0 : Int) < n := by rw [← hn, List.length_cons]; omega
    have ht : ((n : Int) == 0) = false := by simp; omega
    rw [hn] at hc0
    unfold refFirst
    clear h hn hfew
    go_enter Try.func17, Try.ntmps17
    go_wp2
    go_quiet (fail)
    go_wp2
    go_ret3
    exact ⟨rfl, nq, rfl⟩
def refUntil (L : List (Int × Int)) (id : Int) (e : Ending) : Prop := (∃ p ∈ L, p.1 = id ∧ e = .returned (.tuple #[.int .i64 p.2, .bool true])) ∨ ((∀ p ∈ L, p.1 ≠ id) ∧ e = .returned (.tuple #[.int .i64 0, .bool false]))
def RefUntil (w : World) (L : List (Int × Int)) (id : Int) (e : Ending) (w' : World) : Prop := w = w' ∧ refUntil L id e
set_option maxHeartbeats 1000000 in
set_option maxRecDepth 100000 in
theorem runtil_calls (B rb : Nat) (ao : Option Addr) (c : Nat) (L : List (Int × Int)) (id : Int) (w : World) (h : RefQ w B rb ao c L) :
    Calls Try.prog 19 #[.pointer (some ⟨rb, 0, none⟩), .int .i64 id] w (RefUntil w L id) := by
  have hc0 := h.c0
  have hfew := h.few
  have c1 := find_calls B rb ao c L id w h
  have H := Box.mk h
  clear h
  go_enter Try.func19, Try.ntmps19
  go_wp2_with (first | (go_at_call 33; refine c1.mono ?_; rintro e w1 ⟨rfl, ⟨i, rfl, hi, he⟩ | ⟨rfl, hn⟩⟩))
  · obtain ⟨g, off, rfl, x1, x2⟩ := H.out.at i hi
    have h0 : ¬ (i : Int) < 0 := by omega
    have h1 : (i : Int) < L.length := by omega
    have h2 : (0 : Int) ≤ i := by omega
    have HE : Box (RefUntil w L id (.returned (.tuple #[.int .i64 L[i].2, .bool true])) w) := ⟨rfl, .inl ⟨_, List.getElem_mem hi, he, rfl⟩⟩
    clear H he
    go_wp2
    go_ret2
    exact HE.out
  · have HE : Box (RefUntil w L id (.returned (.tuple #[.int .i64 0, .bool false])) w) := ⟨rfl, .inr ⟨hn, rfl⟩⟩
    clear H hn
    go_wp2
    go_ret2
    exact HE.out
end Go.Proofs.Ytnnebkmjeigflaa.L
