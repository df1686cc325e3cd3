/- append onto a row of the call's own, whatever is appended; rows of pairs. -/
import Derived.Test.YtnnebkmjeigflaaRefRows
import Derived.Deep.RegionLaw
import Derived.Deep.AppendLies
import Derived.Laws.AppendOwnNone
namespace Go.Proofs.Ytnnebkmjeigflaa.L
open Go.RowKit Go.Maps

theorem wp_append_any {P : Program} (w : World) {o : Oper} {a : Act} {K : Act → World → Prop} {Q : Exit → Act → World → Prop} (s x : Operand) (t : TypeId)
    (ho : o.op = .call { callee := .builtin .append, args := #[s, x], argTypes := #[t, t] })
    (base : Nat) (e : TypeId) (i : TypeInfo) (z : Value) (size bytes : Nat) (ht : P.underlying t = some (.slice e)) (hi : P.info? e = some i) (hz : i.zero = some z)
    (hsize : i.size = size) (hby : i.bytes = bytes) (hzs : z.cells.size = size) (hsz : 0 < size)
    (v : Value) (n : Nat) (xs : List Value) (hs : a.eval s = v) (hown : w.ownsRow base e size v n xs)
    (ao : Option Addr) (m c : Nat) (news : List Value) (hx : a.eval x = .slice ao m c) (hl : news.length = m * size) (hnone : ao = none → m = 0 ∧ c = 0) (hnews : ∀ ad, ao = some ad → ∀ j u, news[j]? = some u → w.cell? (ad.add j) = some u) (h1 : ∀ u ∈ news, u.oneCell' = true)
    (h63 : n + m ≤ maxLen) (hbytes : (n + m) * bytes ≤ 140737488355328) (hbase : base ≤ w.heap.size)
    (h : ∀ v' w', w'.ownsRow base e size v' (n + m) (xs ++ news) → w.grownBy w' v.ownBlock → K (a.put o.dst v') w') : Oper.wp P o a w K Q := by
  cases ao with
  | some ad => exact wp_append_own w s x t ho base e i z size bytes ht hi hz hsize hby hzs hsz v n xs hs hown ad m c news hx hl (hnews ad rfl) h1 h63 hbytes hbase fun v' w' h2 h3 _ => h v' w' h2 h3
  | none =>
    obtain ⟨rfl, rfl⟩ := hnone rfl
    have hn : news = [] := List.eq_nil_of_length_eq_zero (by simpa using hl)
    subst hn
    have hrun := run_append_owned_none (P := P) (w := w) base t o.type e i size ht hi v n xs hown
    unfold Oper.wp
    simp [execOp, ho, resolve, invoke, builtin, hs, hx, hrun, Result.andThen]
    exact h v w (by simpa using hown) (World.grownBy.refl _ _)
theorem step_append_any {P : Program} (w : World) {ops : Array Oper} {o : Oper} {a : Act} {K : Act → World → Prop} {Q : Exit → Act → World → Prop} {E : Prop} (hgd : o.guard = none) (s x : Operand) (t : TypeId)
    (ho : o.op = .call { callee := .builtin .append, args := #[s, x], argTypes := #[t, t] })
    (base : Nat) (e : TypeId) (i : TypeInfo) (z : Value) (size bytes : Nat) (ht : P.underlying t = some (.slice e)) (hi : P.info? e = some i) (hz : i.zero = some z)
    (hsize : i.size = size) (hby : i.bytes = bytes) (hzs : z.cells.size = size) (hsz : 0 < size)
    (v : Value) (n : Nat) (xs : List Value) (hs : a.eval s = v) (hown : w.ownsRow base e size v n xs)
    (ao : Option Addr) (m c : Nat) (news : List Value) (hx : a.eval x = .slice ao m c) (hl : news.length = m * size) (hnone : ao = none → m = 0 ∧ c = 0) (hnews : ∀ ad, ao = some ad → ∀ j u, news[j]? = some u → w.cell? (ad.add j) = some u) (h1 : ∀ u ∈ news, u.oneCell' = true)
    (h63 : n + m ≤ maxLen) (hbytes : (n + m) * bytes ≤ 140737488355328) (hbase : base ≤ w.heap.size)
    (h : ∀ v' w', w'.ownsRow base e size v' (n + m) (xs ++ news) → w.grownBy w' v.ownBlock → K (a.put o.dst v') w') :
    if Region.wanted o (yielded ops a.tmps) = true then Oper.wp P o a w K Q else E := by
  have hw : Region.wanted o (yielded ops a.tmps) = true := by simp [Region.wanted, hgd]
  rw [if_pos hw]
  exact wp_append_any w s x t ho base e i z size bytes ht hi hz hsize hby hzs hsz v n xs hs hown ao m c news hx hl hnone hnews h1 h63 hbytes hbase h
theorem info75 : (Try.prog.info? 75).map (fun i => (i.zero, i.size, i.bytes)) = some (some (.agg #[.int .i64 0, .int .i64 0]), 2, 16) := by kernel_rfl
/-- Pairs as cells. -/
def cellsL (L : List (Int × Int)) : List Value := L.flatMap fun p => [.int .i64 p.1, .int .i64 p.2]
theorem cellsL_length (L : List (Int × Int)) : (cellsL L).length = L.length * 2 := by
  induction L with
  | nil => rfl
  | cons p L ih => simp only [cellsL, List.flatMap_cons, List.length_append, List.length_cons, List.length_nil] at *; omega
theorem cellsL_append (L M : List (Int × Int)) : cellsL (L ++ M) = cellsL L ++ cellsL M := by unfold cellsL; simp
theorem cellsL_get (L : List (Int × Int)) : ∀ i (h : i < L.length), (cellsL L)[i * 2]? = some (.int .i64 L[i].1) ∧ (cellsL L)[i * 2 + 1]? = some (.int .i64 L[i].2) := by
  induction L with
  | nil => intro i h; exact absurd h (Nat.not_lt_zero _)
  | cons p L ih =>
    intro i h
    have e : cellsL (p :: L) = .int .i64 p.1 :: .int .i64 p.2 :: cellsL L := rfl
    cases i with
    | zero => rw [e]; exact ⟨rfl, rfl⟩
    | succ i =>
      have := ih i (by simpa using h)
      have e1 : (i + 1) * 2 = i * 2 + 1 + 1 := by omega
      rw [e, e1]
      simpa using this
theorem cellsL_one (L : List (Int × Int)) : ∀ u ∈ cellsL L, u.oneCell' = true := by
  intro u hu
  unfold cellsL at hu
  obtain ⟨p, _, h⟩ := List.mem_flatMap.1 hu
  simp at h
  rcases h with rfl | rfl <;> rfl
/-- A row of pairs, as its cells read. -/
structure RowL (w : World) (ao : Option Addr) (c : Nat) (L : List (Int × Int)) : Prop where
  le : L.length ≤ c
  few : L.length ≤ 1024
  empty : ao = none → L.length = 0 ∧ c = 0
  form : ∀ a, ao = some a → a = ⟨a.block, a.off, none⟩
  cells : ∀ a, ao = some a → ∀ j u, (cellsL L)[j]? = some u → w.cell? ⟨a.block, a.off + j, none⟩ = some u
theorem RefQ.rowL {w : World} {B rb : Nat} {ao : Option Addr} {c : Nat} {L : List (Int × Int)} (h : RefQ w B rb ao c L) : RowL w ao c L :=
  ⟨h.le, h.few, h.empty, fun a e => (h.row a e).1, fun a e j u hu => by
    have hj := (List.getElem?_eq_some_iff.1 hu).1
    rw [cellsL_length] at hj
    have hc := h.cells a e (j / 2) (by omega)
    have hg := cellsL_get L (j / 2) (by omega)
    rcases Nat.mod_two_eq_zero_or_one j with h2 | h2
    · have e1 : j / 2 * 2 = j := by omega
      rw [e1] at hc hg
      rw [hg.1] at hu
      rw [hc.1]; exact hu
    · have e1 : j / 2 * 2 + 1 = j := by omega
      rw [Nat.add_assoc, e1] at hc
      rw [e1] at hg
      rw [hg.2] at hu
      rw [hc.2]; exact hu⟩
/-- The cells of a part of it. -/
theorem RowL.part {w : World} {g off c : Nat} {L : List (Int × Int)} (h : RowL w (some ⟨g, off, none⟩) c L) (i : Nat) {M R : List (Int × Int)} (e : L = L.take i ++ M ++ R) (hi : i ≤ L.length) :
    ∀ j u, (cellsL M)[j]? = some u → w.cell? ((⟨g, off + i * 2, none⟩ : Addr).add j) = some u := fun j u hu => by
  have h1 := h.cells _ rfl (i * 2 + j) u (by
    have hj := (List.getElem?_eq_some_iff.1 hu).1
    have hl : (cellsL (L.take i)).length = i * 2 := by rw [cellsL_length, List.length_take, Nat.min_eq_left hi]
    rw [e, cellsL_append, cellsL_append, List.append_assoc, List.getElem?_append_right (by omega), hl, Nat.add_sub_cancel_left, List.getElem?_append_left hj]
    exact hu)
  rw [Addr.add_lit, Nat.add_assoc]
  exact h1
end Go.Proofs.Ytnnebkmjeigflaa.L
