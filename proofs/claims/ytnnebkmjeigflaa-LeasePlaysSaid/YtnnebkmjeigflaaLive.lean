/- The queue by its numbers and times alone: what each call answers and leaves; Ints; alive. -/
import Derived.Test.YtnnebkmjeigflaaAll
namespace Go.Proofs.Ytnnebkmjeigflaa.L
open Go.RowKit

theorem known_perm {l l' : List (Int × Int)} (h : l.Perm l') (id : Int) : knownKV l id = knownKV l' id := by
  unfold knownKV
  rw [Bool.eq_iff_iff, List.any_eq_true, List.any_eq_true]
  exact ⟨fun ⟨x, hx, e⟩ => ⟨x, h.mem_iff.1 hx, e⟩, fun ⟨x, hx, e⟩ => ⟨x, h.mem_iff.2 hx, e⟩⟩
theorem putRes_perm {l l' : List (Int × Int)} (h : l.Perm l') (id : Int) : putRes l id = putRes l' id := by unfold putRes; rw [known_perm h, h.length_eq]
theorem stepPut_perm {l l' : List (Int × Int)} (h : l.Perm l') (id till : Int) : (stepPut l id till).Perm (stepPut l' id till) := by
  unfold stepPut
  rw [putRes_perm h]
  by_cases h0 : putRes l' id = 0
  · rw [if_pos h0, if_pos h0]
    exact (h.filter _).cons _
  · rw [if_neg h0, if_neg h0]
    exact h
theorem dropRes_perm {l l' : List (Int × Int)} (h : l.Perm l') (id : Int) : dropRes l id = dropRes l' id := by unfold dropRes; rw [known_perm h]
/-- A queue at block qb, of the call's own from B on, that has the numbers and times l. -/
def Live (w : World) (B qb : Nat) (l : List (Int × Int)) : Prop := ∃ m v es, Que w B qb m v es ∧ (es.map kv).Perm l
theorem Live.past {w w' : World} {B qb : Nat} {l : List (Int × Int)} (h : Live w B qb l) (hb : Below w.heap.size w w') : Live w' B qb l := by
  obtain ⟨m, v, es, hq, hp⟩ := h
  exact ⟨m, v, es, hq.past hb, hp⟩
theorem Turned.live {w w' : World} {B qb m : Nat} {v v' : Value} {es es' : List Ent} {l : List (Int × Int)} (h : Turned w w' B qb m v es l v' es') (hq : Que w B qb m v es) (hB : B ≤ w.heap.size) : Live w' B qb l ∧ Below B w w' :=
  ⟨⟨m, v', es', h.que, h.perm⟩, h.frame.below hB fun _ hk => (hq.foot_base hk).1⟩
theorem new_live (w : World) : Calls Try.prog 8 #[] w fun e w' => ∃ qb, e = .returned (.pointer (some ⟨qb, 0, none⟩)) ∧ Live w' w.heap.size qb [] ∧ Below w.heap.size w w' :=
  (new_calls w).mono fun _ _ ⟨qb, m, he, hq, hb⟩ => ⟨qb, he, ⟨m, _, [], hq, .refl _⟩, hb⟩
theorem put_live (B qb : Nat) (l : List (Int × Int)) (id till : Int) (w : World) (h : Live w B qb l) (hB : B ≤ w.heap.size) (hw : Wf id) (ht : Wf till) :
    Calls Try.prog 9 #[.pointer (some ⟨qb, 0, none⟩), .int .i64 id, .int .i64 till] w fun e w' => e = .returned (.int .i64 (putRes l id)) ∧ Live w' B qb (stepPut l id till) ∧ Below B w w' := by
  obtain ⟨m, v, es, hq, hp⟩ := h
  refine (put_calls B qb m v es id till w hq hB hw ht).mono ?_
  rintro e w' ⟨rfl, v', es', hT⟩
  obtain ⟨h1, h2⟩ := (hT.repl (stepPut_perm hp id till)).live hq hB
  exact ⟨by rw [putRes_perm hp], h1, h2⟩
theorem drop_live (B qb : Nat) (l : List (Int × Int)) (id : Int) (w : World) (h : Live w B qb l) (hB : B ≤ w.heap.size) (hw : Wf id) :
    Calls Try.prog 23 #[.pointer (some ⟨qb, 0, none⟩), .int .i64 id] w fun e w' => e = .returned (.int .i64 (dropRes l id)) ∧ Live w' B qb (without l id) ∧ Below B w w' := by
  obtain ⟨m, v, es, hq, hp⟩ := h
  refine (drop_calls B qb m v es id w hq hw).mono ?_
  rintro e w' ⟨rfl, v', es', hT⟩
  obtain ⟨h1, h2⟩ := (hT.repl (hp.filter _)).live hq hB
  exact ⟨by rw [dropRes_perm hp], h1, h2⟩
theorem due_live (B qb : Nat) (l L : List (Int × Int)) (now : Int) (w : World) (h : Live w B qb l) (hB : B ≤ w.heap.size) (hL : Rises L l) :
    Calls Try.prog 22 #[.pointer (some ⟨qb, 0, none⟩), .int .i64 now] w fun e w' => ∃ r, e = .returned r ∧
      w'.ownsRow w.heap.size 3 1 r (L.takeWhile fun p => decide (p.2 ≤ now)).length ((L.takeWhile fun p => decide (p.2 ≤ now)).map intV) ∧ Live w' B qb (L.dropWhile fun p => decide (p.2 ≤ now)) ∧ Below B w w' := by
  obtain ⟨m, v, es, hq, hp⟩ := h
  refine (due_calls B qb m v es L now w hq (hL.perm hp)).mono ?_
  rintro e w' ⟨r, rfl, ho, v', es', hT⟩
  obtain ⟨h1, h2⟩ := hT.live hq hB
  exact ⟨r, rfl, ho, h1, h2⟩
theorem qlen_live (B qb : Nat) (l : List (Int × Int)) (w : World) (h : Live w B qb l) : Calls Try.prog 10 #[.pointer (some ⟨qb, 0, none⟩)] w fun e w' => e = .returned (.int .i64 l.length) ∧ w = w' := by
  obtain ⟨m, v, es, hq, hp⟩ := h
  refine (qlen_calls B qb m v es w hq).mono ?_
  rintro e w' ⟨rfl, rfl⟩
  exact ⟨by rw [← hp.length_eq, List.length_map], rfl⟩
theorem all_live (B qb : Nat) (l L : List (Int × Int)) (w : World) (h : Live w B qb l) (hL : Rises L l) : Calls Try.prog 11 #[.pointer (some ⟨qb, 0, none⟩)] w (Alls w L) := by
  obtain ⟨m, v, es, hq, hp⟩ := h
  exact all_calls B qb m v es L w hq (hL.perm hp)

/-- A row of ints as its cells read. -/
def IntRow (w : World) (v : Value) (zs : List Int) : Prop := ∃ ao c, v = .slice ao zs.length c ∧ ∀ i (h : i < zs.length), ∃ a, ao = some a ∧ w.cell? (a.add i) = some (.int .i64 zs[i])
theorem add_block (g i : Nat) : (⟨g, 0, none⟩ : Addr).add i = ⟨g, i, none⟩ := by unfold Addr.add; split <;> simp_all
theorem IntRow.own {w : World} {B : Nat} {v : Value} {l : List (Int × Int)} (h : w.ownsRow B 3 1 v l.length (l.map intV)) : IntRow w v (l.map (·.1)) := by
  rcases h.2 with ⟨rfl, h0⟩ | ⟨g, cap, cur, rfl, _⟩
  · refine ⟨none, 0, by rw [List.length_map, h0], fun i hi => ?_⟩
    rw [List.length_map, h0] at hi
    exact absurd hi (Nat.not_lt_zero _)
  · refine ⟨_, _, by rw [List.length_map], fun i hi => ⟨_, rfl, ?_⟩⟩
    rw [List.length_map] at hi
    have := (owns_cells h i (by rw [List.length_map]; exact hi)).1
    rw [List.getElem_map] at this
    rw [List.getElem_map]
    rw [add_block]
    exact this
theorem IntRow.past {w w' : World} {v : Value} {zs : List Int} (h : IntRow w v zs) (hb : Below w.heap.size w w') : IntRow w' v zs := by
  obtain ⟨ao, c, rfl, hc⟩ := h
  refine ⟨ao, c, rfl, fun i hi => ?_⟩
  obtain ⟨a, rfl, ha⟩ := hc i hi
  exact ⟨a, rfl, (hb.cell (World.block_lt_of_cell? w _ ha)).trans ha⟩
/-- Are two lists the same? -/
def sameB (a b : List Int) : Bool := a == b
set_option maxHeartbeats 4000000 in
set_option maxRecDepth 100000 in
theorem ints_calls (u v : Value) (a b : List Int) (w : World) (ha : IntRow w u a) (hb : IntRow w v b) (hlen : a.length ≤ 1000000) :
    Calls Try.prog 20 #[u, v] w fun e w' => e = .returned (.bool (sameB a b)) ∧ ∃ n, w' = w.drewN n := by
  obtain ⟨ao, ac, rfl, hca⟩ := ha
  obtain ⟨bo, bc, rfl, hcb⟩ := hb
  by_cases hl : a.length = b.length
  · have HL := Box.mk hl
    have hne : ((a.length : Int) != (a.length : Int)) = false := by simp
    rw [← hl]
    obtain ⟨n, hn⟩ : ∃ n, a.length = n := ⟨_, rfl⟩
    rw [hn] at hne hlen ⊢
    have HN := Box.mk hn
    have HA := Box.mk hca
    have HB := Box.mk hcb
    clear hl hca hcb hn
    go_enter Try.func20, Try.ntmps20
    go_wp2
    go_loopg [5] n (fun k v5 wr => ∃ i : Nat, v5 = .int .i64 i ∧ Box (i + k = n) ∧ Box (a.take i = b.take i) ∧ Box (∃ d, wr = w.drewN d))
    case atStart => exact ⟨0, rfl, ⟨by omega⟩, ⟨rfl⟩, ⟨0, rfl⟩⟩
    case round =>
      obtain ⟨i, rfl, HK, HT, HD⟩ := hrel
      obtain ⟨d, rfl⟩ := HD.out
      cases gk with
      | zero =>
        have hlt : ¬ (i : Int) < n := by have := HK.out; omega
        have HE : Box (sameB a b = true) := ⟨by
          have h1 := HT.out; have h2 := HN.out; have h3 := HK.out; have h4 := HL.out
          rw [List.take_of_length_le (by omega), List.take_of_length_le (by omega)] at h1
          unfold sameB
          rw [h1]; simp⟩
        go_wp2
        go_ret
        exact ⟨by rw [HE.out]; rfl, d, rfl⟩
      | succ k1 =>
        have hlt : (i : Int) < n := by have := HK.out; omega
        have h0 : (0 : Int) ≤ i := by omega
        have hia : i < a.length := by have := HK.out; have := HN.out; omega
        have hib : i < b.length := by have := HL.out; omega
        obtain ⟨pa, rfl, ca⟩ := HA.out i hia
        obtain ⟨pb, rfl, cb⟩ := HB.out i hib
        by_cases hx : a[i] = b[i]
        · have ht : (a[i] != b[i]) = false := by simp [hx]
          have HT2 : Box (a.take (i + 1) = b.take (i + 1)) := ⟨by rw [List.take_succ_eq_append_getElem hia, List.take_succ_eq_append_getElem hib, HT.out, hx]⟩
          clear hx
          go_wp2
          go_quiet (fail)
          go_wp2
          go_roundg k1
          case measure => omega
          case rel => exact ⟨i + 1, by go_num, ⟨by have := HK.out; omega⟩, HT2, ⟨d + nq, rfl⟩⟩
        · have ht : (a[i] != b[i]) = true := by simpa using hx
          have HE : Box (sameB a b = false) := ⟨by
            unfold sameB
            rw [beq_eq_false_iff_ne]
            intro e
            apply hx
            have e1 : a[i]? = b[i]? := by rw [e]
            rw [List.getElem?_eq_getElem hia, List.getElem?_eq_getElem hib] at e1
            exact Option.some.inj e1⟩
          clear hx
          go_wp2
          go_quiet (fail)
          go_wp2
          go_ret
          exact ⟨by rw [HE.out]; rfl, d + nq, World.drewN_drewN _ _ _⟩
  · have hne : ((a.length : Int) != (b.length : Int)) = true := by simp; omega
    have HE : Box (sameB a b = false) := ⟨by unfold sameB; rw [beq_eq_false_iff_ne]; exact fun e => hl (by rw [e])⟩
    clear hca hcb hl
    go_enter Try.func20, Try.ntmps20
    go_wp2
    go_ret
    exact ⟨by rw [HE.out]; rfl, 0, rfl⟩
end Go.Proofs.Ytnnebkmjeigflaa.L
