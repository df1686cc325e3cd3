/- The card of RowsWrites in its second form: the reading's bulk is at most the bound of the Rows text. -/
import Derived.Test.YtgonkdfednoclaaDoorArgs
import Derived.Test.YtgonkdfednoclaaDoorPureWrites
import Derived.Test.YtgonkdfednoclaaDoorCards
import Derived.Test.YtgonkdfednoclaaDoorTie
import Derived.SevenTiedAt
import Derived.Deep.DeepHandedRow
namespace Go.Proofs.YtgonkdfednoclaaDoor.RowsWrites
open Go.ChangeShapes Go.WideShapes Go.ChangeAt Go.RowKit Go.Proofs.YtgonkdfednoclaaDoor.PRows
set_option linter.unusedVariables false

theorem own : ownKnob Tryd.prog.godebug = none := by kernel_rfl
theorem laidOut : laidOutB Tryd.prog = true := by kernel_rfl
/-- What is written is bounded by what is read. -/
theorem write_bulk {H : Type} : ∀ (xs : List S31), (writeU xs).length ≤ 65537 * Rows.uptoBulkAll (H := H) (xs.map fun x => .agg [.lit (.int .i64 x.f0), .lit (.string x.f1.data.toList), .lit (.int .i64 x.f2)])
  | [] => Nat.zero_le _
  | x :: xs => by
    have ih := write_bulk (H := H) xs
    have hp : padU x ≤ 65536 := by unfold padU; omega
    have hl : (lineU x).length = padU x + (x.f1.data.toList.length + 1) := by rw [lineU_eq, List.length_append, List.length_append, List.length_replicate, List.length_singleton]
    have e : (writeU (x :: xs)).length = (lineU x).length + (writeU xs).length := by unfold writeU; rw [List.flatMap_cons, List.length_append]
    simp only [List.map_cons, Rows.uptoBulkAll, Rows.uptoBulk]
    rw [e, hl]
    omega
theorem bulk_rows {H : Type} {d : DataW H} {ds : List (DataW H)} {xs : List S31} (hk : Rows.uptoSmall H ds = true) (hm : ∃ r, ds = d :: r)
    (h : (d = .nil ∧ xs = []) ∨ ∃ sp, d = .slice (xs.map fun x => .agg [.lit (.int .i64 x.f0), .lit (.string x.f1.data.toList), .lit (.int .i64 x.f2)]) sp) : (writeU xs).length < 140737488355328 := by
  rcases h with ⟨_, rfl⟩ | ⟨sp, rfl⟩
  · exact (by decide : 0 < 140737488355328)
  · obtain ⟨r, rfl⟩ := hm
    have hb : Rows.uptoBulkAll (DataW.slice (xs.map fun x => .agg [.lit (.int .i64 x.f0), .lit (.string x.f1.data.toList), .lit (.int .i64 x.f2)]) sp :: r) ≤ 1048576 := of_decide_eq_true hk
    simp only [Rows.uptoBulkAll, Rows.uptoBulk] at hb
    have := write_bulk (H := H) xs
    omega
theorem reads (os : Os) {H : Type} (enc : TypeId × Value → H) : ∃ places, DataW.whole enc Tryd.prog ((World.laidAll Tryd.prog os laidTwo).forCall (fun _ _ => 0) ⟨#[], #[.slice none 0 0, .slice none 0 0, .int .i64 0], []⟩).memory Tryd.f6.params.toList Rows.rowsWritesSpec.vars false #[Value.slice none 0 0, .slice none 0 0, .int .i64 0].toList 8 = some ([.nil, .nil, .lit (.int .i64 0)], [], places) :=
  ⟨[], by kernel_rfl⟩
set_option maxRecDepth 100000 in
theorem lifted (os : Os) (started : os.Started) (H : Type) (enc : TypeId × Value → H) (F : Stop.Interp) :
    ReturnsInHanded {} Tryd.checked os 6 .any ((Rows.OpenSpec.upto Rows.rowsWritesSpec).preRow enc Tryd.prog Tryd.f6 Rows.rowsWritesUptoRow.domain false Rows.rowsWritesUptoRow.laid) (((Rows.OpenSpec.upto Rows.rowsWritesSpec).at F).post enc Tryd.prog Tryd.f6 false true false false) := by
  obtain ⟨places, hx⟩ := reads os enc
  refine returnsInHanded_of_row (C := Tryd.checked) (s := Rows.OpenSpec.upto Rows.rowsWritesSpec) own started (by kernel_rfl) Tryd.func6
    ⟨World.laidAll Tryd.prog os laidTwo, fun _ _ => 0, ⟨#[], #[.slice none 0 0, .slice none 0 0, .int .i64 0], []⟩, World.laidAll_os _ _ _, World.shaped_of_ZipB (by kernel_rfl) (by kernel_rfl),
      rfl, (Input.okWide_of_okWideB (by kernel_rfl)).2,
      OpenSpec.preRow_of_cond 8 hx (by kernel_rfl) (fun k hk => by cases hk; kernel_rfl) (by kernel_rfl) (by
        rw [MakeChecks.laidMetH_plain _ _ _ (by kernel_rfl)]
        exact laidMet_laidAll _ (by kernel_rfl) (by kernel_rfl)),
      by simp [Assume.holds]⟩ ?_
  intro W base args ds gs before hval0 hW _ hcond hsz0 hL0 _ _
  have hk := hcond _ rfl
  have hsz : (DataW.weightsEach Tryd.prog (Tryd.f6.params.toList ++ Rows.rowsWritesSpec.plain.varTypes Tryd.prog) (ds ++ gs)).all (· ≤ reachBytes) = true := hsz0
  have hval : ∀ (j : Nat) t v, Tryd.f6.params[j]? = some t → args[j]? = some v → Value.okWide Tryd.prog W .any base t v := hval0
  have hL1 : laidMetH Tryd.prog laidTwo W := hL0
  have hW' := hW
  obtain ⟨p, q, hA0, hV, rfl, hfz, hnd⟩ := hW
  have hA : DataW.TrodAll enc Tryd.prog W 0 (fun _ => true) true Tryd.f6.params.toList args.toList ds p := hA0
  rw [Tryd.params6] at hA hval hsz
  obtain ⟨v0, vs0, d0, ds0, p0, q0, hargs, rfl, rfl, h0, r0⟩ := trodAll_cons hA
  obtain ⟨v1, vs1, d1, ds1, p1, q1, rfl, rfl, rfl, h1, r1⟩ := trodAll_cons r0
  obtain ⟨v2, vs2, d2, ds2, p2, q2, rfl, rfl, rfl, h2, r2⟩ := trodAll_cons r1
  obtain ⟨rfl, rfl, rfl⟩ := trodAll_nil r2
  obtain rfl : args = #[v0, v1, v2] := by cases args; simp_all
  obtain ⟨rfl, rfl⟩ := trodVars_none hV
  have lt0 : ∀ x ∈ p0, x.block < W.heap.size := by
    obtain ⟨m, hm⟩ := h0
    exact DataW.trod_lt m _ _ _ hm
  have lt1 : ∀ x ∈ p1, x.block < W.heap.size := by
    obtain ⟨m, hm⟩ := h1
    exact DataW.trod_lt m _ _ _ hm
  obtain ⟨A, xs, cap, rfl, hcap, hC, hd⟩ := open_rows (hval 0 23 v0 rfl rfl) h0
  obtain ⟨A1, ys, cap1, rfl, hcap1, hC1, hd1⟩ := open_rows (hval 1 23 v1 rfl rfl) h1
  obtain ⟨col, rfl, rfl, rfl, wc⟩ := open_int Tryd.underlying3 (hval 2 3 v2 rfl rfl) h2
  have hlen := rows_sized hsz (j := 0) rfl rfl hd
  have hroom := bulk_rows hk ⟨_, rfl⟩ hd
  rw [MakeChecks.laidMetH_plain _ _ _ (by kernel_rfl)] at hL1
  refine (grommetlaw02_RowsWrites.calls _ A cap xs A1 cap1 ys col true W (xtab_of_laid hL1) hC hcap hC1 hcap1 (rowsWrites_pure xs ys col hlen hroom)).mono fun e W' ⟨he, bel⟩ => ?_
  subst he
  exact ⟨_, rfl, _, _, _, [], _, [], hW', trodAll_mk1 (shut_bool Tryd.underlying4 _), trodAll_cons_mk (Below.trod laidOut (by kernel_rfl) (of_decide_eq_true (by kernel_rfl)) h0 bel lt0) (trodAll_cons_mk (Below.trod laidOut (by kernel_rfl) (of_decide_eq_true (by kernel_rfl)) h1 bel lt1) (trodAll_cons_mk (shut_int Tryd.underlying3 wc) trodAll_mk0)), rfl, bel.frame _, fun h => by cases h⟩

theorem holds : Rows.RowsWritesUptoSaid :=
  OpenClaim.holds_of_cond 6 Tryd.f6 rfl rfl rfl rfl rfl rfl rfl ⟨rfl, rfl, rfl, rfl, rfl⟩ rfl rfl rfl rfl rfl (by kernel_rfl) Tryd.func6 (by kernel_rfl)
    (of_decide_eq_true (by kernel_rfl)) (by unfold Func.isWrapper; first | (rw [if_pos (by decide +kernel)]; kernel_rfl) | (rw [if_neg (by decide +kernel)]; exact ⟨rfl, rfl⟩))
    (fun os started H enc _ F => by rw [OpenClaim.pre_eq_preRow]; exact lifted os started H enc F)

theorem card : Rows.RowsWritesUptoCardSaid :=
  Claim7.holds_tied_plain_at .later [] _ _ _ _ holds (fun _ h => by cases h) (by kernel_rfl) (fun _ h => by cases h) rowsWritesUpto_row_tie rfl ⟨rfl, rfl⟩ (by kernel_rfl) rfl
    (fun f fn hf hfn => by
      obtain rfl : f = 6 := Option.some.inj ((show Tryd.prog.funcNamed "grommet/grommetlaw02.RowsWrites" = some 6 by kernel_rfl).symm.trans hf) |>.symm
      obtain rfl : fn = Tryd.f6 := (Option.some.inj (Tryd.func6.symm.trans hfn)).symm
      exact ⟨by kernel_rfl, fun j t ht => by
        rw [Tryd.params6] at ht
        have hm : t ∈ [23, 23, 3] := by simpa using Array.mem_of_getElem? ht
        have hall : ([23, 23, 3].all fun u => !Tryd.prog.wantsStandIn u) = true := by kernel_rfl
        exact (show Tryd.prog.wantsStandIn t = false by simpa using List.all_eq_true.1 hall t hm)⟩)
    (by kernel_rfl)
end Go.Proofs.YtgonkdfednoclaaDoor.RowsWrites
namespace Go.Proofs.YtgonkdfednoclaaDoor
theorem rowsWritesUpto_card_holds : Rows.RowsWritesUptoCardSaid := RowsWrites.card
end Go.Proofs.YtgonkdfednoclaaDoor
