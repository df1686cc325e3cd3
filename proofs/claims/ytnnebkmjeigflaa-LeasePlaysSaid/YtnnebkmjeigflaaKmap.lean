/- A map's block as a function from keys to values: what it holds, whatever the values are; read, stored into, deleted from. -/
import Derived.Test.YtnnebkmjeigflaaBase
import Derived.Maps.OwnSet
import Derived.Maps.Views
namespace Go.Proofs.Ytnnebkmjeigflaa.L
open Go.RowKit Go.Maps Go.MapKept Go.ChangeMaps
open Go.WideElems (rg)

/-- A value as a datum. -/
def heldR (v : Value) : Option (DataW Value × List MemPlace) := some (.held v, [])
/-- Block b is a map of n entries that has f's values under the keys of type k. -/
def Kmap (P : Program) (k : TypeId) (w : World) (b n : Nat) (f : Lit → Option Value) : Prop :=
  ∃ D : DataW Value, w.ownsMap P k heldR b n D ∧ Maps.size D = n ∧ ∀ kl, KeysOf P k kl → Maps.has D kl = (f kl).isSome ∧ ∀ z, D.atKey kl (.held z) = .held ((f kl).getD z)
variable {P : Program} {k e t : TypeId} {w : World} {b n : Nat} {f g : Lit → Option Value}

theorem Kmap.lt (h : Kmap P k w b n f) : b < w.heap.size := by obtain ⟨D, h, _⟩ := h; exact h.lt
theorem Kmap.made (w : World) (P : Program) (k : TypeId) : Kmap P k (w.alloc (.map #[] 0)) w.heap.size 0 (fun _ => none) :=
  ⟨.map [], World.ownsMap_made w P k _, rfl, fun _ _ => ⟨rfl, fun _ => rfl⟩⟩
theorem Kmap.congr (h : Kmap P k w b n f) (hfg : ∀ kl, KeysOf P k kl → f kl = g kl) : Kmap P k w b n g := by
  obtain ⟨D, h1, h2, h3⟩ := h
  exact ⟨D, h1, h2, fun kl hk => by rw [← hfg kl hk]; exact h3 kl hk⟩
theorem Kmap.of {w' : World} (h : Kmap P k w b n f) (hb : w'.heap[b]? = w.heap[b]?) : Kmap P k w' b n f := by
  obtain ⟨D, ⟨es, c, h1, h2⟩, h3⟩ := h
  exact ⟨D, ⟨es, c, hb.trans h1, h2⟩, h3⟩
theorem Kmap.obj (h : Kmap P k w b n f) : ∃ es c, w.heap[b]? = some (.map es c) := by
  obtain ⟨D, ⟨es, c, h1, _⟩, _⟩ := h
  exact ⟨es, c, h1⟩
theorem Kmap.ne_cells (h : Kmap P k w b n f) {a : Nat} {cs : Array Value} {s : TypeId} {z : Nat × Nat} (ha : w.heap[a]? = some (.cells cs s z)) : a ≠ b := fun e => by
  obtain ⟨es, c, h1⟩ := h.obj
  rw [← e, ha] at h1
  cases h1
theorem heldR_inv {v : Value} {d : DataW Value} {ps : List MemPlace} (h : heldR v = some (d, ps)) : d = .held v ∧ ps = [] := by
  injection h with h
  injection h with h1 h2
  exact ⟨h1.symm, h2.symm⟩
theorem Kmap.look (h : Kmap P k w b n f) (K : Keyed P k) (ht : P.underlying t = some (.map k e)) {z : Value} (hz : (zeroValue e).run P w = .ok z w) {key : Value} {kl : Lit} (hkey : keyOf P k key = some kl) :
    (Instr.lookup t (.map (some b)) key false).run P w = .ok ((f kl).getD z) w := by
  obtain ⟨D, h1, _, h3⟩ := h
  obtain ⟨v, ps, hrun, hv⟩ := h1.lookup K ht hz (zd := .held z) (zp := []) rfl hkey
  obtain ⟨hd, _⟩ := heldR_inv hv
  rw [(h3 kl ⟨key, hkey⟩).2 z] at hd
  injection hd with hd
  rw [hrun, hd]
theorem Kmap.look_ok (h : Kmap P k w b n f) (K : Keyed P k) (ht : P.underlying t = some (.map k e)) {z : Value} (hz : (zeroValue e).run P w = .ok z w) {key : Value} {kl : Lit} (hkey : keyOf P k key = some kl) :
    (Instr.lookup t (.map (some b)) key true).run P w = .ok (.tuple #[(f kl).getD z, .bool (f kl).isSome]) w := by
  obtain ⟨D, h1, _, h3⟩ := h
  obtain ⟨v, ps, hrun, hv⟩ := h1.look_ok K ht hz (zd := .held z) (zp := []) rfl hkey
  obtain ⟨hd, _⟩ := heldR_inv hv
  rw [(h3 kl ⟨key, hkey⟩).2 z] at hd
  injection hd with hd
  rw [hrun, hd, (h3 kl ⟨key, hkey⟩).1]
theorem Kmap.len (h : Kmap P k w b n f) (ht : P.underlying t = some (.map k e)) (ty : TypeId) : (Builtin.len_ #[t] ty #[.map (some b)]).run P w = .ok (.int .i64 n) w := by
  obtain ⟨D, h1, h2, _⟩ := h
  rw [h1.len ht ty, h2]
/-- A key's value put anew; or taken away. -/
def putF (f : Lit → Option Value) (kl : Lit) (v : Option Value) : Lit → Option Value := fun x => if x.sameKey kl then v else f x
theorem tight {D : DataW Value} {R : Value → Option (DataW Value × List MemPlace)} {m : Nat} (h : w.ownsMap P k R b m D) : w.ownsMap P k R b (Maps.size D) D := by
  obtain ⟨es, c, h1, F, _, hD⟩ := h
  refine ⟨es, c, h1, F, ?_, hD⟩
  rw [hD]
  simp [Maps.size, length_sorted]
theorem Kmap.store (h : Kmap P k w b n f) (K : Keyed P k) (ht : P.underlying t = some (.map k e)) (hn : n < maxLen) {key val : Value} {kl : Lit} (hkey : keyOf P k key = some kl) :
    ∃ w', (Instr.mapUpdate t (.map (some b)) key val).run P w = .ok () w' ∧ Kmap P k w' b (if (f kl).isSome then n else n + 1) (putF f kl (some val)) ∧ w.mapTurned w' b := by
  obtain ⟨D, h1, h2, h3⟩ := h
  have hT := h1.tidy K
  have hM := h1.isMap
  have hk := K.key hkey
  obtain ⟨w', hrun, r1, r2⟩ := h1.store K ht hn (val := val) (d := .held val) (ps := []) hkey rfl
  refine ⟨w', hrun, ⟨D.put kl (.held val), ?_, ?_, fun x hx => ?_⟩, r2⟩
  · have := tight r1
    rw [size_put hT, (h3 kl ⟨key, hkey⟩).1, h2] at this
    exact this
  · rw [size_put hT, (h3 kl ⟨key, hkey⟩).1, h2]
  · unfold putF
    by_cases e1 : x = kl
    · subst e1
      rw [if_pos (WideAt.sameKey_self (K.key hkey))]
      exact ⟨has_put_same hM hk _, fun z => atKey_put_same hM hk _ _⟩
    · rw [if_neg (fun e2 => e1 ((WideAt.sameKey_iff (K.key hkey)).1 e2)), has_put_other e1]
      exact ⟨(h3 x hx).1, fun z => by rw [atKey_put_other e1]; exact (h3 x hx).2 z⟩
theorem Kmap.drop (h : Kmap P k w b n f) (K : Keyed P k) (ht : P.underlying t = some (.map k e)) {key : Value} {kl : Lit} (hkey : keyOf P k key = some kl) (ty : TypeId) :
    ∃ w', (Builtin.delete_ #[t, k] ty #[.map (some b), key]).run P w = .ok (.tuple #[]) w' ∧ Kmap P k w' b (if (f kl).isSome then n - 1 else n) (putF f kl none) ∧ w.mapTurned w' b := by
  obtain ⟨D, h1, h2, h3⟩ := h
  have hT := h1.tidy K
  obtain ⟨w', hrun, r1, r2⟩ := h1.drop K ht hkey ty
  have hs : Maps.size (D.del kl) = if (f kl).isSome then n - 1 else n := by
    have := size_del (k := kl) hT
    rw [(h3 kl ⟨key, hkey⟩).1, h2] at this
    split <;> simp_all <;> omega
  refine ⟨w', hrun, ⟨D.del kl, ?_, hs, fun x hx => ?_⟩, r2⟩
  · have := tight r1
    rw [hs] at this
    exact this
  · unfold putF
    by_cases e1 : x = kl
    · subst e1
      rw [if_pos (WideAt.sameKey_self (K.key hkey))]
      exact ⟨has_del_same, fun z => atKey_del_same _⟩
    · rw [if_neg (fun e2 => e1 ((WideAt.sameKey_iff (K.key hkey)).1 e2)), has_del_other e1]
      exact ⟨(h3 x hx).1, fun z => by rw [atKey_del_other e1]; exact (h3 x hx).2 z⟩
theorem wpList_delete_k {ops : Array Oper} {rest : List Oper} {o : Oper} {a : Act} {Q : Exit → Act → World → Prop} (hg : o.guard = none) (m x : Operand) (t k : TypeId) (hop : o.op = Op.call { callee := Callee.builtin Builtin.delete, args := #[m, x], argTypes := #[t, k] })
    (e : TypeId) (K : Keyed P k) (ht : P.underlying t = some (.map k e)) (b n : Nat) (f : Lit → Option Value) (hm : a.eval m = .map (some b)) (h : Kmap P k w b n f) (key : Value) (kl : Lit) (hx : a.eval x = key) (hkey : keyOf P k key = some kl)
    (hK : ∀ w', Kmap P k w' b (if (f kl).isSome then n - 1 else n) (putF f kl none) → w.mapTurned w' b → wpList P ops Q rest (a.put o.dst (.tuple #[])) w') : wpList P ops Q (o :: rest) a w := by
  refine wpList_plain hg fun K' hK' => ?_
  obtain ⟨w', hrun, r1, r2⟩ := h.drop K ht hkey o.type
  unfold Oper.wp
  simp [execOp, hop, resolve, invoke, builtin, hm, hx, hrun, Result.andThen]
  exact hK' _ _ (hK w' r1 r2)
theorem wpList_store_k {ops : Array Oper} {rest : List Oper} {o : Oper} {a : Act} {Q : Exit → Act → World → Prop} (hg : o.guard = none) (m x v : Operand) (t : TypeId) (hop : o.op = Op.mapUpdate t m x v)
    (k e : TypeId) (K : Keyed P k) (ht : P.underlying t = some (.map k e)) (b n : Nat) (f : Lit → Option Value) (hm : a.eval m = .map (some b)) (h : Kmap P k w b n f) (hn : n < maxLen) (key val : Value) (kl : Lit) (hx : a.eval x = key) (hv : a.eval v = val) (hkey : keyOf P k key = some kl)
    (hK : ∀ w', Kmap P k w' b (if (f kl).isSome then n else n + 1) (putF f kl (some val)) → w.mapTurned w' b → wpList P ops Q rest (a.put o.dst undef) w') : wpList P ops Q (o :: rest) a w := by
  refine wpList_plain hg fun K' hK' => ?_
  obtain ⟨w', hrun, r1, r2⟩ := h.store K ht hn (val := val) hkey
  unfold Oper.wp
  simp [execOp, hop, hm, hx, hv, hrun, Result.andThen]
  exact hK' _ _ (hK w' r1 r2)
theorem turned_frame {w' : World} (h : w.mapTurned w' b) : Frame (fun i => i = b) w w' ∧ w'.heap.size = w.heap.size := by
  have g := h.grown
  refine ⟨⟨g.os, g.tape, g.output, g.size, fun i hi hn => g.block i hi (fun e => hn (by injection e))⟩, ?_⟩
  obtain ⟨es, c, es', c', hb, rfl⟩ := h
  simp [setBlock]
end Go.Proofs.Ytnnebkmjeigflaa.L
