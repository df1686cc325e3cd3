/- Numbers with times, as a list: what Put and Drop make of it. -/
import Derived.Test.YtnnebkmjeigflaaQue
namespace Go.Proofs.Ytnnebkmjeigflaa.L

def kv (e : Ent) : Int × Int := (e.id, e.till)
def without (l : List (Int × Int)) (id : Int) : List (Int × Int) := l.filter fun p => p.1 != id
def knownKV (l : List (Int × Int)) (id : Int) : Bool := l.any fun p => p.1 == id
def putRes (l : List (Int × Int)) (id : Int) : Int := if id < 1 then 1 else if knownKV l id then 0 else if l.length < 1024 then 0 else 5
def stepPut (l : List (Int × Int)) (id till : Int) : List (Int × Int) := if putRes l id = 0 then (id, till) :: without l id else l
def dropRes (l : List (Int × Int)) (id : Int) : Int := if knownKV l id then 0 else 6
def ApartKV (l : List (Int × Int)) : Prop := l.Pairwise fun a b => a.1 ≠ b.1
theorem apart_kv {es : List Ent} (h : Apart es) : ApartKV (es.map kv) := by
  unfold ApartKV
  rw [List.pairwise_map]
  exact h
theorem known_kv (es : List Ent) (id : Int) : knownKV (es.map kv) id = true ↔ ∃ e ∈ es, e.id = id := by
  unfold knownKV kv
  simp
theorem known_kv_false (es : List Ent) (id : Int) : knownKV (es.map kv) id = false ↔ ∀ e ∈ es, e.id ≠ id := by
  rw [← Bool.not_eq_true, known_kv]
  simp
theorem without_none {l : List (Int × Int)} {id : Int} (h : knownKV l id = false) : without l id = l := by
  unfold without knownKV at *
  rw [List.filter_eq_self]
  intro p hp
  have := List.any_eq_false.1 h p hp
  simpa using this
theorem without_split {a b : List (Int × Int)} {x : Int × Int} (h : ApartKV (a ++ x :: b)) : without (a ++ x :: b) x.1 = a ++ b := by
  unfold ApartKV at h
  rw [List.pairwise_append, List.pairwise_cons] at h
  obtain ⟨_, ⟨h1, _⟩, h2⟩ := h
  unfold without
  rw [List.filter_append, List.filter_cons, if_neg (by simp)]
  have ea : a.filter (fun p => p.1 != x.1) = a := List.filter_eq_self.2 fun p hp => by have := h2 p hp x (List.mem_cons_self ..); simpa using this
  have eb : b.filter (fun p => p.1 != x.1) = b := List.filter_eq_self.2 fun p hp => by have := h1 p hp; simpa using this.symm
  rw [ea, eb]
theorem split_at {α : Type} (l : List α) (i : Nat) (h : i < l.length) : l = l.take i ++ l[i] :: l.drop (i + 1) := by
  rw [List.getElem_cons_drop, List.take_append_drop]
theorem set_split {α : Type} (l : List α) (i : Nat) (h : i < l.length) (x : α) : l.set i x = l.take i ++ x :: l.drop (i + 1) := by
  rw [List.set_eq_take_append_cons_drop, if_pos h]
theorem set_perm {es : List Ent} (hA : Apart es) (i : Nat) (hi : i < es.length) (till : Int) : ((es.set i ⟨es[i].blk, es[i].id, till⟩).map kv).Perm ((es[i].id, till) :: without (es.map kv) es[i].id) := by
  have e1 : without (es.map kv) es[i].id = (es.take i).map kv ++ (es.drop (i + 1)).map kv := by
    have hs := split_at es i hi
    have : es.map kv = (es.take i).map kv ++ kv es[i] :: (es.drop (i + 1)).map kv := by
      conv => lhs; rw [hs]
      rw [List.map_append, List.map_cons]
    have hK := apart_kv hA
    rw [this] at hK ⊢
    exact without_split hK
  rw [e1, set_split es i hi, List.map_append, List.map_cons]
  exact List.perm_middle
/-- An entry away. -/
theorem away_perm {es es' : List Ent} {e : Ent} (hA : Apart es) (hp : (es' ++ [e]).Perm es) : (es'.map kv).Perm (without (es.map kv) e.id) := by
  have h1 : Apart (es' ++ [e]) := hA.perm hp
  have h2 : without ((es' ++ [e]).map kv) e.id = es'.map kv := by
    rw [List.map_append, List.map_cons, List.map_nil]
    have := without_split (a := es'.map kv) (b := []) (x := kv e) (by have := apart_kv h1; rwa [List.map_append, List.map_cons, List.map_nil] at this)
    rw [List.append_nil] at this
    exact this
  rw [← h2]
  exact (hp.map kv).filter _
end Go.Proofs.Ytnnebkmjeigflaa.L
