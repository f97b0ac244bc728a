/- Proofs of a win: the plain law, the prover in memory, what the document says of certs. -/
import Derived.Maps.RangeWalk
import Derived.Maps.OwnSet
import Derived.DeepKeys4
import Derived.Test.YtdfegpohmaideaaGreatBase
import Derived.Test.YtdfegpohmaideaaGreatMgTop
import Derived.OwnWalk
import Derived.Test.YtdfegpohmaideaaGreatMadePlain
import Derived.WideKeyEntry
import Derived.Test.YtdfegpohmaideaaGreatRuPiece
import Derived.Test.YtdfegpohmaideaaGreatBoardCheck
import Derived.BigRegion
import Derived.Deep.RegionHeld
import Derived.Deep.CutRange
/- Maps that a call makes, as lists of keys and values; ranging over one. -/
namespace Go.Proofs.YtdfegpohmaideaaGreat
open Go.RowKit Go.WideMaps Go.Maps
open Go.MapKept (Stamped stamped_empty stamped_push stamped_modify heap_alloc)
open Go.ChangeMaps (setBlock modify_eq_set)

/-- a list read as a map -/
def getK {α β : Type} [DecidableEq α] (m : List (α × β)) (a : α) : Option β := (m.find? fun x => decide (x.1 = a)).map (·.2)
def hasK {α β : Type} [DecidableEq α] (m : List (α × β)) (a : α) : Bool := m.any fun x => decide (x.1 = a)
def putK {α β : Type} [DecidableEq α] (m : List (α × β)) (a : α) (v : β) : List (α × β) := if hasK m a then m.map (fun x => if x.1 = a then (a, v) else x) else m ++ [(a, v)]
section
variable {α β : Type} [DecidableEq α]
theorem getK_nil (a : α) : getK ([] : List (α × β)) a = none := rfl
theorem getK_cons (x : α × β) (m : List (α × β)) (a : α) : getK (x :: m) a = if x.1 = a then some x.2 else getK m a := by
  unfold getK
  by_cases h : x.1 = a <;> simp [h]
theorem getK_append (m n : List (α × β)) (a : α) : getK (m ++ n) a = (getK m a).or (getK n a) := by
  induction m with
  | nil => simp [getK_nil]
  | cons x m ih => rw [List.cons_append, getK_cons, getK_cons, ih]; split <;> simp
theorem getK_none {m : List (α × β)} {a : α} : getK m a = none ↔ ∀ x ∈ m, x.1 ≠ a := by
  unfold getK; simp
theorem hasK_iff {m : List (α × β)} {a : α} : hasK m a = true ↔ ∃ v, getK m a = some v := by
  unfold hasK
  rw [List.any_eq_true]
  constructor
  · rintro ⟨x, hx, hd⟩
    cases h : getK m a with
    | none => exact absurd (of_decide_eq_true hd) (getK_none.1 h x hx)
    | some v => exact ⟨v, rfl⟩
  · rintro ⟨v, h⟩
    obtain ⟨x, hx, hv⟩ := Option.map_eq_some_iff.1 h
    exact ⟨x, List.mem_of_find?_eq_some hx, List.find?_some (p := fun x : α × β => decide (x.1 = a)) hx⟩
theorem getK_mem {m : List (α × β)} {a : α} {v : β} (h : getK m a = some v) : (a, v) ∈ m := by
  obtain ⟨x, hx, hv⟩ := Option.map_eq_some_iff.1 h
  have h1 := List.mem_of_find?_eq_some hx
  have h2 : x.1 = a := of_decide_eq_true (List.find?_some (p := fun x : α × β => decide (x.1 = a)) hx)
  obtain ⟨x1, x2⟩ := x
  simp only at hv h2
  subst hv; subst h2
  exact h1
theorem getK_of_mem {m : List (α × β)} (hn : (m.map (·.1)).Nodup) {a : α} {v : β} (h : (a, v) ∈ m) : getK m a = some v := by
  induction m with
  | nil => simp at h
  | cons x m ih =>
    rw [List.map_cons, List.nodup_cons] at hn
    rw [getK_cons]
    rcases List.mem_cons.1 h with rfl | h'
    · simp
    · have hne : x.1 ≠ a := fun e => hn.1 (by rw [e]; exact List.mem_map.2 ⟨_, h', rfl⟩)
      rw [if_neg hne]
      exact ih hn.2 h'
theorem getK_map_same {m : List (α × β)} {a : α} {v : β} (h : hasK m a = true) : getK (m.map fun x => if x.1 = a then (a, v) else x) a = some v := by
  induction m with
  | nil => simp [hasK] at h
  | cons x m ih =>
    rw [List.map_cons, getK_cons]
    by_cases e : x.1 = a
    · simp [e]
    · have h2 : hasK m a = true := by simpa [hasK, e] using h
      simp only [if_neg e]
      exact ih h2
theorem getK_map_other {m : List (α × β)} {a b : α} {v : β} (hne : b ≠ a) : getK (m.map fun x => if x.1 = a then (a, v) else x) b = getK m b := by
  induction m with
  | nil => rfl
  | cons x m ih =>
    rw [List.map_cons, getK_cons, getK_cons, ih]
    by_cases e : x.1 = a
    · simp [e, Ne.symm hne]
    · simp only [if_neg e]
theorem getK_put_same (m : List (α × β)) (a : α) (v : β) : getK (putK m a v) a = some v := by
  unfold putK
  split
  · exact getK_map_same (by assumption)
  · rename_i h
    have : getK m a = none := by
      cases h2 : getK m a with
      | none => rfl
      | some u => exact absurd (hasK_iff.2 ⟨u, h2⟩) h
    rw [getK_append, this, getK_cons]; simp
theorem getK_put_other (m : List (α × β)) {a b : α} (v : β) (hne : b ≠ a) : getK (putK m a v) b = getK m b := by
  unfold putK
  split
  · exact getK_map_other hne
  · rw [getK_append, getK_cons, if_neg (by exact fun h => hne h.symm), getK_nil]; simp
theorem putK_keys_of_has {m : List (α × β)} {a : α} {v : β} (h : hasK m a = true) : (putK m a v).map (·.1) = m.map (·.1) := by
  unfold putK
  rw [if_pos h, List.map_map]
  refine List.map_congr_left (fun x _ => ?_)
  simp only [Function.comp]
  split
  · rename_i e; exact e.symm
  · rfl
theorem putK_of_not {m : List (α × β)} {a : α} {v : β} (h : ¬ hasK m a = true) : putK m a v = m ++ [(a, v)] := if_neg h
theorem putK_ok {ok : α → Prop} {m : List (α × β)} {a : α} {v : β} (h : ∀ x ∈ m, ok x.1) (ha : ok a) : ∀ x ∈ putK m a v, ok x.1 := by
  intro x hx
  unfold putK at hx
  split at hx
  · obtain ⟨y, hy, rfl⟩ := List.mem_map.1 hx
    split
    · exact ha
    · exact h y hy
  · rcases List.mem_append.1 hx with h1 | h1
    · exact h x h1
    · rw [List.mem_singleton.1 h1]; exact ha
end

theorem putK_set {α β : Type} [DecidableEq α] {m : List (α × β)} {a : α} {v : β} {j : Nat} {y : α × β} (hnd : (m.map (·.1)).Nodup) (hy : m[j]? = some y) (e3 : y.1 = a) : putK m a v = m.set j (a, v) := by
  have hh : hasK m a = true := hasK_iff.2 ⟨y.2, getK_of_mem hnd (by rw [← e3]; exact List.mem_of_getElem? hy)⟩
  unfold putK
  rw [if_pos hh]
  apply List.ext_getElem?
  intro i
  rw [List.getElem?_map, List.getElem?_set]
  by_cases hij : j = i
  · subst hij
    have hlt : j < m.length := (List.getElem?_eq_some_iff.1 hy).1
    rw [if_pos rfl, if_pos hlt, hy, Option.map_some, if_pos e3]
  · rw [if_neg hij]
    cases hmi : m[i]? with
    | none => rfl
    | some z =>
      simp only [Option.map_some]
      have : z.1 ≠ a := fun e5 => by
        have i1 : (m.map (·.1))[i]? = some a := by rw [List.getElem?_map, hmi]; simp [e5]
        have i2 : (m.map (·.1))[j]? = some a := by rw [List.getElem?_map, hy]; simp [e3]
        obtain ⟨l1, q1⟩ := List.getElem?_eq_some_iff.1 i1
        obtain ⟨l2, q2⟩ := List.getElem?_eq_some_iff.1 i2
        exact hij ((List.getElem_inj hnd).1 (q2.trans q1.symm))
      rw [if_neg this]
/-- how keys are written -/
structure KeyEnc {α : Type} (P : Program) (k : TypeId) (ka : α → Value) (ok : α → Prop) : Prop where
  keyed : Keyed P k
  key : ∀ a, ok a → ∃ l, keyOf P k (ka a) = some l
  inj : ∀ a b, ka a = ka b → a = b
/-- block b is a map that reads as m -/
def MapL {α β : Type} (ka : α → Value) (kb : β → Value) (ok : α → Prop) (w : World) (b : Nat) (m : List (α × β)) : Prop :=
  ∃ es clock, w.heap[b]? = some (.map es clock) ∧ es.toList.map (fun x => (x.key, x.val)) = m.map (fun x => (ka x.1, kb x.2)) ∧ Stamped es clock ∧ ∀ x ∈ m, ok x.1
section
variable {α β : Type} {P : Program} {k e t : TypeId} {ka : α → Value} {kb : β → Value} {ok : α → Prop} {w : World} {b : Nat} {m : List (α × β)}
theorem MapL.made (w : World) : MapL ka kb ok (w.alloc (.map #[] 0)) w.heap.size [] := ⟨#[], 0, (heap_alloc w _).1, rfl, stamped_empty 0, by simp⟩
theorem MapL.lt (h : MapL ka kb ok w b m) : b < w.heap.size := by
  obtain ⟨es, clock, hb, _⟩ := h
  exact (Array.getElem?_eq_some_iff.1 hb).1
theorem MapL.kept {w' : World} {row : Option Nat} (h : MapL ka kb ok w b m) (hg : w.grownBy w' row) (hne : some b ≠ row) : MapL ka kb ok w' b m := by
  have hlt := h.lt
  obtain ⟨es, clock, hb, rest⟩ := h
  exact ⟨es, clock, (hg.block b hlt hne).trans hb, rest⟩
theorem MapL.nodup (h : MapL ka kb ok w b m) : (m.map (·.1)).Nodup := by
  obtain ⟨es, clock, hb, he, hs, _⟩ := h
  have h3 := hs.2.2
  have e1 : es.toList.map (·.key) = (m.map (·.1)).map ka := by
    have := congrArg (List.map Prod.fst) he
    simpa [List.map_map, Function.comp_def] using this
  rw [e1] at h3
  exact List.Pairwise.of_map ka (fun a b h e => h (by rw [e])) h3
theorem MapL.keys (h : MapL ka kb ok w b m) (K : KeyEnc P k ka ok) : ∃ es clock, w.heap[b]? = some (.map es clock) ∧ es.toList.map (fun x => (x.key, x.val)) = m.map (fun x => (ka x.1, kb x.2)) ∧ Stamped es clock ∧ (∀ x ∈ m, ok x.1) ∧ ∀ x ∈ es.toList, ∃ l, keyOf P k x.key = some l := by
  obtain ⟨es, clock, hb, he, hs, ho⟩ := h
  refine ⟨es, clock, hb, he, hs, ho, fun x hx => ?_⟩
  have : (x.key, x.val) ∈ es.toList.map (fun x => (x.key, x.val)) := List.mem_map.2 ⟨x, hx, rfl⟩
  rw [he] at this
  obtain ⟨y, hy, e1⟩ := List.mem_map.1 this
  injection e1 with e1 _
  obtain ⟨l, hl⟩ := K.key y.1 (ho y hy)
  exact ⟨l, by rw [← e1]; exact hl⟩
theorem MapL.len (h : MapL ka kb ok w b m) (ht : P.underlying t = some (.map k e)) (ty : TypeId) : (Builtin.len_ #[t] ty #[.map (some b)]).run P w = .ok (.int .i64 m.length) w := by
  obtain ⟨es, clock, hb, he, _⟩ := h
  have e1 : es.size = m.length := by have := congrArg List.length he; simpa using this
  simp [Builtin.len_, run_underlying ht, Go.MapKept.run_getObj_map hb, goInt, Result.andThen, e1]
theorem heap_setBlock_eq {w : World} {b : Nat} {o o' : Obj} (h : w.heap[b]? = some o) : (setBlock w b o').heap[b]? = some o' := by
  have hlt := (Array.getElem?_eq_some_iff.1 h).1
  simp [setBlock, hlt]
theorem grown_setBlock {w : World} {b : Nat} (o' : Obj) : w.grownBy (setBlock w b o') (some b) := ⟨rfl, rfl, rfl, by simp [setBlock], fun i _ hi => by
  simp only [setBlock]
  exact Array.getElem?_setIfInBounds_ne (fun e => hi (by rw [e]))⟩
end
section
variable {α β : Type} [DecidableEq α] {P : Program} {k e t : TypeId} {ka : α → Value} {kb : β → Value} {ok : α → Prop} {w : World} {b : Nat} {m : List (α × β)}
theorem MapL.look (h : MapL ka kb ok w b m) (K : KeyEnc P k ka ok) (ht : P.underlying t = some (.map k e)) {z : Value} (hz : (zeroValue e).run P w = .ok z w) {a : α} (ha : ok a) (c : Bool) :
    (Instr.lookup t (.map (some b)) (ka a) c).run P w = .ok (if c then .tuple #[((getK m a).map kb).getD z, .bool (getK m a).isSome] else ((getK m a).map kb).getD z) w := by
  have hnd := h.nodup
  obtain ⟨es, clock, hb, he, hs, ho, hk⟩ := h.keys K
  obtain ⟨l, hkey⟩ := K.key a ha
  have hlen : es.toList.length = m.length := by have := congrArg List.length he; simpa using this
  rcases K.keyed.find w hkey es.toList hk with ⟨h1, h2⟩ | ⟨j, e0, h1, h2, h3⟩
  · have hn : getK m a = none := by
      rw [getK_none]
      intro x hx e1
      have : (ka x.1, kb x.2) ∈ es.toList.map (fun x => (x.key, x.val)) := by rw [he]; exact List.mem_map.2 ⟨x, hx, rfl⟩
      obtain ⟨y, hy, e2⟩ := List.mem_map.1 this
      injection e2 with e2 _
      exact h2 y hy (by rw [e2, e1])
    rw [hn]
    simp [Instr.lookup, run_underlying ht, Go.MapKept.run_getObj_map hb, K.keyed.check w _ hkey, h1, hz, Result.andThen]
  · have : (e0.key, e0.val) ∈ es.toList.map (fun x => (x.key, x.val)) := List.mem_map.2 ⟨e0, List.mem_of_getElem? h2, rfl⟩
    rw [he] at this
    obtain ⟨y, hy, e1⟩ := List.mem_map.1 this
    injection e1 with e1 e2
    have e3 : y.1 = a := K.inj _ _ (e1.trans h3)
    have hs2 : getK m a = some y.2 := getK_of_mem hnd (by rw [← e3]; exact hy)
    rw [hs2]
    simp [Instr.lookup, run_underlying ht, Go.MapKept.run_getObj_map hb, K.keyed.check w _ hkey, h1, Result.andThen, e2]
theorem MapL.put (h : MapL ka kb ok w b m) (K : KeyEnc P k ka ok) (ht : P.underlying t = some (.map k e)) {a : α} (ha : ok a) (v : β) :
    ∃ w', (Instr.mapUpdate t (.map (some b)) (ka a) (kb v)).run P w = .ok () w' ∧ MapL ka kb ok w' b (putK m a v) ∧ w.grownBy w' (some b) ∧ w'.heap.size = w.heap.size := by
  have hnd := h.nodup
  obtain ⟨es, clock, hb, he, hs, ho, hk⟩ := h.keys K
  obtain ⟨l, hkey⟩ := K.key a ha
  rcases K.keyed.find w hkey es.toList hk with ⟨h1, h2⟩ | ⟨j, e0, h1, h2, h3⟩
  · have hn : ¬ hasK m a = true := fun hh => by
      obtain ⟨u, hu⟩ := hasK_iff.1 hh
      have : (ka a, kb u) ∈ es.toList.map (fun x => (x.key, x.val)) := by rw [he]; exact List.mem_map.2 ⟨_, getK_mem hu, rfl⟩
      obtain ⟨y, hy, e2⟩ := List.mem_map.1 this
      injection e2 with e2 _
      exact h2 y hy e2
    refine ⟨setBlock w b (.map (es.push ⟨ka a, kb v, clock⟩) (clock + 1)), ?_, ⟨_, _, heap_setBlock_eq hb, ?_, stamped_push hs h2, putK_ok ho ha⟩, grown_setBlock _, by simp [setBlock]⟩
    · simp [Instr.mapUpdate, run_underlying ht, Go.MapKept.run_getObj_map hb, K.keyed.check w false hkey, h1, Go.MapKept.run_setObj_map _ hb, Result.andThen, setBlock]
    · rw [putK_of_not hn, Array.toList_push, List.map_append, List.map_append, he]
      rfl
  · have hj : es[j]? = some e0 := by simpa using h2
    have hkeyf : ∀ e' ∈ es.toList, es[j]? = some e' → ({ e' with key := ka a, val := kb v } : MapEntry).key = e'.key := fun e' _ he' => by rw [hj] at he'; cases he'; exact h3.symm
    have hlist : (es.modify j (fun e' => { e' with key := ka a, val := kb v })).toList = es.toList.set j { e0 with key := ka a, val := kb v } := by
      rw [Array.toList_modify, modify_eq_set _ _ _ _ h2]
    refine ⟨setBlock w b (.map (es.modify j (fun e' => { e' with key := ka a, val := kb v })) clock), ?_, ⟨_, _, heap_setBlock_eq hb, ?_, stamped_modify hs _ _ (fun _ _ => rfl) hkeyf, putK_ok ho ha⟩, grown_setBlock _, by simp [setBlock]⟩
    · simp [Instr.mapUpdate, run_underlying ht, Go.MapKept.run_getObj_map hb, K.keyed.check w false hkey, h1, hj, h3, K.keyed.stays w hkey, Go.MapKept.run_setObj_map _ hb, Result.andThen, setBlock]
    · have hm : (m.map (fun x => (ka x.1, kb x.2)))[j]? = some (e0.key, e0.val) := by rw [← he, List.getElem?_map, h2]; rfl
      rw [List.getElem?_map] at hm
      obtain ⟨y, hy, e1⟩ := Option.map_eq_some_iff.1 hm
      injection e1 with e1 e2
      have e3 : y.1 = a := K.inj _ _ (e1.trans h3)
      have e4 : putK m a v = m.set j (a, v) := putK_set hnd hy e3
      rw [hlist, e4, List.map_set, List.map_set, he]
end

/-- ranging over the map in block b, by the iterator in block r: what is left -/
def RangeL {α β : Type} (ka : α → Value) (kb : β → Value) (ok : α → Prop) (w : World) (b r : Nat) (m left : List (α × β)) : Prop :=
  ∃ es clock since seen c0, w.heap[b]? = some (.map es clock) ∧ es.toList.map (fun x => (x.key, x.val)) = m.map (fun x => (ka x.1, kb x.2)) ∧ Stamped es clock ∧ (∀ x ∈ m, ok x.1) ∧
    w.heap[r]? = some (.mapIter (some b) since seen c0) ∧ (∀ x ∈ es.toList, x.born < since) ∧ since ≤ c0 ∧ since ≤ clock ∧ (leftOf es seen).toList.map (fun x => (x.key, x.val)) = left.map (fun x => (ka x.1, kb x.2))
section
variable {α β : Type} {P : Program} {k e t : TypeId} {ka : α → Value} {kb : β → Value} {ok : α → Prop} {w : World} {b r : Nat} {m left : List (α × β)}
theorem RangeL.map (h : RangeL ka kb ok w b r m left) : MapL ka kb ok w b m := by
  obtain ⟨es, clock, since, seen, c0, h1, h2, h3, h4, _⟩ := h
  exact ⟨es, clock, h1, h2, h3, h4⟩
theorem RangeL.lt (h : RangeL ka kb ok w b r m left) : r < w.heap.size := by
  obtain ⟨es, clock, since, seen, c0, h1, h2, h3, h4, h5, _⟩ := h
  exact (Array.getElem?_eq_some_iff.1 h5).1
theorem RangeL.kept {w' : World} {row : Option Nat} (h : RangeL ka kb ok w b r m left) (hg : w.grownBy w' row) (hb' : some b ≠ row) (hr' : some r ≠ row) : RangeL ka kb ok w' b r m left := by
  have l1 := h.map.lt
  have l2 := h.lt
  obtain ⟨es, clock, since, seen, c0, h1, h2, h3, h4, h5, rest⟩ := h
  exact ⟨es, clock, since, seen, c0, (hg.block b l1 hb').trans h1, h2, h3, h4, (hg.block r l2 hr').trans h5, rest⟩
theorem MapL.range (h : MapL ka kb ok w b m) (ht : P.underlying t = some (.map k e)) :
    ∃ w', (Instr.range t (.map (some b))).run P w = .ok (.pointer (some ⟨w.heap.size, 0, none⟩)) w' ∧ RangeL ka kb ok w' b w.heap.size m m ∧ w.grownBy w' none ∧ w'.heap.size = w.heap.size + 1 := by
  have hlt := h.lt
  obtain ⟨es, clock, hb, he, hs, ho⟩ := h
  refine ⟨_, run_range_map w t k e b es clock ht hb, ⟨es, clock, clock, #[], clock, ((heap_alloc w _).2 b hlt).trans hb, he, hs, ho, (heap_alloc w _).1, hs.1, Nat.le_refl _, Nat.le_refl _, ?_⟩, World.grownBy_alloc w _ none, by simp⟩
  have e1 : (leftOf es #[]).toList = es.toList := by
    unfold leftOf
    rw [Array.toList_filter]
    exact List.filter_eq_self.2 (fun x _ => by simp)
  rw [e1]; exact he
theorem split_born : ∀ (L : List MapEntry) (x : MapEntry), (L.map (·.born)).Nodup → x ∈ L → ∃ l1 l2, L = l1 ++ x :: l2 ∧ L.filter (fun y => !(y.born == x.born)) = l1 ++ l2
  | [], x, _, h => by simp at h
  | y :: L, x, hn, h => by
    rw [List.map_cons, List.nodup_cons] at hn
    by_cases e : y = x
    · subst e
      refine ⟨[], L, rfl, ?_⟩
      rw [List.filter_cons_of_neg (by simp), List.nil_append]
      refine List.filter_eq_self.2 (fun z hz => ?_)
      have : z.born ≠ y.born := fun e2 => hn.1 (by rw [← e2]; exact List.mem_map.2 ⟨z, hz, rfl⟩)
      simpa using this
    · have hx : x ∈ L := by
        rcases List.mem_cons.1 h with h1 | h1
        · exact absurd h1.symm e
        · exact h1
      obtain ⟨l1, l2, e1, e2⟩ := split_born L x hn.2 hx
      have hne : y.born ≠ x.born := fun e3 => hn.1 (by rw [e3]; exact List.mem_map.2 ⟨x, hx, rfl⟩)
      refine ⟨y :: l1, l2, by rw [e1]; rfl, ?_⟩
      rw [List.filter_cons_of_pos (by simpa using hne), e2]
      rfl
theorem map_split {γ δ ε : Type} {f : γ → ε} {g : δ → ε} : ∀ (l1 : List γ) (x : γ) (l2 : List γ) (m : List δ), (l1 ++ x :: l2).map f = m.map g → ∃ m1 y m2, m = m1 ++ y :: m2 ∧ f x = g y ∧ (l1 ++ l2).map f = (m1 ++ m2).map g
  | [], x, l2, m, h => by
    cases m with
    | nil => simp at h
    | cons y m =>
      simp only [List.nil_append, List.map_cons, List.cons.injEq] at h
      exact ⟨[], y, m, rfl, h.1, by simpa using h.2⟩
  | z :: l1, x, l2, m, h => by
    cases m with
    | nil => simp at h
    | cons y m =>
      simp only [List.cons_append, List.map_cons, List.cons.injEq] at h
      obtain ⟨m1, u, m2, e1, e2, e3⟩ := map_split l1 x l2 m h.2
      exact ⟨y :: m1, u, m2, by rw [e1]; rfl, e2, by simp only [List.cons_append, List.map_cons, h.1, e3]⟩
theorem RangeL.next (h : RangeL ka kb ok w b r m left) (ty : TypeId) :
    (left = [] ∧ (Instr.next (.pointer (some ⟨r, 0, none⟩)) false ty).run P w = .ok (.tuple #[.bool false]) w) ∨
    ∃ l1 x l2 w', left = l1 ++ x :: l2 ∧ (Instr.next (.pointer (some ⟨r, 0, none⟩)) false ty).run P w = .ok (.tuple #[.bool true, ka x.1, kb x.2]) w' ∧ RangeL ka kb ok w' b r m (l1 ++ l2) ∧ w.grownBy w' (some r) ∧ w'.heap.size = w.heap.size ∧
      (Instr.entry (.pointer (some ⟨r, 0, none⟩))).run P w' = .ok (.tuple #[ka x.1, kb x.2]) w' := by
  obtain ⟨es, clock, since, seen, c0, hb, he, hs, ho, hr, hold, hsc, hsk, hleft⟩ := h
  have hne : r ≠ b := fun e1 => by rw [e1, hb] at hr; cases hr
  rcases run_next_at (P := P) w ty r b since c0 seen es clock hr hb hold hsc with ⟨h0, hrun⟩ | ⟨x, hx, w1, hal, hrun⟩
  · refine Or.inl ⟨?_, hrun⟩
    have h1 : (leftOf es seen).toList = [] := by
      have : (leftOf es seen).toList.length = 0 := by simpa using h0
      exact List.length_eq_zero_iff.1 this
    rw [h1] at hleft
    cases left with
    | nil => rfl
    | cons y l => simp at hleft
  · have hbn : ((leftOf es seen).toList.map (·.born)).Nodup := by
      unfold leftOf
      rw [Array.toList_filter]
      exact (List.filter_sublist.map _).nodup hs.2.1
    obtain ⟨l1, l2, e1, e2⟩ := split_born _ x hbn hx
    rw [e1] at hleft
    obtain ⟨m1, y, m2, e3, e4, e5⟩ := map_split l1 x l2 left hleft
    injection e4 with e4 e6
    have hxe : x ∈ es.toList := by
      unfold leftOf at hx
      rw [Array.toList_filter] at hx
      exact (List.mem_filter.1 hx).1
    have hr1 : w1.heap[r]? = some (.mapIter (some b) since seen c0) := by rcases hal with rfl | rfl <;> exact hr
    have hb1 : w1.heap[b]? = some (.map es clock) := by rcases hal with rfl | rfl <;> exact hb
    have hb' : (setBlock w1 r (.mapIter (some b) since (seen.push x.born) clock)).heap[b]? = some (.map es clock) := ((grown_setBlock (w := w1) (b := r) _).block b (Array.getElem?_eq_some_iff.1 hb1).1 (fun e => hne (Option.some.inj e).symm)).trans hb1
    have hl2 : (leftOf es (seen.push x.born)).toList = l1 ++ l2 := by
      rw [← e2]
      unfold leftOf
      rw [Array.toList_filter, Array.toList_filter, List.filter_filter]
      refine List.filter_congr (fun z _ => ?_)
      rw [Array.contains_push]
      simp [Bool.and_comm]
    refine Or.inr ⟨m1, y, m2, setBlock w1 r (.mapIter (some b) since (seen.push x.born) clock), e3, ?_, ⟨es, clock, since, seen.push x.born, clock, hb', he, hs, ho, heap_setBlock_eq hr1, hold, hsk, hsk, by rw [hl2]; exact e5⟩, ?_, ?_, ?_⟩
    · rw [← e4, ← e6]; exact hrun
    · have h1 := grown_setBlock (w := w1) (b := r) (.mapIter (some b) since (seen.push x.born) clock)
      rcases hal with rfl | rfl
      · exact h1
      · exact ⟨h1.os, rfl, h1.output, h1.size, h1.block⟩
    · rcases hal with rfl | rfl <;> simp [setBlock]
    · rw [← e4, ← e6]
      exact run_entry_at _ r b since seen es clock x (heap_setBlock_eq hr1) hb' hxe hs.2.1
end
end Go.Proofs.YtdfegpohmaideaaGreat
/- moves.Next: the positions behind the moves -/
namespace Go.Proofs.YtdfegpohmaideaaGreat
open Go.RowKit

def cellsQ (l : List Pos) : List Value := l.flatMap posC
theorem cellsQ_app (a b : List Pos) : cellsQ (a ++ b) = cellsQ a ++ cellsQ b := by simp [cellsQ]
theorem cellsQ_len : ∀ l : List Pos, (cellsQ l).length = l.length * 6
  | [] => rfl
  | p :: l => by
    have : cellsQ (p :: l) = posC p ++ cellsQ l := rfl
    have h6 : (posC p).length = 6 := rfl
    rw [this, List.length_append, cellsQ_len l, h6, List.length_cons]
    omega
theorem info_pos : (Tryz.prog.info? 24).map (fun i => (i.zero, i.size, i.bytes)) = some (some (.agg #[.int .i64 0, .int .i64 0, .string ⟨#[]⟩, .int .i64 0, .string ⟨#[]⟩, .string ⟨#[]⟩]), 6, 72) := by kernel_rfl
theorem own_later {w w' : World} {base size n : Nat} {e : TypeId} {v : Value} {xs : List Value} (h : w.ownsRow base e size v n xs) (hw : Later w w') : w'.ownsRow base e size v n xs :=
  ownsRow_only (S := fun k => w.heap.size ≤ k) h (Only.of_below hw (fun _ _ hk => hk)) (fun g hg hk => by have := (h.lt g hg).2; omega)
theorem Later.trans' {S : Nat → Prop} {a b c : World} (h : Later a b) (ho : Only S b c) (hS : ∀ k, S k → a.heap.size ≤ k) : Later a c :=
  Below.trans h (ho.below_ (B := a.heap.size) hS h.size)
/-- the positions behind the moves -/
noncomputable def nextL (r : RulesD) (p : Pos) : List Pos := (movesL r p).map (madeP r p)
def NextOut (W : World) (r : RulesD) (p : Pos) (e : Ending) (w' : World) : Prop :=
  ∃ A1 c1 A2 c2, e = .returned (.tuple #[.int .i64 (endsN r p), .slice A1 (movesL r p).length c1, .slice A2 (movesL r p).length c2]) ∧ Cells w' w'.heap.size A1 (cellsM (movesL r p)) ∧ Cells w' w'.heap.size A2 (cellsQ (nextL r p)) ∧ Later W w'
set_option maxHeartbeats 4000000 in
set_option maxRecDepth 100000 in
theorem next_any (r : RulesD) (A : Option Addr) (cp : Nat) (p : Pos) (W : World) (hok : OfOk r p) (hP : PiecesAt W W.heap.size A r.pieces) :
    Calls Tryz.prog 44 #[.agg #[.int .i64 r.start.w, .int .i64 r.start.h, .string r.start.cells, .int .i64 r.start.turn, .string r.start.h0, .string r.start.h1, .slice A r.pieces.length cp, .bool r.drops, .int .u8 r.lose, .int .i64 r.line, .int .u8 r.reach, .bool r.stuck, .int .i64 r.plies], .agg #[.int .i64 p.w, .int .i64 p.h, .string p.cells, .int .i64 p.turn, .string p.h0, .string p.h1]] W (NextOut W r p) := by
  have Hbr := hide ((Blk.new W 27 #[.int .i64 r.start.w, .int .i64 r.start.h, .string r.start.cells, .int .i64 r.start.turn, .string r.start.h0, .string r.start.h1, .slice A r.pieces.length cp, .bool r.drops, .int .u8 r.lose, .int .i64 r.line, .int .u8 r.reach, .bool r.stuck, .int .i64 r.plies]).alloc (.cells #[.int .i64 p.w, .int .i64 p.h, .string p.cells, .int .i64 p.turn, .string p.h0, .string p.h1] 24))
  have hbp := (Blk.new (W.alloc (.cells #[.int .i64 r.start.w, .int .i64 r.start.h, .string r.start.cells, .int .i64 r.start.turn, .string r.start.h0, .string r.start.h1, .slice A r.pieces.length cp, .bool r.drops, .int .u8 r.lose, .int .i64 r.line, .int .u8 r.reach, .bool r.stuck, .int .i64 r.plies] 27)) 24 #[.int .i64 p.w, .int .i64 p.h, .string p.cells, .int .i64 p.turn, .string p.h0, .string p.h1])
  rw [World.size_alloc] at hbp
  have Hbp := hide hbp
  have Hw := hide (show Later W ((W.alloc (.cells #[.int .i64 r.start.w, .int .i64 r.start.h, .string r.start.cells, .int .i64 r.start.turn, .string r.start.h0, .string r.start.h1, .slice A r.pieces.length cp, .bool r.drops, .int .u8 r.lose, .int .i64 r.line, .int .u8 r.reach, .bool r.stuck, .int .i64 r.plies] 27)).alloc (.cells #[.int .i64 p.w, .int .i64 p.h, .string p.cells, .int .i64 p.turn, .string p.h0, .string p.h1] 24)) from (Later.rfl.alloc _).alloc _)
  have Hou := hide (fun w (hw : Later W w) => outcome_any r A cp p w ((hok.pre hP).on hw))
  have Hap := hide (fun m q w (hm : m ∈ movesL r p) (hq : madeP r p m = q) => apply_any r A cp p m q w hok (moves_every hm) hq)
  have hlen := movesL_len (r := r) hok.pos
  obtain ⟨i0, hi, hz0, hz1, hz2⟩ := info_parts info_pos
  have Hi := hide hi
  have Hz0 := hide hz0
  have Hz1 := hide hz1
  have Hz2 := hide hz2
  have HNO := hide (show ∀ w' A1 c1 A2 c2, Cells w' w'.heap.size A1 (cellsM (movesL r p)) → Cells w' w'.heap.size A2 (cellsQ ((movesL r p).map (madeP r p))) → Later W w' → NextOut W r p (.returned (.tuple #[.int .i64 (endsN r p), .slice A1 (movesL r p).length c1, .slice A2 (movesL r p).length c2])) w' from fun w' A1 c1 A2 c2 h1 h2 h3 => ⟨A1, c1, A2, c2, rfl, h1, h2, h3⟩)
  obtain ⟨L, hL⟩ : ∃ L, movesL r p = L := ⟨_, rfl⟩
  rw [hL] at hlen Hap HNO
  have HL := hide hL
  clear hi hz0 hz1 hz2 hok hP hbp hL
  go_enter Tryz.func44, Tryz.ntmps44
  obtain ⟨x0, x1, x2, x3, x4, x5, x6, x7, x8, x9, x10, x11, x12⟩ := Hbr.out.rules
  obtain ⟨p0, p1, p2, p3, p4, p5⟩ := Hbp.out.pos6
  go_upto_region 1 with (fail)
  go_upto_region 2 with (go_at_call 28; refine (Hou.out _ Hw.out).mono ?_; rintro e w3 ⟨A1, c1, rfl, h1, h2, h3, h4⟩)
  have Hbr3 := hide (h4.blk Hbr.out)
  have Hbp3 := hide (h4.blk Hbp.out)
  have Hw3 := hide (Hw.out.trans h4)
  have Hc3 := hide (show Cells w3 w3.heap.size A1 (cellsM L) from HL.out ▸ h2)
  clear h1 h2 h3 h4 Hbr Hbp Hw x0 x1 x2 x3 x4 x5 x6 x7 x8 x9 x10 x11 x12 p0 p1 p2 p3 p4 p5 Hou
  rw [HL.out]
  go_wp2_with fail
  have Hnil := hide (World.ownsRow_nil w3 w3.heap.size 24 6)
  go_loopw [9, 20] (fun nv kv wr => ∃ k : Nat, k ≤ L.length ∧ kv = .int .i64 (k : Int) ∧ wr.ownsRow w3.heap.size 24 6 nv k (cellsQ ((L.map (madeP r p)).take k)) ∧ Later w3 wr) (fun _ kv _ => L.length - (intOf kv).toNat)
  case atStart => exact ⟨0, by omega, rfl, by rw [List.take_zero]; exact Hnil.out, Later.rfl⟩
  case round =>
    rename World => wr
    obtain ⟨k, hk, rfl, hown, hwr⟩ := hrel
    have Hown := hide hown
    have Hwr := hide hwr
    clear hown hwr Hnil
    by_cases hlt : k < L.length
    · have hcc := Hc3.out.below Hwr.out
      obtain ⟨b, off, rfl, hb, y0, y1, y2⟩ := mv_at hcc hlt
      have Hap2 := hide (fun w => Hap.out L[k] (madeP r p L[k]) w (List.getElem_mem hlt) rfl)
      have Htk := hide (show cellsQ ((L.map (madeP r p)).take (k + 1)) = cellsQ ((L.map (madeP r p)).take k) ++ posC (madeP r p L[k]) by
        rw [List.take_succ_eq_append_getElem (by simpa using hlt), cellsQ_app, List.getElem_map]
        simp [cellsQ])
      obtain ⟨m, hm⟩ : ∃ m, L[k] = m := ⟨_, rfl⟩
      rw [hm] at y0 y1 y2
      simp only [hm] at Hap2 Htk
      obtain ⟨q, hq⟩ : ∃ q, madeP r p m = q := ⟨_, rfl⟩
      rw [hq] at Hap2 Htk
      clear hm hq hcc
      go_upto_region 6 with (fail)
      have Hm4 := hide (Blk.new wr 29 #[.int .i64 m.f, .int .i64 m.t, .int .u8 m.c])
      have Hw4 := hide (show Later w3 (wr.alloc (.cells #[.int .i64 m.f, .int .i64 m.t, .int .u8 m.c] 29)) from Hwr.out.alloc _)
      have Hown4 := hide (World.ownsRow.alloc Hown.out (.cells #[.int .i64 m.f, .int .i64 m.t, .int .u8 m.c] 29))
      obtain ⟨w4, hw4⟩ : ∃ w4, wr.alloc (.cells #[.int .i64 m.f, .int .i64 m.t, .int .u8 m.c] 29) = w4 := ⟨_, rfl⟩
      obtain ⟨gm, hgm⟩ : ∃ gm, wr.heap.size = gm := ⟨_, rfl⟩
      rw [hw4] at Hm4 Hw4 Hown4 ⊢
      rw [hgm] at Hm4 ⊢
      clear hw4 hgm Hown Hwr y0 y1 y2
      obtain ⟨x0, x1, x2, x3, x4, x5, x6, x7, x8, x9, x10, x11, x12⟩ := (Hw4.out.blk Hbr3.out).rules
      obtain ⟨p0, p1, p2, p3, p4, p5⟩ := (Hw4.out.blk Hbp3.out).pos6
      obtain ⟨⟨m0, m1, m2⟩, -⟩ := Hm4.out.mv
      go_wp2_with (first
        | (go_at_call 30; refine (Hap2.out _).mono ?_; rintro e w5 ⟨rfl, hw5⟩; have Hw5 := hide (Hw4.out.trans hw5); have Hown5 := hide (own_later Hown4.out hw5); have Hle5 := hide Hw5.out.size; clear hw5 Hw4 Hown4 Hm4 x0 x1 x2 x3 x4 x5 x6 x7 x8 x9 x10 x11 x12 p0 p1 p2 p3 p4 p5 m0 m1 m2)
        | (at_builtin; refine wpList_appendK _ rfl (.tmp 24) (.tmp 29) 84 rfl w3.heap.size 24 i0 (.agg #[.int .i64 0, .int .i64 0, .string ⟨#[]⟩, .int .i64 0, .string ⟨#[]⟩, .string ⟨#[]⟩]) 6 72 Tryz.underlying84 Hi.out Hz0.out Hz1.out Hz2.out rfl (by decide) u9 k (cellsQ ((L.map (madeP r p)).take k)) rfl (World.ownsRow.alloc Hown5.out _) [.int .i64 q.w, .int .i64 q.h, .string q.cells, .int .i64 q.turn, .string q.h0, .string q.h1] rfl w5.heap.size 24 rfl (Blk.new w5 _ _) ?h1 ?h2 ?h3 ?h4 ?_))
      case h1 => simp [Value.oneCell']
      case h2 => unfold maxLen; omega
      case h3 => omega
      case h4 => exact Nat.le_trans Hle5.out (by simp)
      intro v' w6 hown6 hO hwh
      have Hown6 := hide (show w6.ownsRow w3.heap.size 24 6 v' (k + 1) (cellsQ ((L.map (madeP r p)).take (k + 1))) by rw [Htk.out]; exact hown6)
      have Hw6 := hide (show Later w3 w6 from (Hw5.out.alloc (.cells #[.int .i64 q.w, .int .i64 q.h, .string q.cells, .int .i64 q.turn, .string q.h0, .string q.h1] 24)).trans' hO (fun g hg => (Hown5.out.lt g hg).1))
      clear hown6 hO hwh
      go_wp2_with fail
      go_roundw
      case rel => exact ⟨k + 1, by omega, by go_num, Hown6.out, Hw6.out⟩
      case measure => simp [intOf]; omega
    · obtain rfl : k = L.length := by omega
      have Hc4 := hide ((Hc3.out.below Hwr.out).more Hwr.out.size)
      have hown := Hown.out
      rw [List.take_of_length_le (by simp)] at hown
      obtain ⟨A2, c2, rfl, -, -, hc⟩ := Cells.of_ownK hown
      have Hc := hide hc
      have Hw4 := hide (Hw3.out.trans Hwr.out)
      clear hown hc
      go_wp2_with fail
      go_ret3
      exact HNO.out _ _ _ _ _ Hc4.out Hc.out Hw4.out
end Go.Proofs.YtdfegpohmaideaaGreat
/- Counting the ways to move, plainly. -/
namespace Go.Proofs.YtdfegpohmaideaaGreat
open Go.RowKit

instance : DecidableEq Pos := fun a b =>
  if h : a.w = b.w ∧ a.h = b.h ∧ a.cells = b.cells ∧ a.turn = b.turn ∧ a.h0 = b.h0 ∧ a.h1 = b.h1 then isTrue (by
    obtain ⟨a0, a1, a2, a3, a4, a5⟩ := a
    obtain ⟨b0, b1, b2, b3, b4, b5⟩ := b
    simp only at h
    obtain ⟨rfl, rfl, rfl, rfl, rfl, rfl⟩ := h
    rfl) else isFalse (fun e => h (by rw [e]; exact ⟨rfl, rfl, rfl, rfl, rfl, rfl⟩))

/-- the weight of a map's entries -/
def wsum (m : List (Pos × Nat)) (f : Pos → Nat) : Nat := (m.map fun x => x.2 * f x.1).sum
def lsum (l : List Pos) (f : Pos → Nat) : Nat := (l.map f).sum
theorem wsum_nil (f : Pos → Nat) : wsum [] f = 0 := rfl
theorem wsum_cons (x : Pos × Nat) (m : List (Pos × Nat)) (f : Pos → Nat) : wsum (x :: m) f = x.2 * f x.1 + wsum m f := by simp [wsum]
theorem wsum_append (m n : List (Pos × Nat)) (f : Pos → Nat) : wsum (m ++ n) f = wsum m f + wsum n f := by simp [wsum]
theorem lsum_nil (f : Pos → Nat) : lsum [] f = 0 := rfl
theorem lsum_snoc (l : List Pos) (x : Pos) (f : Pos → Nat) : lsum (l ++ [x]) f = lsum l f + f x := by simp [lsum]
theorem lsum_one : ∀ l : List Pos, lsum l (fun _ => 1) = l.length
  | [] => rfl
  | x :: l => by
    have := lsum_one l
    unfold lsum at this ⊢
    rw [List.map_cons, List.sum_cons, this, List.length_cons]
    omega
theorem wsum_perm {m n : List (Pos × Nat)} (h : m.Perm n) (f : Pos → Nat) : wsum m f = wsum n f := (h.map _).sum_nat
theorem wsum_put {m : List (Pos × Nat)} (hn : (m.map (·.1)).Nodup) (x : Pos) (k : Nat) (f : Pos → Nat) : wsum (putK m x ((getK m x).getD 0 + k)) f = wsum m f + k * f x := by
  by_cases h : hasK m x = true
  · unfold putK
    rw [if_pos h]
    obtain ⟨v, hv⟩ := hasK_iff.1 h
    rw [hv, Option.getD_some]
    clear h
    induction m with
    | nil => simp [getK_nil] at hv
    | cons y m ih =>
      rw [List.map_cons, List.nodup_cons] at hn
      rw [getK_cons] at hv
      rw [List.map_cons, wsum_cons, wsum_cons]
      by_cases e : y.1 = x
      · rw [if_pos e] at hv
        injection hv with hv
        simp only [if_pos e]
        have : m.map (fun z => if z.1 = x then (x, v + k) else z) = m := by
          have : m.map (fun z => if z.1 = x then (x, v + k) else z) = m.map id := List.map_congr_left (fun z hz => by
            have : z.1 ≠ x := fun e2 => hn.1 (by rw [e, ← e2]; exact List.mem_map.2 ⟨z, hz, rfl⟩)
            rw [if_neg this]; rfl)
          rw [this, List.map_id]
        rw [this, hv, e, Nat.add_mul]
        omega
      · rw [if_neg e] at hv
        simp only [if_neg e]
        rw [ih hn.2 hv]
        omega
  · have h2 : getK m x = none := by
      cases h2 : getK m x with
      | none => rfl
      | some u => exact absurd (hasK_iff.2 ⟨u, h2⟩) h
    rw [putK_of_not h, h2, wsum_append, wsum_cons, wsum_nil]
    simp
theorem wsum_le {m : List (Pos × Nat)} {f : Pos → Nat} {c : Nat} (h : ∀ x ∈ m, f x.1 ≤ c) : wsum m f ≤ wsum m (fun _ => 1) * c := by
  induction m with
  | nil => simp [wsum_nil]
  | cons x m ih =>
    rw [wsum_cons, wsum_cons, Nat.add_mul, Nat.mul_one]
    have h1 := Nat.mul_le_mul_left x.2 (h x (by simp))
    have h2 := ih (fun y hy => h y (by simp [hy]))
    omega
theorem wsum_mem {m : List (Pos × Nat)} {x : Pos × Nat} (h : x ∈ m) : x.2 ≤ wsum m (fun _ => 1) := by
  induction m with
  | nil => simp at h
  | cons y m ih =>
    rw [wsum_cons, Nat.mul_one]
    rcases List.mem_cons.1 h with rfl | h'
    · omega
    · have := ih h'; omega
/-- the weight of all ends of so many moves -/
noncomputable def levN (r : RulesD) : Nat → (Pos → Nat) → Pos → Nat
  | 0, f, p => f p
  | d + 1, f, p => levN r d (fun q => lsum (nextL r q) f) p
theorem levN_in (r : RulesD) : ∀ (d : Nat) (f : Pos → Nat) (p : Pos), levN r (d + 1) f p = lsum (nextL r p) (levN r d f)
  | 0, _, _ => rfl
  | d + 1, f, p => by
    have h : levN r (d + 1 + 1) f p = levN r (d + 1) (fun q => lsum (nextL r q) f) p := rfl
    rw [h, levN_in r d]
    rfl
/-- how many ways -/
noncomputable def waysN (r : RulesD) (d : Nat) (p : Pos) : Nat := levN r d (fun _ => 1) p
theorem waysN_zero (r : RulesD) (p : Pos) : waysN r 0 p = 1 := rfl
theorem waysN_one (r : RulesD) (p : Pos) : waysN r 1 p = (movesL r p).length := by
  show lsum (nextL r p) (fun _ => 1) = _
  unfold lsum nextL
  rw [List.map_map]
  have : ∀ l : List Mv, (l.map ((fun _ => 1) ∘ madeP r p)).sum = l.length := fun l => by
    induction l with
    | nil => rfl
    | cons x l ih => rw [List.map_cons, List.sum_cons, ih, List.length_cons]; simp only [Function.comp]; omega
  exact this _
theorem waysN_succ (r : RulesD) (d : Nat) (p : Pos) : waysN r (d + 1) p = lsum (nextL r p) (waysN r d) := levN_in r d _ p
open Classical in
/-- what Count answers -/
noncomputable def countA (r : RulesD) (p : Pos) (d : Nat) : Nat × Int := if ∃ j, j ≤ d ∧ 100000 < waysN r j p then (0, 2) else (waysN r d p, 0)
theorem countA_large {r : RulesD} {p : Pos} {d j : Nat} (hj : j ≤ d) (h : 100000 < waysN r j p) : countA r p d = (0, 2) := by
  unfold countA; rw [if_pos ⟨j, hj, h⟩]
theorem countA_ok {r : RulesD} {p : Pos} {d : Nat} (h : ∀ j, j ≤ d → waysN r j p ≤ 100000) : countA r p d = (waysN r d p, 0) := by
  unfold countA; rw [if_neg]
  rintro ⟨j, hj, h2⟩
  have := h j hj
  omega
theorem next_ok {r : RulesD} {q : Pos} (h : OfOk r q) : ∀ x ∈ nextL r q, OfOk r x := by
  intro x hx
  obtain ⟨m, hm, rfl⟩ := List.mem_map.1 hx
  exact (every_made h (moves_every hm)).2
end Go.Proofs.YtdfegpohmaideaaGreat
/- Proofs of a win, plainly: who wins within so many moves; what a cert shows. -/
namespace Go.Proofs.YtdfegpohmaideaaGreat

/-- does a player win within so many moves? -/
noncomputable def winsN (r : RulesD) (wn : Int) : Nat → Pos → Bool
  | 0, p => decide (endsN r p = wn + 1)
  | d + 1, p => if endsN r p = 0 then (if p.turn = wn then (nextL r p).any (winsN r wn d) else (nextL r p).all (winsN r wn d)) else decide (endsN r p = wn + 1)
theorem winsN_zero {r : RulesD} {wn : Int} {p : Pos} : winsN r wn 0 p = decide (endsN r p = wn + 1) := rfl
theorem winsN_done {r : RulesD} {wn : Int} {d : Nat} {p : Pos} (h : endsN r p ≠ 0) : winsN r wn d p = decide (endsN r p = wn + 1) := by
  cases d with
  | zero => rfl
  | succ d => unfold winsN; rw [if_neg h]
theorem winsN_own {r : RulesD} {wn : Int} {d : Nat} {p : Pos} (h : endsN r p = 0) (ht : p.turn = wn) : winsN r wn (d + 1) p = (nextL r p).any (winsN r wn d) := by
  unfold winsN; rw [if_pos h, if_pos ht]
theorem winsN_other {r : RulesD} {wn : Int} {d : Nat} {p : Pos} (h : endsN r p = 0) (ht : p.turn ≠ wn) : winsN r wn (d + 1) p = (nextL r p).all (winsN r wn d) := by
  unfold winsN; rw [if_pos h, if_neg ht]
theorem wins_hit {r : RulesD} {wn : Int} {d : Nat} {p : Pos} (h : endsN r p = 0) {tb : Bool} (htb : decide (p.turn = wn) = tb) {q : Pos} (hq : q ∈ nextL r p) (hv : winsN r wn d q = tb) : winsN r wn (d + 1) p = tb := by
  cases tb
  · rw [winsN_other h (of_decide_eq_false htb)]
    cases hc : (nextL r p).all (winsN r wn d) with
    | false => rfl
    | true => rw [List.all_eq_true.1 hc q hq] at hv; exact hv
  · rw [winsN_own h (of_decide_eq_true htb), List.any_eq_true]
    exact ⟨q, hq, hv⟩
theorem wins_miss {r : RulesD} {wn : Int} {d : Nat} {p : Pos} (h : endsN r p = 0) {tb : Bool} (htb : decide (p.turn = wn) = tb) (hall : ∀ q ∈ nextL r p, winsN r wn d q ≠ tb) : winsN r wn (d + 1) p = !tb := by
  cases tb
  · rw [winsN_other h (of_decide_eq_false htb)]
    refine List.all_eq_true.2 (fun q hq => ?_)
    have := hall q hq
    revert this
    cases winsN r wn d q <;> simp
  · rw [winsN_own h (of_decide_eq_true htb)]
    cases hc : (nextL r p).any (winsN r wn d) with
    | false => rfl
    | true =>
      obtain ⟨q, hq, hv⟩ := List.any_eq_true.1 hc
      exact absurd hv (hall q hq)
/-- a cert -/
inductive CertD where
  | mk (s : Bool) (m : Mv) (kids : List CertD)
def CertD.s : CertD → Bool | .mk s _ _ => s
def CertD.m : CertD → Mv | .mk _ m _ => m
def CertD.kids : CertD → List CertD | .mk _ _ k => k
def noCert : CertD := .mk false ⟨0, 0, 0⟩ []
/-- neither told nor a move -/
def CertD.none (c : CertD) : Prop := c.s = false ∧ c.m = ⟨0, 0, 0⟩
/-- does a cert show that a player wins within so many moves? -/
def ShowsN (r : RulesD) (wn : Int) : Nat → Pos → CertD → Prop
  | 0, p, c => endsN r p = wn + 1 ∧ c.none ∧ c.kids.length = 0
  | d + 1, p, c =>
    (endsN r p ≠ 0 ∧ endsN r p = wn + 1 ∧ c.none ∧ c.kids.length = 0) ∨
    (endsN r p = 0 ∧ p.turn = wn ∧ c.s = true ∧ c.m ∈ movesL r p ∧ ∃ k, c.kids = [k] ∧ ShowsN r wn d (madeP r p c.m) k) ∨
    (endsN r p = 0 ∧ p.turn ≠ wn ∧ c.none ∧ c.kids.length = (nextL r p).length ∧ ∀ (i : Nat) (h : i < (nextL r p).length) (k : CertD), c.kids[i]? = some k → ShowsN r wn d ((nextL r p)[i]) k)
/-- what shows is so -/
theorem shows_wins (r : RulesD) (wn : Int) : ∀ (d : Nat) (p : Pos) (c : CertD), ShowsN r wn d p c → winsN r wn d p = true
  | 0, p, c, h => decide_eq_true h.1
  | d + 1, p, c, h => by
    unfold ShowsN at h
    rcases h with ⟨h0, h1, _⟩ | ⟨h0, h1, _, h3, k, _, h5⟩ | ⟨h0, h1, _, h3, h4⟩
    · rw [winsN_done h0]; exact decide_eq_true h1
    · rw [winsN_own h0 h1, List.any_eq_true]
      exact ⟨_, List.mem_map.2 ⟨_, h3, rfl⟩, shows_wins r wn d _ _ h5⟩
    · rw [winsN_other h0 h1, List.all_eq_true]
      intro q hq
      obtain ⟨i, hi, rfl⟩ := List.getElem_of_mem hq
      have hk : i < c.kids.length := by rw [h3]; exact hi
      exact shows_wins r wn d _ _ (h4 i hi c.kids[i] (List.getElem?_eq_getElem hk))
end Go.Proofs.YtdfegpohmaideaaGreat
/- Certs in memory. -/
namespace Go.Proofs.YtdfegpohmaideaaGreat
open Go.RowKit

/-- the five cells of a cert -/
def certC (c : CertD) (A : Option Addr) (cap : Nat) : Array Value := #[.bool c.s, .int .i64 c.m.f, .int .i64 c.m.t, .int .u8 (c.m.c : Int), .slice A c.kids.length cap]
/-- the kids of a cert lie from A on, so many steps deep; all ahead of block B -/
def CertAt (w : World) (B : Nat) : Nat → CertD → Option Addr → Prop
  | 0, _, _ => True
  | n + 1, c, A => ∀ k (h : k < c.kids.length), ∃ b off A' cap, A = some ⟨b, off, none⟩ ∧ b < B ∧ c.kids[k].kids.length ≤ cap ∧
      (w.cell? ⟨b, off + k * 5, none⟩ = some (.bool c.kids[k].s) ∧ w.cell? ⟨b, off + k * 5 + 1, none⟩ = some (.int .i64 c.kids[k].m.f) ∧ w.cell? ⟨b, off + k * 5 + 2, none⟩ = some (.int .i64 c.kids[k].m.t) ∧
        w.cell? ⟨b, off + k * 5 + 3, none⟩ = some (.int .u8 (c.kids[k].m.c : Int)) ∧ w.cell? ⟨b, off + k * 5 + 4, none⟩ = some (.slice A' c.kids[k].kids.length cap)) ∧ CertAt w B n c.kids[k] A'
theorem CertAt.below {w w' : World} {B : Nat} (hb : Below B w w') : ∀ (n : Nat) (c : CertD) (A : Option Addr), CertAt w B n c A → CertAt w' B n c A
  | 0, _, _, _ => trivial
  | n + 1, c, A, h => fun k hk => by
    obtain ⟨b, off, A', cap, hA, hlt, hc, ⟨y0, y1, y2, y3, y4⟩, hn⟩ := h k hk
    have e : ∀ o, w'.cell? ⟨b, o, none⟩ = w.cell? ⟨b, o, none⟩ := fun o => by
      unfold World.cell?
      rw [show w'.heap[b]? = w.heap[b]? from hb.block b hlt]
    exact ⟨b, off, A', cap, hA, hlt, hc, ⟨by rw [e]; exact y0, by rw [e]; exact y1, by rw [e]; exact y2, by rw [e]; exact y3, by rw [e]; exact y4⟩, CertAt.below hb n _ _ hn⟩
theorem CertAt.more {w : World} {B B' : Nat} (hb : B ≤ B') : ∀ (n : Nat) (c : CertD) (A : Option Addr), CertAt w B n c A → CertAt w B' n c A
  | 0, _, _, _ => trivial
  | n + 1, c, A, h => fun k hk => by
    obtain ⟨b, off, A', cap, hA, hlt, hc, hy, hn⟩ := h k hk
    exact ⟨b, off, A', cap, hA, Nat.lt_of_lt_of_le hlt hb, hc, hy, CertAt.more hb n _ _ hn⟩
theorem CertAt.less {w : World} {B : Nat} : ∀ (n : Nat) (c : CertD) (A : Option Addr), CertAt w B (n + 1) c A → CertAt w B n c A
  | 0, _, _, _ => trivial
  | n + 1, c, A, h => fun k hk => by
    obtain ⟨b, off, A', cap, hA, hlt, hc, hy, hn⟩ := h k hk
    exact ⟨b, off, A', cap, hA, hlt, hc, hy, CertAt.less n _ _ hn⟩
open Classical in
/-- what Shows answers -/
noncomputable def showsB (r : RulesD) (wn : Int) (d : Nat) (p : Pos) (c : CertD) : Bool := decide (ShowsN r wn d p c)
end Go.Proofs.YtdfegpohmaideaaGreat
/- One position out of a list of them. -/
namespace Go.Proofs.YtdfegpohmaideaaGreat
open Go.RowKit

theorem flat_getQ {α : Type} (f : α → List Value) (k : Nat) (hf : ∀ x, (f x).length = k) : ∀ (xs : List α) (i j : Nat) (hi : i < xs.length), j < k → (xs.flatMap f)[i * k + j]? = (f xs[i])[j]?
  | [], i, _, hi, _ => absurd hi (by simp)
  | x :: xs, 0, j, _, hj => by
    rw [List.flatMap_cons, Nat.zero_mul, Nat.zero_add, List.getElem?_append_left (by rw [hf]; exact hj)]
    rfl
  | x :: xs, i + 1, j, hi, hj => by
    have e : (i + 1) * k + j = k + (i * k + j) := by rw [Nat.succ_mul]; omega
    rw [List.flatMap_cons, e, List.getElem?_append_right (by rw [hf]; omega), hf, Nat.add_sub_cancel_left, flat_getQ f k hf xs i j (by simpa using hi) hj]
    rfl
theorem qAt {w : World} {B : Nat} {A : Option Addr} {l : List Pos} (h : Cells w B A (cellsQ l)) {i : Nat} (hi : i < l.length) :
    ∃ b off, A = some ⟨b, off, none⟩ ∧ b < B ∧ w.cell? ⟨b, off + i * 6, none⟩ = some (.int .i64 l[i].w) ∧ w.cell? ⟨b, off + i * 6 + 1, none⟩ = some (.int .i64 l[i].h) ∧ w.cell? ⟨b, off + i * 6 + 2, none⟩ = some (.string l[i].cells) ∧ w.cell? ⟨b, off + i * 6 + 3, none⟩ = some (.int .i64 l[i].turn) ∧
      w.cell? ⟨b, off + i * 6 + 4, none⟩ = some (.string l[i].h0) ∧ w.cell? ⟨b, off + i * 6 + 5, none⟩ = some (.string l[i].h1) := by
  have hl := cellsQ_len l
  obtain ⟨b, off, hA, hb, hcell⟩ := h (by omega)
  have key : ∀ j v, (posC l[i])[j]? = some v → j < 6 → w.cell? ⟨b, off + i * 6 + j, none⟩ = some v := by
    intro j v hv hj
    have := flat_getQ posC 6 (fun _ => rfl) l i j hi hj
    rw [hv] at this
    obtain ⟨h1, h2⟩ := List.getElem?_eq_some_iff.1 this
    rw [Nat.add_assoc, hcell _ h1]
    exact congrArg some h2
  exact ⟨b, off, hA, hb, key 0 _ rfl (by omega), key 1 _ rfl (by omega), key 2 _ rfl (by omega), key 3 _ rfl (by omega), key 4 _ rfl (by omega), key 5 _ rfl (by omega)⟩
end Go.Proofs.YtdfegpohmaideaaGreat
/- moves.Next, in letters. -/
namespace Go.Proofs.YtdfegpohmaideaaGreat
open Go.RowKit

/-- what moves.Next answers, in letters -/
def NextN (W : World) (n : Int) (L : List Mv) (Q : List Pos) (e : Ending) (w' : World) : Prop :=
  ∃ A1 c1 A2 c2, e = .returned (.tuple #[.int .i64 n, .slice A1 L.length c1, .slice A2 Q.length c2]) ∧ Cells w' w'.heap.size A1 (cellsM L) ∧ Cells w' w'.heap.size A2 (cellsQ Q) ∧ Later W w'
theorem nextN_any (r : RulesD) (A : Option Addr) (cp : Nat) (p : Pos) (W : World) (hok : OfOk r p) (hP : PiecesAt W W.heap.size A r.pieces) :
    Calls Tryz.prog 44 #[.agg #[.int .i64 r.start.w, .int .i64 r.start.h, .string r.start.cells, .int .i64 r.start.turn, .string r.start.h0, .string r.start.h1, .slice A r.pieces.length cp, .bool r.drops, .int .u8 r.lose, .int .i64 r.line, .int .u8 r.reach, .bool r.stuck, .int .i64 r.plies], .agg #[.int .i64 p.w, .int .i64 p.h, .string p.cells, .int .i64 p.turn, .string p.h0, .string p.h1]] W (NextN W (endsN r p) (movesL r p) (nextL r p)) :=
  (next_any r A cp p W hok hP).mono fun e w' ⟨A1, c1, A2, c2, he, h1, h2, h3⟩ => ⟨A1, c1, A2, c2, by rw [he, nextL, List.length_map], h1, h2, h3⟩
end Go.Proofs.YtdfegpohmaideaaGreat
/- slices.Index of moves -/
namespace Go.Proofs.YtdfegpohmaideaaGreat
open Go.RowKit Go.Shelf

/-- what slices.Index answers -/
def IdxOut (l : List Mv) (m : Mv) (W : World) (e : Ending) (w' : World) : Prop :=
  Later W w' ∧ ((e = .returned (.int .i64 (-1)) ∧ m ∉ l) ∨ ∃ (k : Nat) (h : k < l.length), e = .returned (.int .i64 (k : Int)) ∧ l[k] = m)
theorem IdxOut.no {l : List Mv} {m : Mv} {W w' : World} (hw : Later W w') (h : ∀ j (hj : j < l.length), l[j] ≠ m) : IdxOut l m W (.returned (.int .i64 (-1))) w' :=
  ⟨hw, .inl ⟨rfl, fun hm => by obtain ⟨j, hj, e⟩ := List.getElem_of_mem hm; exact h j hj e⟩⟩
theorem IdxOut.yes {l : List Mv} {m : Mv} {W w' : World} (hw : Later W w') {k : Nat} (h : k < l.length) (e : l[k] = m) : IdxOut l m W (.returned (.int .i64 (k : Int))) w' := ⟨hw, .inr ⟨k, h, rfl, e⟩⟩
set_option maxHeartbeats 1000000 in
set_option maxRecDepth 20000 in
theorem index_mv (A : Option Addr) (c : Nat) (l : List Mv) (m : Mv) (W : World) (hm : l.length ≤ 9223372036854775807) (h : Cells W W.heap.size A (cellsM l)) :
    Calls Tryz.prog 62 #[.slice A l.length c, .agg #[.int .i64 m.f, .int .i64 m.t, .int .u8 m.c]] W (IdxOut l m W) := by
  have H := hide (show Cells (W.alloc (.cells #[.int .i64 m.f, .int .i64 m.t, .int .u8 m.c] 29)) W.heap.size A (cellsM l) from h.below (below_fresh W _))
  have Hb := hide (Blk.new W 29 #[.int .i64 m.f, .int .i64 m.t, .int .u8 m.c])
  have Hw := hide (show Later W (W.alloc (.cells #[.int .i64 m.f, .int .i64 m.t, .int .u8 m.c] 29)) from Later.rfl.alloc _)
  clear h
  go_enter Tryz.func62, Tryz.ntmps62
  go_upto_region 1 with (fail)
  obtain ⟨w0, hw0⟩ : ∃ w0, W.alloc (.cells #[.int .i64 m.f, .int .i64 m.t, .int .u8 m.c] 29) = w0 := ⟨_, rfl⟩
  rw [hw0] at H Hb Hw ⊢
  clear hw0
  go_wp2_with fail
  go_loopw [8] (fun i wr => ∃ k n : Nat, k ≤ l.length ∧ i = .int .i64 k ∧ wr = w0.drewN n ∧ ∀ j (h : j < l.length), j < k → l[j] ≠ m) (fun i _ => l.length - (intOf i).toNat)
  case atStart => exact ⟨0, 0, by omega, rfl, rfl, fun j _ h => by omega⟩
  case round =>
    obtain ⟨k, n, hk, rfl, rfl, hall⟩ := hrel
    have Hall := hide hall
    clear hall
    by_cases hlt : k < l.length
    · obtain ⟨b, off, rfl, hb, x0, x1, x2⟩ := mv_at H.out hlt
      have y0 := Hb.out.cellv (i := 0) rfl
      have y1 := Hb.out.cellv (i := 1) rfl
      have y2 := Hb.out.cellv (i := 2) rfl
      obtain ⟨x, hx⟩ : ∃ x, l[k] = x := ⟨_, rfl⟩
      rw [hx] at x0 x1 x2
      have heq := fun w => eqM.1 m x w
      have hgd := fun op a b w => eqM.2 op a b m x w
      simp only [encM] at heq hgd
      obtain ⟨u, hu⟩ : ∃ u, decide (m = x) = u := ⟨_, rfl⟩
      rw [hu] at heq
      have Hu := hide hu
      have Hx := hide hx
      clear hx hu
      go_upto_region 4 with (fail)
      go_quiet (fail)
      clear heq hgd x0 x1 x2 y0 y1 y2
      cases u
      · have hn := of_decide_eq_false Hu.out
        have Hn := hide (show ∀ j (h : j < l.length), j < k + 1 → l[j] ≠ m from fun j h hj => by
          by_cases e : j = k
          · subst e; rw [Hx.out]; exact fun e => hn e.symm
          · exact Hall.out j h (by omega))
        clear hn
        go_wp2_with fail
        go_roundw
        case rel => exact ⟨k + 1, _, by omega, by go_num, rfl, Hn.out⟩
        case measure => simp [intOf]; omega
      · have Hy := hide (show l[k] = m from Hx.out.trans (of_decide_eq_true Hu.out).symm)
        go_wp2_with fail
        go_ret
        exact IdxOut.yes ((Hw.out.drewN _).drewN _) hlt Hy.out
    · have Hb2 := hide (show ∀ j (h : j < l.length), l[j] ≠ m from fun j hj => Hall.out j hj (by omega))
      go_wp2_with fail
      go_ret
      exact IdxOut.no (Hw.out.drewN _) Hb2.out
end Go.Proofs.YtdfegpohmaideaaGreat
/- proof.ask -/
namespace Go.Proofs.YtdfegpohmaideaaGreat
open Go.RowKit

set_option maxHeartbeats 4000000 in
set_option maxRecDepth 100000 in
theorem ask_no (r : RulesD) (A : Option Addr) (cp : Nat) (p : Pos) (d : Int) (W : World) (hf : RFit r) (hg : PFit p) (hP : PiecesAt W W.heap.size A r.pieces) (hno : ¬ OfOk r p) :
    Calls Tryz.prog 52 #[.agg #[.int .i64 r.start.w, .int .i64 r.start.h, .string r.start.cells, .int .i64 r.start.turn, .string r.start.h0, .string r.start.h1, .slice A r.pieces.length cp, .bool r.drops, .int .u8 r.lose, .int .i64 r.line, .int .u8 r.reach, .bool r.stuck, .int .i64 r.plies], .agg #[.int .i64 p.w, .int .i64 p.h, .string p.cells, .int .i64 p.turn, .string p.h0, .string p.h1], .int .i64 d] W fun e w' => e = .returned (.int .i64 1) ∧ Later W w' := by
  have Hw := hide (show Later W ((W.alloc (.cells #[.int .i64 r.start.w, .int .i64 r.start.h, .string r.start.cells, .int .i64 r.start.turn, .string r.start.h0, .string r.start.h1, .slice A r.pieces.length cp, .bool r.drops, .int .u8 r.lose, .int .i64 r.line, .int .u8 r.reach, .bool r.stuck, .int .i64 r.plies] 27)).alloc (.cells #[.int .i64 p.w, .int .i64 p.h, .string p.cells, .int .i64 p.turn, .string p.h0, .string p.h1] 24)) from (Later.rfl.alloc _).alloc _)
  have Hof := hide (fun w (hw : Later W w) => mof_any r A cp p w hf hg ((hP.below hw).more hw.size))
  rw [ofB_false.2 hno, codeN_f] at Hof
  clear hf hg hP hno
  go_enter Tryz.func52, Tryz.ntmps52
  go_wp2_with (go_at_call 27; refine (Hof.out _ Hw.out).mono ?_; rintro e w1 ⟨rfl, hw1⟩)
  go_ret
  exact ⟨rfl, Hw.out.trans hw1⟩
set_option maxHeartbeats 4000000 in
set_option maxRecDepth 100000 in
theorem ask_ok (r : RulesD) (A : Option Addr) (cp : Nat) (p : Pos) (d : Int) (W : World) (hf : RFit r) (hg : PFit p) (hP : PiecesAt W W.heap.size A r.pieces) (hok : OfOk r p) :
    Calls Tryz.prog 52 #[.agg #[.int .i64 r.start.w, .int .i64 r.start.h, .string r.start.cells, .int .i64 r.start.turn, .string r.start.h0, .string r.start.h1, .slice A r.pieces.length cp, .bool r.drops, .int .u8 r.lose, .int .i64 r.line, .int .u8 r.reach, .bool r.stuck, .int .i64 r.plies], .agg #[.int .i64 p.w, .int .i64 p.h, .string p.cells, .int .i64 p.turn, .string p.h0, .string p.h1], .int .i64 d] W fun e w' => e = .returned (.int .i64 (if d < 0 ∨ 9 < d then 4 else 0)) ∧ Later W w' := by
  have Hw := hide (show Later W ((W.alloc (.cells #[.int .i64 r.start.w, .int .i64 r.start.h, .string r.start.cells, .int .i64 r.start.turn, .string r.start.h0, .string r.start.h1, .slice A r.pieces.length cp, .bool r.drops, .int .u8 r.lose, .int .i64 r.line, .int .u8 r.reach, .bool r.stuck, .int .i64 r.plies] 27)).alloc (.cells #[.int .i64 p.w, .int .i64 p.h, .string p.cells, .int .i64 p.turn, .string p.h0, .string p.h1] 24)) from (Later.rfl.alloc _).alloc _)
  have Hof := hide (fun w (hw : Later W w) => mof_any r A cp p w hf hg ((hP.below hw).more hw.size))
  rw [ofB_true.2 hok, codeN_t] at Hof
  clear hf hg hP hok
  by_cases h0 : d < 0
  · have t1 : decide (d < 0) = true := decide_eq_true h0
    rw [if_pos (.inl h0)]
    clear h0
    go_enter Tryz.func52, Tryz.ntmps52
    go_wp2_with (go_at_call 27; refine (Hof.out _ Hw.out).mono ?_; rintro e w1 ⟨rfl, hw1⟩)
    go_ret
    exact ⟨rfl, Hw.out.trans hw1⟩
  · have t1 : decide (d < 0) = false := decide_eq_false h0
    by_cases h9 : 9 < d
    · have t2 : decide (9 < d) = true := decide_eq_true h9
      rw [if_pos (.inr h9)]
      clear h0 h9
      go_enter Tryz.func52, Tryz.ntmps52
      go_wp2_with (go_at_call 27; refine (Hof.out _ Hw.out).mono ?_; rintro e w1 ⟨rfl, hw1⟩)
      go_ret
      exact ⟨rfl, Hw.out.trans hw1⟩
    · have t2 : decide (9 < d) = false := decide_eq_false h9
      rw [if_neg (fun h => h.elim h0 h9)]
      clear h0 h9
      go_enter Tryz.func52, Tryz.ntmps52
      go_wp2_with (go_at_call 27; refine (Hof.out _ Hw.out).mono ?_; rintro e w1 ⟨rfl, hw1⟩)
      go_ret
      exact ⟨rfl, Hw.out.trans hw1⟩
end Go.Proofs.YtdfegpohmaideaaGreat
/- m[k] op= v: the entry laid first, then stored. -/
namespace Go.Proofs.YtdfegpohmaideaaGreat
open Go.RowKit Go.WideMaps Go.Maps
open Go.MapKept (Stamped stamped_push stamped_modify)
open Go.ChangeMaps (setBlock modify_eq_set)
open Go.WideElems (findIdx_arr findIdx_born modify_last set_self)

/-- the map with a place for a key -/
def openK {α β : Type} [DecidableEq α] (m : List (α × β)) (a : α) (z : β) : List (α × β) := if hasK m a then m else m ++ [(a, z)]
theorem getK_open {α β : Type} [DecidableEq α] (m : List (α × β)) (a : α) (z : β) : (getK (openK m a z) a).getD z = (getK m a).getD z := by
  unfold openK
  split
  · rfl
  · rename_i h
    have : getK m a = none := by
      cases h2 : getK m a with
      | none => rfl
      | some u => exact absurd (hasK_iff.2 ⟨u, h2⟩) h
    rw [getK_append, this, getK_cons]; simp
section
variable {α β : Type} [DecidableEq α] {P : Program} {k e t : TypeId} {ka : α → Value} {kb : β → Value} {ok : α → Prop} {w : World} {b : Nat} {m : List (α × β)}
theorem MapL.entry (h : MapL ka kb ok w b m) (K : KeyEnc P k ka ok) (ht : P.underlying t = some (.map k e)) {z : β} (hz : ∀ u, (zeroValue e).run P u = .ok (kb z) u) {a : α} (ha : ok a) :
    ∃ (st : Nat) (es1 : Array MapEntry) (clock1 : Nat), (∀ u : World, u.heap = w.heap → (Instr.mapEntry t (.map (some b)) (ka a)).run P u = .ok (.tuple #[kb ((getK m a).getD z), goInt st]) (setBlock u b (.map es1 clock1))) ∧
      MapL ka kb ok (setBlock w b (.map es1 clock1)) b (openK m a z) ∧
      ∀ v : β, ∃ es2 clock2, (∀ u : World, u.heap[b]? = some (.map es1 clock1) → (Instr.entryStore t (.map (some b)) (goInt st) (kb v)).run P u = .ok () (setBlock u b (.map es2 clock2))) ∧
        ∀ u : World, b < u.heap.size → MapL ka kb ok (setBlock u b (.map es2 clock2)) b (putK m a v) := by
  have hnd := h.nodup
  obtain ⟨es, clock, hb, he, hs, ho, hk⟩ := h.keys K
  obtain ⟨l, hkey⟩ := K.key a ha
  have heap_same : ∀ (u : World) (o : Obj), b < u.heap.size → (setBlock u b o).heap[b]? = some o := fun u o hu => by simp [setBlock, hu]
  rcases K.keyed.find w hkey es.toList hk with ⟨h1, h2⟩ | ⟨j, e0, h1, h2, h3⟩
  · have hn : ¬ hasK m a = true := fun hh => by
      obtain ⟨u, hu⟩ := hasK_iff.1 hh
      have : (ka a, kb u) ∈ es.toList.map (fun x => (x.key, x.val)) := by rw [he]; exact List.mem_map.2 ⟨_, getK_mem hu, rfl⟩
      obtain ⟨y, hy, e2⟩ := List.mem_map.1 this
      injection e2 with e2 _
      exact h2 y hy e2
    have hg : getK m a = none := by
      cases h2 : getK m a with
      | none => rfl
      | some u => exact absurd (hasK_iff.2 ⟨u, h2⟩) hn
    refine ⟨clock, es.push ⟨ka a, kb z, clock⟩, clock + 1, fun u hu => ?_, ⟨_, _, heap_setBlock_eq hb, ?_, stamped_push hs h2, ?_⟩, fun v => ⟨es.push ⟨ka a, kb v, clock⟩, clock + 1, fun u hu => ?_, fun u hu => ⟨_, _, heap_same u _ hu, ?_, stamped_push hs h2, putK_ok ho ha⟩⟩⟩
    · have hbu : u.heap[b]? = some (.map es clock) := by rw [hu]; exact hb
      have h1u : (Instr.findKey k (ka a) es.toList).run P u = .ok none u := by
        rcases K.keyed.find u hkey es.toList hk with ⟨q1, _⟩ | ⟨j, e0, _, q2, q3⟩
        · exact q1
        · exact absurd q3 (h2 e0 (List.mem_of_getElem? q2))
      rw [hg]
      simp [Instr.mapEntry, run_underlying ht, Go.MapKept.run_getObj_map hbu, K.keyed.check u false hkey, h1u, hz, Go.MapKept.run_setObj_map _ hbu, Result.andThen, setBlock]
    · unfold openK
      rw [if_neg hn, Array.toList_push, List.map_append, List.map_append, he]
      rfl
    · intro x hx
      unfold openK at hx
      rw [if_neg hn] at hx
      rcases List.mem_append.1 hx with q | q
      · exact ho x q
      · rw [List.mem_singleton.1 q]; exact ha
    · have hidx : (es.push ⟨ka a, kb z, clock⟩).findIdx? (fun e => ((e.born : Nat) : Int) == ((clock : Nat) : Int)) = some es.size := by
        rw [findIdx_arr]
        have := findIdx_born (l := (es.push ⟨ka a, kb z, clock⟩).toList) (j := es.size) (e0 := ⟨ka a, kb z, clock⟩) (by
          simp only [Array.toList_push, List.map_append, List.map_cons, List.map_nil]
          refine List.nodup_append.2 ⟨hs.2.1, by simp, fun a ha c hc e1 => ?_⟩
          simp only [List.mem_singleton] at hc
          obtain ⟨x, hx, rfl⟩ := List.mem_map.1 ha
          have := hs.1 x hx
          omega) (by simp)
        exact this
      have hmod : (es.push ⟨ka a, kb z, clock⟩).modify es.size (fun e => { e with val := kb v }) = es.push ⟨ka a, kb v, clock⟩ := by
        apply Array.ext'
        rw [Array.toList_modify, Array.toList_push, Array.toList_push, ← Array.length_toList, modify_last]
      simp [Instr.entryStore, Go.MapKept.run_getObj_map hu, asInt, asIntOf, goInt, hidx, hmod, Go.MapKept.run_setObj_map _ hu, Result.andThen, setBlock]
    · rw [putK_of_not hn, Array.toList_push, List.map_append, List.map_append, he]
      rfl
  · have hj : es[j]? = some e0 := by simpa using h2
    have hsame : es.modify j (fun e => { e with key := ka a }) = es := by
      apply Array.ext'
      rw [Array.toList_modify, modify_eq_set _ _ _ _ h2]
      have : ({ e0 with key := ka a } : MapEntry) = e0 := by rw [← h3]
      rw [this]
      exact set_self _ _ _ h2
    have hmm : (m.map (fun x => (ka x.1, kb x.2)))[j]? = some (e0.key, e0.val) := by rw [← he, List.getElem?_map, h2]; rfl
    rw [List.getElem?_map] at hmm
    obtain ⟨y, hy, e1⟩ := Option.map_eq_some_iff.1 hmm
    injection e1 with e1 e2
    have e3 : y.1 = a := K.inj _ _ (e1.trans h3)
    have hgy : getK m a = some y.2 := getK_of_mem hnd (by rw [← e3]; exact List.mem_of_getElem? hy)
    have hh : hasK m a = true := hasK_iff.2 ⟨y.2, hgy⟩
    have hkeyf : ∀ v : β, ∀ e' ∈ es.toList, es[j]? = some e' → ({ e' with key := ka a, val := kb v } : MapEntry).key = e'.key := fun v e' _ he' => by rw [hj] at he'; cases he'; exact h3.symm
    refine ⟨e0.born, es, clock, fun u hu => ?_, ⟨_, _, heap_setBlock_eq hb, ?_, hs, ?_⟩, fun v => ⟨es.modify j (fun e' => { e' with key := ka a, val := kb v }), clock, fun u hu => ?_, fun u hu => ⟨_, _, heap_same u _ hu, ?_, stamped_modify hs _ _ (fun _ _ => rfl) (hkeyf v), putK_ok ho ha⟩⟩⟩
    · have hbu : u.heap[b]? = some (.map es clock) := by rw [hu]; exact hb
      have h1u : (Instr.findKey k (ka a) es.toList).run P u = .ok (some (j, e0.val)) u := by
        rcases K.keyed.find u hkey es.toList hk with ⟨_, q2⟩ | ⟨j', e0', q1, q2, q3⟩
        · exact absurd h3 (q2 e0 (List.mem_of_getElem? h2))
        · have : j' = j := by
            have hnk := hs.2.2
            obtain ⟨l1, p1⟩ := List.getElem?_eq_some_iff.1 q2
            obtain ⟨l2, p2⟩ := List.getElem?_eq_some_iff.1 h2
            refine (List.getElem_inj (h₀ := by simpa using l1) (h₁ := by simpa using l2) hs.2.2).1 ?_
            simp only [List.getElem_map, p1, p2, q3, h3]
          subst this
          rw [h2] at q2
          cases q2
          exact q1
      rw [hgy]
      simp [Instr.mapEntry, run_underlying ht, Go.MapKept.run_getObj_map hbu, K.keyed.check u false hkey, h1u, hj, h3, K.keyed.stays u hkey, hsame, Go.MapKept.run_setObj_map _ hbu, Result.andThen, setBlock, e2]
    · unfold openK
      rw [if_pos hh]
      exact he
    · unfold openK
      rw [if_pos hh]
      exact ho
    · have hidx : es.findIdx? (fun e => ((e.born : Nat) : Int) == ((e0.born : Nat) : Int)) = some j := by
        rw [findIdx_arr]
        exact findIdx_born hs.2.1 h2
      have hmod : es.modify j (fun e => { e with val := kb v }) = es.modify j (fun e' => { e' with key := ka a, val := kb v }) := by
        apply Array.ext'
        rw [Array.toList_modify, Array.toList_modify, modify_eq_set _ _ _ _ h2, modify_eq_set _ _ _ _ h2, ← h3]
      simp [Instr.entryStore, Go.MapKept.run_getObj_map hu, asInt, asIntOf, goInt, hidx, hmod, Go.MapKept.run_setObj_map _ hu, Result.andThen, setBlock]
    · have hlist : (es.modify j (fun e' => { e' with key := ka a, val := kb v })).toList = es.toList.set j { e0 with key := ka a, val := kb v } := by
        rw [Array.toList_modify, modify_eq_set _ _ _ _ h2]
      have e4 : putK m a v = m.set j (a, v) := putK_set hnd hy e3
      rw [hlist, e4, List.map_set, List.map_set, he]
end
end Go.Proofs.YtdfegpohmaideaaGreat
/- Maps at the operations, for the walk. -/
namespace Go.Proofs.YtdfegpohmaideaaGreat
open Go.RowKit Go.Maps

section
variable {α β : Type} {P : Program} {k e t : TypeId} {ka : α → Value} {kb : β → Value} {ok : α → Prop} (w : World) {b r : Nat} {m left : List (α × β)} {ops : Array Oper} {rest : List Oper} {o : Oper} {a : Act} {Q : Exit → Act → World → Prop}
theorem RangeL.left_eq {w : World} (h : RangeL ka kb ok w b r m left) : w.rangeLeft b r = left.length := by
  obtain ⟨es, clock, since, seen, c0, h1, h2, h3, h4, h5, h6, h7, h8, h9⟩ := h
  simp only [World.rangeLeft, h1, h5]
  have := congrArg List.length h9
  simpa using this
theorem wpList_rangeL (hg : o.guard = none) (x : Operand) (t : TypeId) (hop : o.op = Op.range t x) (k e : TypeId) (ht : P.underlying t = some (.map k e)) (b : Nat) (m : List (α × β)) (hm : a.eval x = .map (some b)) (h : MapL ka kb ok w b m)
    (hK : ∀ w', RangeL ka kb ok w' b w.heap.size m m → w.grownBy w' none → w'.heap.size = w.heap.size + 1 → wpList P ops Q rest (a.put o.dst (.pointer (some ⟨w.heap.size, 0, none⟩))) w') :
    wpList P ops Q (o :: rest) a w := by
  refine wpList_plain hg fun K' hK' => ?_
  obtain ⟨w', hrun, r1, r2, r3⟩ := h.range ht
  unfold Oper.wp
  simp [execOp, hop, hm, hrun, Result.andThen]
  exact hK' _ _ (hK w' r1 r2 r3)
theorem wpList_nextL (hg : o.guard = none) (it : Operand) (hop : o.op = Op.next it false) (b r : Nat) (m left : List (α × β)) (hit : a.eval it = .pointer (some ⟨r, 0, none⟩)) (h : RangeL ka kb ok w b r m left)
    (hDone : left = [] → wpList P ops Q rest (a.put o.dst (.tuple #[.bool false])) w)
    (hMore : ∀ l1 x l2 w', left = l1 ++ x :: l2 → RangeL ka kb ok w' b r m (l1 ++ l2) → w.grownBy w' (some r) → w'.heap.size = w.heap.size → (Instr.entry (.pointer (some ⟨r, 0, none⟩))).run P w' = .ok (.tuple #[ka x.1, kb x.2]) w' →
      wpList P ops Q rest (a.put o.dst (.tuple #[.bool true, ka x.1, kb x.2])) w') :
    wpList P ops Q (o :: rest) a w := by
  refine wpList_plain hg fun K' hK' => ?_
  unfold Oper.wp
  rcases h.next (P := P) o.type with ⟨h0, hrun⟩ | ⟨l1, x, l2, w', e1, hrun, h1, h2, h3, h4⟩
  · simp [execOp, hop, hit, hrun, Result.andThen]
    exact hK' _ _ (hDone h0)
  · simp [execOp, hop, hit, hrun, Result.andThen]
    exact hK' _ _ (hMore l1 x l2 w' e1 h1 h2 h3 h4)
theorem wpList_nextL_done (hg : o.guard = none) (it : Operand) (hop : o.op = Op.next it false) (b r : Nat) (m : List (α × β)) (hit : a.eval it = .pointer (some ⟨r, 0, none⟩)) (h : RangeL ka kb ok w b r m [])
    (hDone : wpList P ops Q rest (a.put o.dst (.tuple #[.bool false])) w) : wpList P ops Q (o :: rest) a w :=
  wpList_nextL w hg it hop b r m [] hit h (fun _ => hDone) (fun l1 x l2 _ e => by simp at e)
theorem wpList_nextL_more (hg : o.guard = none) (it : Operand) (hop : o.op = Op.next it false) (b r : Nat) (m : List (α × β)) (y : α × β) (l : List (α × β)) (hit : a.eval it = .pointer (some ⟨r, 0, none⟩)) (h : RangeL ka kb ok w b r m (y :: l))
    (hMore : ∀ l1 x l2 w', y :: l = l1 ++ x :: l2 → RangeL ka kb ok w' b r m (l1 ++ l2) → w.grownBy w' (some r) → w'.heap.size = w.heap.size → (Instr.entry (.pointer (some ⟨r, 0, none⟩))).run P w' = .ok (.tuple #[ka x.1, kb x.2]) w' →
      wpList P ops Q rest (a.put o.dst (.tuple #[.bool true, ka x.1, kb x.2])) w') : wpList P ops Q (o :: rest) a w :=
  wpList_nextL w hg it hop b r m (y :: l) hit h (fun e => by simp at e) hMore
end
section
variable {α β : Type} [DecidableEq α] {P : Program} {ka : α → Value} {kb : β → Value} {ok : α → Prop} (w : World) {ops : Array Oper} {rest : List Oper} {o : Oper} {a : Act} {Q : Exit → Act → World → Prop}
theorem wpList_insertL (hg : o.guard = none) (x y v : Operand) (t : TypeId) (hop : o.op = Op.insert t x y v) (k e : TypeId) (K : KeyEnc P k ka ok) (ht : P.underlying t = some (.map k e)) (b : Nat) (m : List (α × β)) (hm : a.eval x = .map (some b)) (h : MapL ka kb ok w b m)
    (kk : α) (vv : β) (hy : a.eval y = ka kk) (hv : a.eval v = kb vv) (hk : ok kk)
    (hK : ∀ w', MapL ka kb ok w' b (putK m kk vv) → w.grownBy w' (some b) → w'.heap.size = w.heap.size → wpList P ops Q rest (a.put o.dst undef) w') :
    wpList P ops Q (o :: rest) a w := by
  refine wpList_plain hg fun K' hK' => ?_
  obtain ⟨w', hrun, r1, r2, r3⟩ := h.put K ht hk vv
  unfold Oper.wp
  simp [execOp, hop, hm, hy, hv, hrun, Result.andThen]
  exact hK' _ _ (hK w' r1 r2 r3)
theorem wpList_mapUpdateL (hg : o.guard = none) (x y v : Operand) (t : TypeId) (hop : o.op = Op.mapUpdate t x y v) (k e : TypeId) (K : KeyEnc P k ka ok) (ht : P.underlying t = some (.map k e)) (b : Nat) (m : List (α × β)) (hm : a.eval x = .map (some b)) (h : MapL ka kb ok w b m)
    (kk : α) (vv : β) (hy : a.eval y = ka kk) (hv : a.eval v = kb vv) (hk : ok kk)
    (hK : ∀ w', MapL ka kb ok w' b (putK m kk vv) → w.grownBy w' (some b) → w'.heap.size = w.heap.size → wpList P ops Q rest (a.put o.dst undef) w') :
    wpList P ops Q (o :: rest) a w := by
  refine wpList_plain hg fun K' hK' => ?_
  obtain ⟨w', hrun, r1, r2, r3⟩ := h.put K ht hk vv
  unfold Oper.wp
  simp [execOp, hop, hm, hy, hv, hrun, Result.andThen]
  exact hK' _ _ (hK w' r1 r2 r3)
end
/-- what a grown world keeps -/
theorem Later.grown {w w' : World} (h : w.grownBy w' none) : Later w w' := ⟨h.os, h.tape, h.output, h.size, fun k hk => h.block k hk (by simp)⟩
theorem Later.grownAt {W w w' : World} {b : Nat} (hw : Later W w) (h : w.grownBy w' (some b)) (hb : W.heap.size ≤ b) : Later W w' :=
  Below.trans hw ⟨h.os, h.tape, h.output, h.size, fun k hk => h.block k (Nat.lt_of_lt_of_le hk hw.size) (by simp; omega)⟩
end Go.Proofs.YtdfegpohmaideaaGreat
/- Positions as keys of maps. -/
namespace Go.Proofs.YtdfegpohmaideaaGreat
open Go.RowKit Go.WideMaps Go.Maps

def posK (p : Pos) : Value := .agg #[.int .i64 p.w, .int .i64 p.h, .string p.cells, .int .i64 p.turn, .string p.h0, .string p.h1]
theorem posK_inj (a b : Pos) (h : posK a = posK b) : a = b := by
  obtain ⟨a0, a1, a2, a3, a4, a5⟩ := a
  obtain ⟨b0, b1, b2, b3, b4, b5⟩ := b
  simp only [posK] at h
  injection h with h
  have h := congrArg Array.toList h
  simp at h
  obtain ⟨e0, e1, e2, e3, e4, e5⟩ := h
  rw [e0, e1, e2, e3, e4, e5]
theorem keyLits_int {P : Program} {t : TypeId} {q : IntKind} (h : P.underlying t = some (.int q)) (d : Nat) {n : Int} (hw : (Lit.int q n).wf = true) : P.keyLits (d + 1) t [.int q n] = some [.int q n] := by
  unfold Program.keyLits
  simp [h, hw]
theorem keyLits_string {P : Program} {t : TypeId} (h : P.underlying t = some .string) (d : Nat) {s : ByteArray} (hs : s.size ≤ maxLen) : P.keyLits (d + 1) t [.string s] = some [.string s.data.toList] := by
  unfold Program.keyLits
  simp [h, hs]
set_option maxRecDepth 100000 in
theorem keyLits_hands (d : Nat) {a b : ByteArray} (ha : a.size ≤ maxLen) (hb : b.size ≤ maxLen) : Tryz.prog.keyLits (d + 1 + 1) 22 [.string a, .string b] = some [.string a.data.toList, .string b.data.toList] := by
  have c2 : Tryz.prog.cellsOf 22 = 2 := by kernel_rfl
  have c1 : Tryz.prog.cellsOf 9 = 1 := by kernel_rfl
  unfold Program.keyLits
  simp only [Tryz.underlying22, c2, c1]
  simp [List.range, List.range.loop, keyLits_string Tryz.underlying9 d ha, keyLits_string Tryz.underlying9 d hb]
set_option maxRecDepth 100000 in
theorem keyLits_pos (d : Nat) {p : Pos} (hw : (Lit.int .i64 p.w).wf = true) (hh : (Lit.int .i64 p.h).wf = true) (ht : (Lit.int .i64 p.turn).wf = true) (hc : p.cells.size ≤ maxLen) (h0 : p.h0.size ≤ maxLen) (h1 : p.h1.size ≤ maxLen) :
    Tryz.prog.keyLits (d + 1 + 1 + 1) 24 [.int .i64 p.w, .int .i64 p.h, .string p.cells, .int .i64 p.turn, .string p.h0, .string p.h1] = some [.int .i64 p.w, .int .i64 p.h, .string p.cells.data.toList, .int .i64 p.turn, .string p.h0.data.toList, .string p.h1.data.toList] := by
  have c6 : Tryz.prog.cellsOf 24 = 6 := by kernel_rfl
  have c2 : Tryz.prog.cellsOf 22 = 2 := by kernel_rfl
  have c1 : Tryz.prog.cellsOf 9 = 1 := by kernel_rfl
  have ci : Tryz.prog.cellsOf 3 = 1 := by kernel_rfl
  unfold Program.keyLits
  simp only [Tryz.underlying24]
  simp [c6, c2, c1, ci, keyLits_int Tryz.underlying3 (d + 1) hw, keyLits_int Tryz.underlying3 (d + 1) hh, keyLits_int Tryz.underlying3 (d + 1) ht, keyLits_string Tryz.underlying9 (d + 1) hc, keyLits_hands d h0 h1]
theorem wf_i64 {n : Int} (h : -9223372036854775808 ≤ n ∧ n ≤ 9223372036854775807) : (Lit.int .i64 n).wf = true := by
  have m1 : IntKind.i64.min = -9223372036854775808 := rfl
  have m2 : IntKind.i64.max = 9223372036854775807 := rfl
  simp [Lit.wf, m1, m2, h]
theorem posOk_sizes {p : Pos} (h : PosOk p) : p.cells.size ≤ 64 ∧ p.h0.size ≤ 8 ∧ p.h1.size ≤ 8 := by
  have h1 := (mul_in h.w1 h.w8 h.h1 h.h8).2
  have h2 := h.size
  exact ⟨by omega, (handB_true.1 h.hand0).1, (handB_true.1 h.hand1).1⟩
theorem types_pos : ∃ d, Tryz.prog.types.size + 1 = d + 1 + 1 + 1 + 1 := ⟨Tryz.prog.types.size - 3, by have : 3 ≤ Tryz.prog.types.size := of_decide_eq_true (by kernel_rfl); omega⟩
theorem key_pos (p : Pos) (h : PosOk p) : ∃ l, keyOf Tryz.prog 24 (posK p) = some l := by
  have hk : Tryz.prog.keyType 24 = true := by kernel_rfl
  have hf : (posK p).formed Tryz.prog 24 = true := by
    have c6 : Tryz.prog.cellsOf 24 = 6 := by kernel_rfl
    simp [posK, Value.formed, Tryz.underlying24, c6]
  have hsz := posOk_sizes h
  unfold keyOf
  simp only [Tryz.underlying24]
  rw [hk, hf]
  obtain ⟨d, hd⟩ := types_pos
  rw [hd]
  have m : maxLen = 9223372036854775807 := rfl
  have := keyLits_pos (d + 1) (p := p) (wf_i64 (by have := h.w1; have := h.w8; omega)) (wf_i64 (by have := h.h1; have := h.h8; omega)) (wf_i64 (by have := h.t0; have := h.t1; omega)) (by omega) (by omega) (by omega)
  have e : (posK p).cells.toList = [.int .i64 p.w, .int .i64 p.h, .string p.cells, .int .i64 p.turn, .string p.h0, .string p.h1] := rfl
  rw [e, this]
  exact ⟨_, rfl⟩
theorem keyedP : Keyed Tryz.prog 24 := Keyed.of_law (deep_law_laid (by kernel_rfl) (m := 5) (by omega) (of_decide_eq_true (by kernel_rfl)) (by kernel_rfl) (by rw [Tryz.underlying24]))
theorem keyEncP : KeyEnc Tryz.prog 24 posK PosOk := ⟨keyedP, key_pos, posK_inj⟩
end Go.Proofs.YtdfegpohmaideaaGreat
/- The prover's map: states as keys; what a call keeps that writes into one map. -/
namespace Go.Proofs.YtdfegpohmaideaaGreat
open Go.RowKit Go.WideMaps Go.Maps

/-- a position and how many moves are left -/
abbrev St := Pos × Int
def stK (k : St) : Value := .agg #[.int .i64 k.1.w, .int .i64 k.1.h, .string k.1.cells, .int .i64 k.1.turn, .string k.1.h0, .string k.1.h1, .int .i64 k.2]
def okS (k : St) : Prop := PosOk k.1 ∧ 0 ≤ k.2 ∧ k.2 ≤ 9
def kbI (n : Int) : Value := .int .i64 n
theorem stK_inj (a b : St) (h : stK a = stK b) : a = b := by
  obtain ⟨⟨a0, a1, a2, a3, a4, a5⟩, a6⟩ := a
  obtain ⟨⟨b0, b1, b2, b3, b4, b5⟩, b6⟩ := b
  simp only [stK] at h
  injection h with h
  have h := congrArg Array.toList h
  simp at h
  obtain ⟨e0, e1, e2, e3, e4, e5, e6⟩ := h
  rw [e0, e1, e2, e3, e4, e5, e6]
set_option maxRecDepth 100000 in
theorem keyLits_state (d : Nat) {k : St} (hw : (Lit.int .i64 k.1.w).wf = true) (hh : (Lit.int .i64 k.1.h).wf = true) (ht : (Lit.int .i64 k.1.turn).wf = true) (hd : (Lit.int .i64 k.2).wf = true) (hc : k.1.cells.size ≤ maxLen) (h0 : k.1.h0.size ≤ maxLen) (h1 : k.1.h1.size ≤ maxLen) :
    ∃ l, Tryz.prog.keyLits (d + 1 + 1 + 1 + 1) 135 [.int .i64 k.1.w, .int .i64 k.1.h, .string k.1.cells, .int .i64 k.1.turn, .string k.1.h0, .string k.1.h1, .int .i64 k.2] = some l := by
  have c7 : Tryz.prog.cellsOf 135 = 7 := by kernel_rfl
  have c6 : Tryz.prog.cellsOf 24 = 6 := by kernel_rfl
  have ci : Tryz.prog.cellsOf 3 = 1 := by kernel_rfl
  unfold Program.keyLits
  simp only [Tryz.underlying135]
  simp [c7, c6, ci, keyLits_int Tryz.underlying3 (d + 1 + 1) hd, keyLits_pos d hw hh ht hc h0 h1]
theorem types_st : ∃ d, Tryz.prog.types.size + 1 = d + 1 + 1 + 1 + 1 + 1 := ⟨Tryz.prog.types.size - 4, by have : 4 ≤ Tryz.prog.types.size := of_decide_eq_true (by kernel_rfl); omega⟩
theorem key_state (k : St) (h : okS k) : ∃ l, keyOf Tryz.prog 135 (stK k) = some l := by
  have hk : Tryz.prog.keyType 135 = true := by kernel_rfl
  have hf : (stK k).formed Tryz.prog 135 = true := by
    have c6 : Tryz.prog.cellsOf 135 = 7 := by kernel_rfl
    simp [stK, Value.formed, Tryz.underlying135, c6]
  obtain ⟨hp, hd0, hd9⟩ := h
  have hsz := posOk_sizes hp
  unfold keyOf
  simp only [Tryz.underlying135]
  rw [hk, hf]
  obtain ⟨d, hd⟩ := types_st
  rw [hd]
  have m : maxLen = 9223372036854775807 := rfl
  obtain ⟨l, hl⟩ := keyLits_state (d + 1) (k := k) (wf_i64 (by have := hp.w1; have := hp.w8; omega)) (wf_i64 (by have := hp.h1; have := hp.h8; omega)) (wf_i64 (by have := hp.t0; have := hp.t1; omega)) (wf_i64 (by omega)) (by omega) (by omega) (by omega)
  have e : (stK k).cells.toList = [.int .i64 k.1.w, .int .i64 k.1.h, .string k.1.cells, .int .i64 k.1.turn, .string k.1.h0, .string k.1.h1, .int .i64 k.2] := rfl
  rw [e, hl]
  exact ⟨_, rfl⟩
theorem keyedS : Keyed Tryz.prog 135 := Keyed.of_law (deep_law_laid (by kernel_rfl) (m := 6) (by omega) (of_decide_eq_true (by kernel_rfl)) (by kernel_rfl) (by rw [Tryz.underlying135]))
theorem keyEncS : KeyEnc Tryz.prog 135 stK okS := ⟨keyedS, key_state, stK_inj⟩
theorem zeroI (u : World) : (zeroValue 3).run Tryz.prog u = .ok (kbI 0) u := by kernel_rfl
/-- the prover's map -/
abbrev SMap (w : World) (b : Nat) (m : List (St × Int)) : Prop := MapL stK kbI okS w b m
theorem SMap.no_cell {w : World} {b o : Nat} {m : List (St × Int)} (h : SMap w b m) : w.cell? ⟨b, o, none⟩ = none := by
  obtain ⟨es, clock, hb, _⟩ := h
  simp [World.cell?, hb]

/-- of what was there, the map in block bm alone may have changed -/
abbrev Kp (bm : Nat) (w w' : World) : Prop := Only (fun k => k = bm) w w'
section
variable {bm : Nat} {w w' w'' : World} {m : List (St × Int)}
theorem Kp.of_later (h : Later w w') : Kp bm w w' := Only.of_below h (fun k hk hB => absurd hB (by omega))
theorem Kp.grown (h : w.grownBy w' (some bm)) : Kp bm w w' := ⟨h.os, h.tape, h.output, h.size, fun i hi hn => h.block i hi (by simpa using hn)⟩
theorem Kp.ne {b o : Nat} {v : Value} (hm : SMap w bm m) (hc : w.cell? ⟨b, o, none⟩ = some v) : b ≠ bm := fun e => by
  rw [e, hm.no_cell] at hc
  cases hc
theorem Kp.cell (h : Kp bm w w') (hm : SMap w bm m) {b o : Nat} {v : Value} (hc : w.cell? ⟨b, o, none⟩ = some v) : w'.cell? ⟨b, o, none⟩ = some v := by
  have hlt := World.block_lt_of_cell? w _ hc
  have := h.block b hlt (Kp.ne hm hc)
  rw [← hc]
  simp only [World.cell?, this]
theorem Kp.blkne {g : Nat} {t : TypeId} {cs : Array Value} (hm : SMap w bm m) (hb : Blk w g t cs) : g ≠ bm := fun e => by
  obtain ⟨es, clock, hb2, _⟩ := hm
  rw [← e, show w.heap[g]? = _ from hb] at hb2
  cases hb2
theorem Kp.blk {g : Nat} {t : TypeId} {cs : Array Value} (h : Kp bm w w') (hm : SMap w bm m) (hb : Blk w g t cs) : Blk w' g t cs := hb.only h (Kp.blkne hm hb)
theorem Kp.cells {B : Nat} {A : Option Addr} {xs : List Value} (h : Kp bm w w') (hm : SMap w bm m) (hc : Cells w B A xs) : Cells w' B A xs := fun hn => by
  obtain ⟨b, off, e, hb, hc⟩ := hc hn
  exact ⟨b, off, e, hb, fun k hk => h.cell hm (hc k hk)⟩
theorem Kp.cert (h : Kp bm w w') (hm : SMap w bm m) {B : Nat} : ∀ (n : Nat) (c : CertD) (A : Option Addr), CertAt w B n c A → CertAt w' B n c A
  | 0, _, _, _ => trivial
  | n + 1, c, A, hc => fun k hk => by
    obtain ⟨b, off, A', cap, hA, hlt, hle, ⟨y0, y1, y2, y3, y4⟩, hn⟩ := hc k hk
    exact ⟨b, off, A', cap, hA, hlt, hle, ⟨h.cell hm y0, h.cell hm y1, h.cell hm y2, h.cell hm y3, h.cell hm y4⟩, Kp.cert h hm n _ _ hn⟩
theorem Kp.below {B : Nat} (h : Kp bm w w') (h1 : B ≤ bm) (h2 : B ≤ w.heap.size) : Below B w w' := h.below_ (fun k hk => by omega) h2
theorem SMap.later (h : SMap w bm m) (hw : Later w w') : SMap w' bm m := h.kept (row := none) ⟨hw.os, hw.tape, hw.output, hw.size, fun i hi _ => hw.block i hi⟩ (by simp)
theorem grownB_trans {a b c : World} {x : Nat} (h : a.grownBy b (some x)) (k : b.grownBy c (some x)) : a.grownBy c (some x) :=
  ⟨k.os.trans h.os, k.tape.trans h.tape, k.output.trans h.output, Nat.le_trans h.size k.size, fun i hi hb => (k.block i (Nat.lt_of_lt_of_le hi h.size) hb).trans (h.block i hi hb)⟩
theorem grownB_drew {a b : World} {x : Nat} (h : a.grownBy b (some x)) : a.grownBy b.drew (some x) := ⟨h.os, h.tape, h.output, h.size, h.block⟩
end
/-- what the map says is lost is not won -/
def GoodM (r : RulesD) (wn : Int) (m : List (St × Int)) : Prop := ∀ k v, getK m k = some v → 0 < v → ∀ d : Nat, k.2 = (d : Int) → winsN r wn d k.1 = false
theorem GoodM.nil {r : RulesD} {wn : Int} : GoodM r wn [] := fun k v h => by rw [getK_nil] at h; cases h
theorem GoodM.put {r : RulesD} {wn : Int} {m : List (St × Int)} (h : GoodM r wn m) {p : Pos} {d : Nat} {x : Int} (hx : x = (d : Int)) (hl : winsN r wn d p = false) (v : Int) : GoodM r wn (putK m (p, x) v) := by
  intro k u hk hu d' hd
  by_cases e : k = (p, x)
  · subst e
    simp only at hd
    obtain rfl : d = d' := by omega
    exact hl
  · rw [getK_put_other m v e] at hk
    exact h k u hk hu d' hd
theorem GoodM.hit {r : RulesD} {wn : Int} {m : List (St × Int)} (h : GoodM r wn m) {p : Pos} {d : Nat} {x : Int} (hx : x = (d : Int)) (hv : 0 < (getK m (p, x)).getD 0) : winsN r wn d p = false := by
  cases hk : getK m (p, x) with
  | none => rw [hk] at hv; simp at hv
  | some v =>
    rw [hk] at hv
    exact h _ v hk hv d hx
end Go.Proofs.YtdfegpohmaideaaGreat
/- What the prover answers, plainly: the certs that it makes show a win. -/
namespace Go.Proofs.YtdfegpohmaideaaGreat

theorem shows_end_cert {r : RulesD} {wn : Int} {d : Nat} {p : Pos} (h : endsN r p ≠ 0 ∨ d = 0) (he : endsN r p = wn + 1) : ShowsN r wn d p noCert := by
  cases d with
  | zero => exact ⟨he, ⟨rfl, rfl⟩, rfl⟩
  | succ d => exact .inl ⟨h.resolve_right (by omega), he, ⟨rfl, rfl⟩, rfl⟩
theorem winsN_end {r : RulesD} {wn : Int} {d : Nat} {p : Pos} (h : endsN r p ≠ 0 ∨ d = 0) : winsN r wn d p = (endsN r p == wn + 1) := by
  have e : (endsN r p == wn + 1) = decide (endsN r p = wn + 1) := by rw [Bool.eq_iff_iff]; simp
  rw [e]
  rcases h with h | h
  · exact winsN_done h
  · subst h; exact winsN_zero
theorem shows_own_cert {r : RulesD} {wn : Int} {d : Nat} {p : Pos} (h : endsN r p = 0) (ht : p.turn = wn) {m : Mv} (hm : m ∈ movesL r p) {k : CertD} (hk : ShowsN r wn d (madeP r p m) k) : ShowsN r wn (d + 1) p (.mk true m [k]) :=
  .inr (.inl ⟨h, ht, rfl, hm, k, rfl, hk⟩)
theorem shows_other_cert {r : RulesD} {wn : Int} {d : Nat} {p : Pos} (h : endsN r p = 0) (ht : p.turn ≠ wn) {ks : List CertD} (hl : ks.length = (nextL r p).length) (hk : ∀ (i : Nat) (h : i < (nextL r p).length) (h2 : i < ks.length), ShowsN r wn d ((nextL r p)[i]) ks[i]) : ShowsN r wn (d + 1) p (.mk false ⟨0, 0, 0⟩ ks) :=
  .inr (.inr ⟨h, ht, ⟨rfl, rfl⟩, hl, fun i hi k hki => by
    have h2 : i < ks.length := by rw [hl]; exact hi
    have e : ks[i]? = some k := hki
    rw [List.getElem?_eq_getElem h2] at e
    injection e with e
    rw [← e]
    exact hk i hi h2⟩)
theorem wins_own_hit {r : RulesD} {wn : Int} {d : Nat} {p : Pos} (h : endsN r p = 0) (ht : p.turn = wn) {q : Pos} (hq : q ∈ nextL r p) (hv : winsN r wn d q = true) : winsN r wn (d + 1) p = true := wins_hit h (tb := true) (decide_eq_true ht) hq hv
theorem wins_other_hit {r : RulesD} {wn : Int} {d : Nat} {p : Pos} (h : endsN r p = 0) (ht : p.turn ≠ wn) {q : Pos} (hq : q ∈ nextL r p) (hv : winsN r wn d q = false) : winsN r wn (d + 1) p = false := wins_hit h (tb := false) (decide_eq_false ht) hq hv
theorem wins_own_miss {r : RulesD} {wn : Int} {d : Nat} {p : Pos} (h : endsN r p = 0) (ht : p.turn = wn) (ha : ∀ q ∈ nextL r p, winsN r wn d q = false) : winsN r wn (d + 1) p = false := wins_miss h (tb := true) (decide_eq_true ht) (fun q hq => by rw [ha q hq]; decide)
theorem wins_other_all {r : RulesD} {wn : Int} {d : Nat} {p : Pos} (h : endsN r p = 0) (ht : p.turn ≠ wn) (ha : ∀ q ∈ nextL r p, winsN r wn d q = true) : winsN r wn (d + 1) p = true := wins_miss h (tb := false) (decide_eq_false ht) (fun q hq => by rw [ha q hq]; decide)
end Go.Proofs.YtdfegpohmaideaaGreat
/- The prover: what a call of prove has in memory; where it answers at once. -/
namespace Go.Proofs.YtdfegpohmaideaaGreat
open Go.RowKit Go.Maps
open Go.ChangeMaps (setBlock)

structure PrSt (W : World) (P X : Array Value) (bx bm B0 : Nat) (A : Option Addr) (ps : List PieceD) (m : List (St × Int)) (w : World) : Prop where
  p : Blk w W.heap.size 24 P
  z : Blk w (W.heap.size + 1) 58 #[.bool false, .int .i64 0, .int .i64 0, .int .u8 0, .slice none 0 0]
  x : Blk w bx 103 X
  map : SMap w bm m
  kp : Kp bm W w
  pcs : PiecesAt w B0 A ps
  b0 : B0 ≤ bm
section
variable {W w w' : World} {P X : Array Value} {bx bm B0 : Nat} {A : Option Addr} {ps : List PieceD} {m m' : List (St × Int)}
theorem PrSt.kp_ (h : PrSt W P X bx bm B0 A ps m w) (hk : Kp bm w w') (hm : SMap w' bm m') : PrSt W P X bx bm B0 A ps m' w' :=
  ⟨hk.blk h.map h.p, hk.blk h.map h.z, hk.blk h.map h.x, hm, h.kp.trans hk, h.pcs.below (hk.below h.b0 (by have := h.map.lt; have := h.b0; omega)), h.b0⟩
theorem PrSt.later_ (h : PrSt W P X bx bm B0 A ps m w) (hw : Later w w') : PrSt W P X bx bm B0 A ps m w' := h.kp_ (Kp.of_later hw) (h.map.later hw)
theorem PrSt.first (hx : Blk W bx 103 X) (hm : SMap W bm m) (hp : PiecesAt W B0 A ps) (hb : B0 ≤ bm) : PrSt W P X bx bm B0 A ps m ((W.alloc (.cells P 24)).alloc (.cells #[.bool false, .int .i64 0, .int .i64 0, .int .u8 0, .slice none 0 0] 58)) := by
  have hw : Later W ((W.alloc (.cells P 24)).alloc (.cells #[.bool false, .int .i64 0, .int .i64 0, .int .u8 0, .slice none 0 0] 58)) := (Later.rfl.alloc _).alloc _
  refine ⟨(Blk.new W _ P).alloc _, ?_, hw.blk hx, hm.later hw, Kp.of_later hw, hp.below ((Kp.of_later (bm := bm) hw).below hb (by have := hm.lt; omega)), hb⟩
  have := Blk.new (W.alloc (.cells P 24)) 58 #[.bool false, .int .i64 0, .int .i64 0, .int .u8 0, .slice none 0 0]
  rwa [World.size_alloc] at this
end
theorem Blk.prover {w : World} {b : Nat} {t : TypeId} {v0 v1 v2 v3 v4 v5 v6 v7 v8 v9 v10 v11 v12 v13 v14 : Value} (h : Blk w b t #[v0, v1, v2, v3, v4, v5, v6, v7, v8, v9, v10, v11, v12, v13, v14]) :
    w.cell? ⟨b, 0, none⟩ = some v0 ∧ w.cell? ⟨b, 1, none⟩ = some v1 ∧ w.cell? ⟨b, 2, none⟩ = some v2 ∧ w.cell? ⟨b, 3, none⟩ = some v3 ∧ w.cell? ⟨b, 4, none⟩ = some v4 ∧ w.cell? ⟨b, 5, none⟩ = some v5 ∧ w.cell? ⟨b, 6, none⟩ = some v6 ∧ w.cell? ⟨b, 7, none⟩ = some v7 ∧ w.cell? ⟨b, 8, none⟩ = some v8 ∧ w.cell? ⟨b, 9, none⟩ = some v9 ∧ w.cell? ⟨b, 10, none⟩ = some v10 ∧ w.cell? ⟨b, 11, none⟩ = some v11 ∧ w.cell? ⟨b, 12, none⟩ = some v12 ∧ w.cell? ⟨b, 13, none⟩ = some v13 ∧ w.cell? ⟨b, 14, none⟩ = some v14 :=
  ⟨h.cellv rfl, h.cellv rfl, h.cellv rfl, h.cellv rfl, h.cellv rfl, h.cellv rfl, h.cellv rfl, h.cellv rfl, h.cellv rfl, h.cellv rfl, h.cellv rfl, h.cellv rfl, h.cellv rfl, h.cellv rfl, h.cellv rfl⟩
/-- the kids of a cert lie in blocks that P tells, so many steps deep -/
def CertIn (w : World) (P : Nat → Prop) : Nat → CertD → Option Addr → Prop
  | 0, _, _ => True
  | n + 1, c, A => ∀ k (h : k < c.kids.length), ∃ b off A' cap, A = some ⟨b, off, none⟩ ∧ P b ∧ c.kids[k].kids.length ≤ cap ∧
      (w.cell? ⟨b, off + k * 5, none⟩ = some (.bool c.kids[k].s) ∧ w.cell? ⟨b, off + k * 5 + 1, none⟩ = some (.int .i64 c.kids[k].m.f) ∧ w.cell? ⟨b, off + k * 5 + 2, none⟩ = some (.int .i64 c.kids[k].m.t) ∧
        w.cell? ⟨b, off + k * 5 + 3, none⟩ = some (.int .u8 (c.kids[k].m.c : Int)) ∧ w.cell? ⟨b, off + k * 5 + 4, none⟩ = some (.slice A' c.kids[k].kids.length cap)) ∧ CertIn w P n c.kids[k] A'
theorem CertIn.keep {w w' : World} {P P' : Nat → Prop} (hk : ∀ b, P b → ∀ o v, w.cell? ⟨b, o, none⟩ = some v → w'.cell? ⟨b, o, none⟩ = some v) (hP : ∀ b, P b → b < w.heap.size → P' b) : ∀ {n : Nat} {c : CertD} {A : Option Addr}, CertIn w P n c A → CertIn w' P' n c A
  | 0, _, _, _ => trivial
  | n + 1, c, A, h => fun k hkl => by
    obtain ⟨b, off, A', cap, hA, hb, hle, ⟨y0, y1, y2, y3, y4⟩, hn⟩ := h k hkl
    exact ⟨b, off, A', cap, hA, hP b hb (World.block_lt_of_cell? w _ y0), hle, ⟨hk b hb _ _ y0, hk b hb _ _ y1, hk b hb _ _ y2, hk b hb _ _ y3, hk b hb _ _ y4⟩, CertIn.keep hk hP hn⟩
theorem CertIn.mono {w : World} {P P' : Nat → Prop} (hP : ∀ b, P b → b < w.heap.size → P' b) {n : Nat} {c : CertD} {A : Option Addr} (h : CertIn w P n c A) : CertIn w P' n c A := h.keep (fun _ _ _ _ h => h) hP
theorem CertIn.at_ {w : World} {P : Nat → Prop} {B : Nat} (hP : ∀ b, P b → b < B) : ∀ {n : Nat} {c : CertD} {A : Option Addr}, CertIn w P n c A → CertAt w B n c A
  | 0, _, _, _ => trivial
  | n + 1, c, A, h => fun k hkl => by
    obtain ⟨b, off, A', cap, hA, hb, hle, hy, hn⟩ := h k hkl
    exact ⟨b, off, A', cap, hA, hP b hb, hle, hy, hn.at_ hP⟩
theorem CertIn.zero {w : World} {P : Nat → Prop} : ∀ {n : Nat}, CertIn w P n noCert none
  | 0 => trivial
  | n + 1 => fun k hk => absurd hk (by simp [noCert, CertD.kids])
/-- what prove answers, in letters -/
def PrAns (r : RulesD) (wn : Int) (v : Bool) (S : CertD → Prop) (d bm : Nat) (W : World) (e : Ending) (w' : World) : Prop :=
  ∃ (m' : List (St × Int)) (c : CertD) (A' : Option Addr) (cp' : Nat), SMap w' bm m' ∧ GoodM r wn m' ∧ Kp bm W w' ∧ e = .returned (.tuple #[.agg #[.bool c.s, .int .i64 c.m.f, .int .i64 c.m.t, .int .u8 (c.m.c : Int), .slice A' c.kids.length cp'], .bool v]) ∧
    c.kids.length ≤ cp' ∧ CertIn w' (fun b => W.heap.size ≤ b) d c A' ∧ (v = true → S c) ∧ (v = false → c = noCert ∧ A' = none ∧ cp' = 0)
/-- what prove answers -/
def PrOut (r : RulesD) (wn : Int) (d : Nat) (p : Pos) (bm : Nat) (W : World) (e : Ending) (w' : World) : Prop :=
  ∃ (m' : List (St × Int)) (c : CertD) (A' : Option Addr) (cp' : Nat), SMap w' bm m' ∧ GoodM r wn m' ∧ Kp bm W w' ∧ e = .returned (.tuple #[.agg #[.bool c.s, .int .i64 c.m.f, .int .i64 c.m.t, .int .u8 (c.m.c : Int), .slice A' c.kids.length cp'], .bool (winsN r wn d p)]) ∧
    c.kids.length ≤ cp' ∧ CertIn w' (fun b => W.heap.size ≤ b) d c A' ∧ (winsN r wn d p = true → ShowsN r wn d p c) ∧ (winsN r wn d p = false → c = noCert ∧ A' = none ∧ cp' = 0)
theorem PrOut.zero {r : RulesD} {wn : Int} {d : Nat} {p : Pos} {bm : Nat} {W w' : World} {m : List (St × Int)} {b : Bool} (h1 : SMap w' bm m) (h2 : GoodM r wn m) (h3 : Kp bm W w') (h4 : winsN r wn d p = b) (h5 : b = true → ShowsN r wn d p noCert) : PrOut r wn d p bm W (.returned (.tuple #[.agg #[.bool false, .int .i64 0, .int .i64 0, .int .u8 0, .slice none 0 0], .bool b])) w' := by
  subst h4
  exact ⟨m, noCert, none, 0, h1, h2, h3, rfl, Nat.le_refl _, CertIn.zero, h5, fun _ => ⟨rfl, rfl, rfl⟩⟩
theorem setRow_blk5 {w : World} {g : Nat} {t : TypeId} {old vs : Array Value} (h : Blk w g t old) : Blk (w.setRow g vs) g t vs := setRow_heap _ _ _ _ _ _ h
theorem Only.setRow {S : Nat → Prop} {W w : World} {g : Nat} {vs : Array Value} (h : Only S W w) (hg : W.heap.size ≤ g) : Only S W (w.setRow g vs) :=
  ⟨h.os, h.tape, h.output, by have := h.size; simpa [World.setRow] using this, fun k hk hn => by rw [setRow_other _ _ _ _ (by omega)]; exact h.block k hk hn⟩
theorem SMap.setRow {w : World} {bm g : Nat} {m : List (St × Int)} {vs : Array Value} (h : SMap w bm m) (hg : g ≠ bm) : SMap (w.setRow g vs) bm m := by
  obtain ⟨es, clock, hb, rest⟩ := h
  exact ⟨es, clock, by rw [setRow_other _ _ _ _ (Ne.symm hg)]; exact hb, rest⟩
theorem Blk.far5 {w : World} {g b : Nat} {t : TypeId} {cs vs : Array Value} (h : Blk w b t cs) (hg : b ≠ g) : Blk (w.drew.setRow g vs) b t cs := (setRow_other _ _ _ _ hg).trans h
theorem Blk.cert5 {w : World} {g : Nat} {t : TypeId} {a b c d e : Value} (h : Blk w g t #[a, b, c, d, e]) :
    w.cell? ⟨g, 0, none⟩ = some a ∧ w.cell? ⟨g, 1, none⟩ = some b ∧ w.cell? ⟨g, 2, none⟩ = some c ∧ w.cell? ⟨g, 3, none⟩ = some d ∧ w.cell? ⟨g, 4, none⟩ = some e :=
  ⟨h.cellv rfl, h.cellv rfl, h.cellv rfl, h.cellv rfl, h.cellv rfl⟩
theorem size_setRow {w : World} {g : Nat} {vs : Array Value} : (w.setRow g vs).heap.size = w.heap.size := by simp [World.setRow]
set_option maxHeartbeats 16000000 in
set_option maxRecDepth 100000 in
theorem prove_end (r : RulesD) (A : Option Addr) (cp : Nat) (wn : Int) (h0 : 0 ≤ wn) (h1 : wn ≤ 1) (d : Nat) (hd9 : d ≤ 9) (p : Pos) (W : World) (bx bm B0 : Nat) (m : List (St × Int)) (hok : OfOk r p) (hx : Blk W bx 103 #[.int .i64 r.start.w, .int .i64 r.start.h, .string r.start.cells, .int .i64 r.start.turn, .string r.start.h0, .string r.start.h1, .slice A r.pieces.length cp, .bool r.drops, .int .u8 r.lose, .int .i64 r.line, .int .u8 r.reach, .bool r.stuck, .int .i64 r.plies, .int .i64 wn, .map (some bm)]) (hm : SMap W bm m) (hg : GoodM r wn m) (hp : PiecesAt W B0 A r.pieces) (hb : B0 ≤ bm) (hd : endsN r p ≠ 0 ∨ d = 0) :
    Calls Tryz.prog 53 #[.pointer (some ⟨bx, 0, none⟩), .agg #[.int .i64 p.w, .int .i64 p.h, .string p.cells, .int .i64 p.turn, .string p.h0, .string p.h1], .int .i64 (d : Int)] W (PrOut r wn d p bm W) := by
  have Hst := hide (PrSt.first (P := #[.int .i64 p.w, .int .i64 p.h, .string p.cells, .int .i64 p.turn, .string p.h0, .string p.h1]) hx hm hp hb)
  have Hnx := hide (fun w (hw : Later ((W.alloc (.cells #[.int .i64 p.w, .int .i64 p.h, .string p.cells, .int .i64 p.turn, .string p.h0, .string p.h1] 24)).alloc (.cells #[.bool false, .int .i64 0, .int .i64 0, .int .u8 0, .slice none 0 0] 58)) w) => nextN_any r A cp p w hok ((Hst.out.later_ hw).pcs.more (by have h := (Hst.out.later_ hw).map.lt; omega)))
  have Hg := hide hg
  have hen := ends_range (r := r) (p := p) (by have := hok.pos.t0; have := hok.pos.t1; omega)
  have HR := hide (winsN_end (wn := wn) hd)
  have HC := hide (shows_end_cert (wn := wn) hd)
  obtain ⟨n, hn⟩ : ∃ n, endsN r p = n := ⟨_, rfl⟩
  rw [hn] at HR HC hd hen
  simp only [hn] at Hnx
  have tw : IntKind.i64.wrap (1 + wn) = 1 + wn := IntWalk.i64_in _ (by omega)
  obtain ⟨b1, hb1⟩ : ∃ b, (n == 1 + wn) = b := ⟨_, rfl⟩
  have hb1' : (n == wn + 1) = b1 := by rw [← hb1, Int.add_comm]
  rw [hb1'] at HR
  have HC2 := hide (show b1 = true → ShowsN r wn d p noCert from fun e => HC.out (by rw [e] at hb1'; simpa using hb1'))
  have tn : ∃ bn, (n != 0) = bn ∧ (bn = true ∨ d = 0) := by
    by_cases hz : n = 0
    · exact ⟨false, by simp [hz], .inr (hd.resolve_left (fun h => h hz))⟩
    · exact ⟨true, by simp [hz], .inl rfl⟩
  obtain ⟨bn, tn1, tn2⟩ := tn
  have hx0 : bx < W.heap.size := hx.lt
  have hm0 : bm < W.heap.size := hm.lt
  clear hd hn hb1' HC hx hm hp hg hok hen
  go_enter Tryz.func53, Tryz.ntmps53
  go_upto_region 1 with (fail)
  obtain ⟨w0, hw0⟩ : ∃ w0, ((W.alloc (.cells #[.int .i64 p.w, .int .i64 p.h, .string p.cells, .int .i64 p.turn, .string p.h0, .string p.h1] 24)).alloc (.cells #[.bool false, .int .i64 0, .int .i64 0, .int .u8 0, .slice none 0 0] 58)) = w0 := ⟨_, rfl⟩
  rw [hw0] at Hst Hnx ⊢
  clear hw0
  have HS := hide (show ∀ w' : World, Later w0 w' → (w'.cell? ⟨bx, 0, none⟩ = some (.int .i64 r.start.w) ∧ w'.cell? ⟨bx, 1, none⟩ = some (.int .i64 r.start.h) ∧ w'.cell? ⟨bx, 2, none⟩ = some (.string r.start.cells) ∧ w'.cell? ⟨bx, 3, none⟩ = some (.int .i64 r.start.turn) ∧ w'.cell? ⟨bx, 4, none⟩ = some (.string r.start.h0) ∧ w'.cell? ⟨bx, 5, none⟩ = some (.string r.start.h1) ∧ w'.cell? ⟨bx, 6, none⟩ = some (.slice A r.pieces.length cp) ∧ w'.cell? ⟨bx, 7, none⟩ = some (.bool r.drops) ∧ w'.cell? ⟨bx, 8, none⟩ = some (.int .u8 r.lose) ∧ w'.cell? ⟨bx, 9, none⟩ = some (.int .i64 r.line) ∧ w'.cell? ⟨bx, 10, none⟩ = some (.int .u8 r.reach) ∧ w'.cell? ⟨bx, 11, none⟩ = some (.bool r.stuck) ∧ w'.cell? ⟨bx, 12, none⟩ = some (.int .i64 r.plies) ∧ w'.cell? ⟨bx, 13, none⟩ = some (.int .i64 wn) ∧ w'.cell? ⟨bx, 14, none⟩ = some (.map (some bm)) ∧ w'.cell? ⟨W.heap.size, 0, none⟩ = some (.int .i64 p.w) ∧ w'.cell? ⟨W.heap.size, 1, none⟩ = some (.int .i64 p.h) ∧ w'.cell? ⟨W.heap.size, 2, none⟩ = some (.string p.cells) ∧ w'.cell? ⟨W.heap.size, 3, none⟩ = some (.int .i64 p.turn) ∧ w'.cell? ⟨W.heap.size, 4, none⟩ = some (.string p.h0) ∧ w'.cell? ⟨W.heap.size, 5, none⟩ = some (.string p.h1)) from fun w' hw => by
    have h := Hst.out.later_ hw
    obtain ⟨x0, x1, x2, x3, x4, x5, x6, x7, x8, x9, x10, x11, x12, x13, x14⟩ := h.x.prover
    obtain ⟨p0, p1, p2, p3, p4, p5⟩ := h.p.pos6
    exact ⟨x0, x1, x2, x3, x4, x5, x6, x7, x8, x9, x10, x11, x12, x13, x14, p0, p1, p2, p3, p4, p5⟩)
  refine wp_region_held_drew (S := fun w' : World => (w'.cell? ⟨bx, 0, none⟩ = some (.int .i64 r.start.w) ∧ w'.cell? ⟨bx, 1, none⟩ = some (.int .i64 r.start.h) ∧ w'.cell? ⟨bx, 2, none⟩ = some (.string r.start.cells) ∧ w'.cell? ⟨bx, 3, none⟩ = some (.int .i64 r.start.turn) ∧ w'.cell? ⟨bx, 4, none⟩ = some (.string r.start.h0) ∧ w'.cell? ⟨bx, 5, none⟩ = some (.string r.start.h1) ∧ w'.cell? ⟨bx, 6, none⟩ = some (.slice A r.pieces.length cp) ∧ w'.cell? ⟨bx, 7, none⟩ = some (.bool r.drops) ∧ w'.cell? ⟨bx, 8, none⟩ = some (.int .u8 r.lose) ∧ w'.cell? ⟨bx, 9, none⟩ = some (.int .i64 r.line) ∧ w'.cell? ⟨bx, 10, none⟩ = some (.int .u8 r.reach) ∧ w'.cell? ⟨bx, 11, none⟩ = some (.bool r.stuck) ∧ w'.cell? ⟨bx, 12, none⟩ = some (.int .i64 r.plies) ∧ w'.cell? ⟨bx, 13, none⟩ = some (.int .i64 wn) ∧ w'.cell? ⟨bx, 14, none⟩ = some (.map (some bm)) ∧ w'.cell? ⟨W.heap.size, 0, none⟩ = some (.int .i64 p.w) ∧ w'.cell? ⟨W.heap.size, 1, none⟩ = some (.int .i64 p.h) ∧ w'.cell? ⟨W.heap.size, 2, none⟩ = some (.string p.cells) ∧ w'.cell? ⟨W.heap.size, 3, none⟩ = some (.int .i64 p.turn) ∧ w'.cell? ⟨W.heap.size, 4, none⟩ = some (.string p.h0) ∧ w'.cell? ⟨W.heap.size, 5, none⟩ = some (.string p.h1))) (by kernel_rfl) (HS.out _ Later.rfl.drew) (fun hHeld => ?_)
  refine wpAnyH_take (i := 0) (oi := ⟨some 17, _, _, _, _, _⟩) (v := ?_) rfl (by kernel_rfl) (by kernel_rfl) (by kernel_rfl) (fun _ _ _ h => h) (Or.inl ⟨by rfl, ?_⟩) (by assumption) ?_
  rotate_left 1
  · intro w hSw
    try dsimp only at hSw
    go_simp <;> with_reducible rfl
  try simp only [Act.put, List.setIfInBounds_toArray, List.set_cons_zero, List.set_cons_succ]
  refine wpAnyH_take (i := 1) (oi := ⟨some 18, _, _, _, _, _⟩) (v := ?_) rfl (by kernel_rfl) (by kernel_rfl) (by kernel_rfl) (fun _ _ _ h => h) (Or.inl ⟨by rfl, ?_⟩) (by assumption) ?_
  rotate_left 1
  · intro w hSw
    try dsimp only at hSw
    go_simp <;> with_reducible rfl
  try simp only [Act.put, List.setIfInBounds_toArray, List.set_cons_zero, List.set_cons_succ]
  refine wpAnyH_take (i := 2) (oi := ⟨some 19, _, _, _, _, _⟩) (v := ?_) rfl (by kernel_rfl) (by kernel_rfl) (by kernel_rfl) (fun _ _ _ h => h) (Or.inl ⟨by rfl, ?_⟩) (by assumption) ?_
  rotate_left 1
  · intro w hSw
    try dsimp only at hSw
    go_simp <;> with_reducible rfl
  try simp only [Act.put, List.setIfInBounds_toArray, List.set_cons_zero, List.set_cons_succ]
  refine wpAnyH_take (i := 3) (oi := ⟨some 20, _, _, _, _, _⟩) (v := ?_) rfl (by kernel_rfl) (by kernel_rfl) (by kernel_rfl) (fun _ _ _ h => h) (Or.inl ⟨by rfl, ?_⟩) (by assumption) ?_
  rotate_left 1
  · intro w hSw
    try dsimp only at hSw
    go_simp <;> with_reducible rfl
  try simp only [Act.put, List.setIfInBounds_toArray, List.set_cons_zero, List.set_cons_succ]
  refine wpAnyH_take (i := 4) (oi := ⟨some 21, _, _, _, _, _⟩) (v := ?_) rfl (by kernel_rfl) (by kernel_rfl) (by kernel_rfl) (fun _ _ _ h => h) (Or.inl ⟨by rfl, ?_⟩) (by assumption) ?_
  rotate_left 1
  · intro w hSw
    try dsimp only at hSw
    go_simp <;> with_reducible rfl
  try simp only [Act.put, List.setIfInBounds_toArray, List.set_cons_zero, List.set_cons_succ]
  refine wpAnyH_ready (rs := [5]) (by kernel_rfl) (by simp) ?_
  refine AllReadyH.cons (o := ⟨some 22, _, _, _, _, _⟩) rfl (fun K hK => ?_) ?_
  · clear hHeld
    go_simp
    go_at_call 44
    refine (Hnx.out _ (by repeat (first | exact Later.rfl | refine Later.drew ?_))).mono ?_
    rintro e wt ⟨A1, c1, A2, c2, rfl, hcm, hcq, hwx⟩
    have hwq : Later w0 wt := Later.trans (by repeat (first | exact Later.rfl | refine Later.drew ?_)) hwx
    clear hwx
    try go_wp2_with fail
    refine hK.out _ _ (by refine HS.out _ ?_; repeat (first | exact Later.rfl | exact hwq | refine Later.drew ?_)) (fun hHeld => ?_)
    clear hK K
    try simp only [Act.put, List.setIfInBounds_toArray, List.set_cons_zero, List.set_cons_succ]
    refine wpAnyH_take (i := 6) (oi := ⟨some 16, _, _, _, _, _⟩) (v := ?_) rfl (by kernel_rfl) (by kernel_rfl) (by kernel_rfl) (fun _ _ _ h => h) (Or.inl ⟨by rfl, ?_⟩) (by assumption) ?_
    rotate_left 1
    · intro w hSw
      try dsimp only at hSw
      go_simp <;> with_reducible rfl
    try simp only [Act.put, List.setIfInBounds_toArray, List.set_cons_zero, List.set_cons_succ]
    refine wpAnyH_take (i := 7) (oi := ⟨some 23, _, _, _, _, _⟩) (v := ?_) rfl (by kernel_rfl) (by kernel_rfl) (by kernel_rfl) (fun _ _ _ h => h) (Or.inl ⟨by rfl, ?_⟩) (by assumption) ?_
    rotate_left 1
    · intro w hSw
      try dsimp only at hSw
      go_simp <;> with_reducible rfl
    try simp only [Act.put, List.setIfInBounds_toArray, List.set_cons_zero, List.set_cons_succ]
    refine wpAnyH_take (i := 8) (oi := ⟨some 24, _, _, _, _, _⟩) (v := ?_) rfl (by kernel_rfl) (by kernel_rfl) (by kernel_rfl) (fun _ _ _ h => h) (Or.inl ⟨by rfl, ?_⟩) (by assumption) ?_
    rotate_left 1
    · intro w hSw
      try dsimp only at hSw
      go_simp <;> with_reducible rfl
    try simp only [Act.put, List.setIfInBounds_toArray, List.set_cons_zero, List.set_cons_succ]
    refine wpAnyH_take (i := 9) (oi := ⟨some 25, _, _, _, _, _⟩) (v := ?_) rfl (by kernel_rfl) (by kernel_rfl) (by kernel_rfl) (fun _ _ _ h => h) (Or.inl ⟨by rfl, ?_⟩) (by assumption) ?_
    rotate_left 1
    · intro w hSw
      try dsimp only at hSw
      go_simp <;> with_reducible rfl
    try simp only [Act.put, List.setIfInBounds_toArray, List.set_cons_zero, List.set_cons_succ]
    refine wpAnyH_take (i := 10) (oi := ⟨some 8, _, _, _, _, _⟩) (v := ?_) rfl (by kernel_rfl) (by kernel_rfl) (by kernel_rfl) (fun _ _ _ h => h) (Or.inl ⟨by rfl, ?_⟩) (by assumption) ?_
    rotate_left 1
    · intro w hSw
      try dsimp only at hSw
      go_simp <;> with_reducible rfl
    try simp only [Act.put, List.setIfInBounds_toArray, List.set_cons_zero, List.set_cons_succ]
    refine wpAnyH_take (i := 11) (oi := ⟨some 9, _, _, _, _, _⟩) (v := ?_) rfl (by kernel_rfl) (by kernel_rfl) (by kernel_rfl) (fun _ _ _ h => h) (Or.inl ⟨by rfl, ?_⟩) (by assumption) ?_
    rotate_left 1
    · intro w hSw
      try dsimp only at hSw
      go_simp <;> with_reducible rfl
    try simp only [Act.put, List.setIfInBounds_toArray, List.set_cons_zero, List.set_cons_succ]
    refine wpAnyH_take (i := 12) (oi := ⟨some 10, _, _, _, _, _⟩) (v := ?_) rfl (by kernel_rfl) (by kernel_rfl) (by kernel_rfl) (fun _ _ _ h => h) (Or.inl ⟨by rfl, ?_⟩) (by assumption) ?_
    rotate_left 1
    · intro w hSw
      try dsimp only at hSw
      go_simp <;> with_reducible rfl
    try simp only [Act.put, List.setIfInBounds_toArray, List.set_cons_zero, List.set_cons_succ]
    refine wpAnyH_done (by kernel_rfl) ?_ _
    have Hst1 := hide (Hst.out.later_ hwq)
    have Hcm := hide hcm
    have Hcq := hide hcq
    clear hHeld HS Hst hwq hcm hcq
    obtain ⟨w1, hw1⟩ : ∃ w1, wt = w1 := ⟨_, rfl⟩
    rw [hw1] at Hst1 Hcm Hcq ⊢
    clear hw1
    clear Hnx
    rcases tn2 with rfl | rfl
    · go_upto_region 3 with (fail)
      have HS := hide (show ∀ w' : World, Blk w' bx 103 #[.int .i64 r.start.w, .int .i64 r.start.h, .string r.start.cells, .int .i64 r.start.turn, .string r.start.h0, .string r.start.h1, .slice A r.pieces.length cp, .bool r.drops, .int .u8 r.lose, .int .i64 r.line, .int .u8 r.reach, .bool r.stuck, .int .i64 r.plies, .int .i64 wn, .map (some bm)] → (w'.cell? ⟨bx, 0, none⟩ = some (.int .i64 r.start.w) ∧ w'.cell? ⟨bx, 1, none⟩ = some (.int .i64 r.start.h) ∧ w'.cell? ⟨bx, 2, none⟩ = some (.string r.start.cells) ∧ w'.cell? ⟨bx, 3, none⟩ = some (.int .i64 r.start.turn) ∧ w'.cell? ⟨bx, 4, none⟩ = some (.string r.start.h0) ∧ w'.cell? ⟨bx, 5, none⟩ = some (.string r.start.h1) ∧ w'.cell? ⟨bx, 6, none⟩ = some (.slice A r.pieces.length cp) ∧ w'.cell? ⟨bx, 7, none⟩ = some (.bool r.drops) ∧ w'.cell? ⟨bx, 8, none⟩ = some (.int .u8 r.lose) ∧ w'.cell? ⟨bx, 9, none⟩ = some (.int .i64 r.line) ∧ w'.cell? ⟨bx, 10, none⟩ = some (.int .u8 r.reach) ∧ w'.cell? ⟨bx, 11, none⟩ = some (.bool r.stuck) ∧ w'.cell? ⟨bx, 12, none⟩ = some (.int .i64 r.plies) ∧ w'.cell? ⟨bx, 13, none⟩ = some (.int .i64 wn) ∧ w'.cell? ⟨bx, 14, none⟩ = some (.map (some bm))) from fun w' h => h.prover)
      refine wp_region_held_drew (S := fun w' : World => (w'.cell? ⟨bx, 0, none⟩ = some (.int .i64 r.start.w) ∧ w'.cell? ⟨bx, 1, none⟩ = some (.int .i64 r.start.h) ∧ w'.cell? ⟨bx, 2, none⟩ = some (.string r.start.cells) ∧ w'.cell? ⟨bx, 3, none⟩ = some (.int .i64 r.start.turn) ∧ w'.cell? ⟨bx, 4, none⟩ = some (.string r.start.h0) ∧ w'.cell? ⟨bx, 5, none⟩ = some (.string r.start.h1) ∧ w'.cell? ⟨bx, 6, none⟩ = some (.slice A r.pieces.length cp) ∧ w'.cell? ⟨bx, 7, none⟩ = some (.bool r.drops) ∧ w'.cell? ⟨bx, 8, none⟩ = some (.int .u8 r.lose) ∧ w'.cell? ⟨bx, 9, none⟩ = some (.int .i64 r.line) ∧ w'.cell? ⟨bx, 10, none⟩ = some (.int .u8 r.reach) ∧ w'.cell? ⟨bx, 11, none⟩ = some (.bool r.stuck) ∧ w'.cell? ⟨bx, 12, none⟩ = some (.int .i64 r.plies) ∧ w'.cell? ⟨bx, 13, none⟩ = some (.int .i64 wn) ∧ w'.cell? ⟨bx, 14, none⟩ = some (.map (some bm)))) (by kernel_rfl) (HS.out _ (show Blk _ _ 103 #[.int .i64 r.start.w, .int .i64 r.start.h, .string r.start.cells, .int .i64 r.start.turn, .string r.start.h0, .string r.start.h1, .slice A r.pieces.length cp, .bool r.drops, .int .u8 r.lose, .int .i64 r.line, .int .u8 r.reach, .bool r.stuck, .int .i64 r.plies, .int .i64 wn, .map (some bm)] from Hst1.out.x)) (fun hHeld => ?_)
      refine wpAnyH_take (i := 0) (oi := ⟨some 32, _, _, _, _, _⟩) (v := ?_) rfl (by kernel_rfl) (by kernel_rfl) (by kernel_rfl) (fun _ _ _ h => h) (Or.inl ⟨by rfl, ?_⟩) (by assumption) ?_
      rotate_left 1
      · intro w hSw
        try dsimp only at hSw
        go_simp <;> with_reducible rfl
      try simp only [Act.put, List.setIfInBounds_toArray, List.set_cons_zero, List.set_cons_succ]
      refine wpAnyH_take (i := 1) (oi := ⟨some 33, _, _, _, _, _⟩) (v := ?_) rfl (by kernel_rfl) (by kernel_rfl) (by kernel_rfl) (fun _ _ _ h => h) (Or.inl ⟨by rfl, ?_⟩) (by assumption) ?_
      rotate_left 1
      · intro w hSw
        try dsimp only at hSw
        go_simp <;> with_reducible rfl
      try simp only [Act.put, List.setIfInBounds_toArray, List.set_cons_zero, List.set_cons_succ]
      refine wpAnyH_take (i := 2) (oi := ⟨some 34, _, _, _, _, _⟩) (v := ?_) rfl (by kernel_rfl) (by kernel_rfl) (by kernel_rfl) (fun _ _ _ h => h) (Or.inl ⟨by rfl, ?_⟩) (by assumption) ?_
      rotate_left 1
      · intro w hSw
        try dsimp only at hSw
        go_simp <;> with_reducible rfl
      try simp only [Act.put, List.setIfInBounds_toArray, List.set_cons_zero, List.set_cons_succ]
      refine wpAnyH_take (i := 3) (oi := ⟨some 35, _, _, _, _, _⟩) (v := ?_) rfl (by kernel_rfl) (by kernel_rfl) (by kernel_rfl) (fun _ _ _ h => h) (Or.inl ⟨by rfl, ?_⟩) (by assumption) ?_
      rotate_left 1
      · intro w hSw
        try dsimp only at hSw
        go_simp <;> with_reducible rfl
      try simp only [Act.put, List.setIfInBounds_toArray, List.set_cons_zero, List.set_cons_succ]
      refine wpAnyH_take (i := 4) (oi := ⟨some 36, _, _, _, _, _⟩) (v := ?_) rfl (by kernel_rfl) (by kernel_rfl) (by kernel_rfl) (fun _ _ _ h => h) (Or.inl ⟨by rfl, ?_⟩) (by assumption) ?_
      rotate_left 1
      · intro w hSw
        try dsimp only at hSw
        go_simp <;> with_reducible rfl
      try simp only [Act.put, List.setIfInBounds_toArray, List.set_cons_zero, List.set_cons_succ]
      refine wpAnyH_take (i := 5) (oi := ⟨some 37, _, _, _, _, _⟩) (v := ?_) rfl (by kernel_rfl) (by kernel_rfl) (by kernel_rfl) (fun _ _ _ h => h) (Or.inl ⟨by rfl, ?_⟩) (by assumption) ?_
      rotate_left 1
      · intro w hSw
        try dsimp only at hSw
        go_simp <;> with_reducible rfl
      try simp only [Act.put, List.setIfInBounds_toArray, List.set_cons_zero, List.set_cons_succ]
      refine wpAnyH_take (i := 6) (oi := ⟨some 38, _, _, _, _, _⟩) (v := ?_) rfl (by kernel_rfl) (by kernel_rfl) (by kernel_rfl) (fun _ _ _ h => h) (Or.inl ⟨by rfl, ?_⟩) (by assumption) ?_
      rotate_left 1
      · intro w hSw
        try dsimp only at hSw
        go_simp <;> with_reducible rfl
      try simp only [Act.put, List.setIfInBounds_toArray, List.set_cons_zero, List.set_cons_succ]
      refine wpAnyH_take (i := 7) (oi := ⟨some 39, _, _, _, _, _⟩) (v := ?_) rfl (by kernel_rfl) (by kernel_rfl) (by kernel_rfl) (fun _ _ _ h => h) (Or.inl ⟨by rfl, ?_⟩) (by assumption) ?_
      rotate_left 1
      · intro w hSw
        try dsimp only at hSw
        go_simp <;> with_reducible rfl
      try simp only [Act.put, List.setIfInBounds_toArray, List.set_cons_zero, List.set_cons_succ]
      refine wpAnyH_ready (rs := [8]) (by kernel_rfl) (by simp) ?_
      refine AllReadyH.cons (o := ⟨none, _, _, _, _, _⟩) rfl (fun K hK => ?_) ?_
      · clear hHeld
        rw [if_pos (by rfl)]
        refine wp_store_row 58 (.tmp 6) (.tmp 32) rfl (W.heap.size + 1) #[.bool false, .int .i64 0, .int .i64 0, .int .u8 0, .slice none 0 0] rfl rfl 58 _ (show Blk _ _ 58 #[.bool false, .int .i64 0, .int .i64 0, .int .u8 0, .slice none 0 0] from Hst1.out.z) (by kernel_rfl) (by simp) (by simp [Value.oneCell']) ?_
        try go_wp2_with fail
        refine hK.out _ _ (by refine HS.out _ ?_; exact Blk.far5 Hst1.out.x (by omega)) (fun hHeld => ?_)
        clear hK K
        try simp only [Act.put]
        refine wpAnyH_take (i := 9) (oi := ⟨some 7, _, _, _, _, _⟩) (v := ?_) rfl (by kernel_rfl) (by kernel_rfl) (by kernel_rfl) (fun _ _ _ h => h) (Or.inl ⟨by rfl, ?_⟩) (by assumption) ?_
        rotate_left 1
        · intro w hSw
          try dsimp only at hSw
          go_simp <;> with_reducible rfl
        try simp only [Act.put, List.setIfInBounds_toArray, List.set_cons_zero, List.set_cons_succ]
        refine wpAnyH_done (by kernel_rfl) ?_ _
        obtain ⟨wz, hwz⟩ : ∃ wz, World.setRow w1.drew (W.heap.size + 1) #[.bool false, .int .i64 0, .int .i64 0, .int .u8 0, .slice none 0 0] = wz := ⟨_, rfl⟩
        have hzz : Blk wz (W.heap.size + 1) 58 #[.bool false, .int .i64 0, .int .i64 0, .int .u8 0, .slice none 0 0] := by rw [← hwz]; exact setRow_blk5 (show Blk w1.drew _ 58 #[.bool false, .int .i64 0, .int .i64 0, .int .u8 0, .slice none 0 0] from Hst1.out.z)
        have hkz : Kp bm W wz := by rw [← hwz]; exact Hst1.out.kp.drew.setRow (by omega)
        have hmz : SMap wz bm m := by rw [← hwz]; exact SMap.setRow (show SMap w1.drew bm m from Hst1.out.map) (by omega)
        rw [hwz]
        clear hwz
        obtain ⟨z0, z1, z2, z3, z4⟩ := hzz.cert5
        have Hkz := hide hkz
        have Hmz := hide hmz
        clear hkz hmz
        go_wp2_with fail
        refine bodyPost_ret (v := .tuple #[.agg #[.bool false, .int .i64 0, .int .i64 0, .int .u8 0, .slice none 0 0], .bool b1]) (by simp [results, Tryz.results53, go_sem, z0, z1, z2, z3, z4]) rfl ?_
        exact PrOut.zero Hmz.out Hg.out Hkz.out HR.out HC2.out
      exact AllReadyH.nil
    · cases bn
      · go_upto_region 3 with (fail)
        have HS := hide (show ∀ w' : World, Blk w' bx 103 #[.int .i64 r.start.w, .int .i64 r.start.h, .string r.start.cells, .int .i64 r.start.turn, .string r.start.h0, .string r.start.h1, .slice A r.pieces.length cp, .bool r.drops, .int .u8 r.lose, .int .i64 r.line, .int .u8 r.reach, .bool r.stuck, .int .i64 r.plies, .int .i64 wn, .map (some bm)] → (w'.cell? ⟨bx, 0, none⟩ = some (.int .i64 r.start.w) ∧ w'.cell? ⟨bx, 1, none⟩ = some (.int .i64 r.start.h) ∧ w'.cell? ⟨bx, 2, none⟩ = some (.string r.start.cells) ∧ w'.cell? ⟨bx, 3, none⟩ = some (.int .i64 r.start.turn) ∧ w'.cell? ⟨bx, 4, none⟩ = some (.string r.start.h0) ∧ w'.cell? ⟨bx, 5, none⟩ = some (.string r.start.h1) ∧ w'.cell? ⟨bx, 6, none⟩ = some (.slice A r.pieces.length cp) ∧ w'.cell? ⟨bx, 7, none⟩ = some (.bool r.drops) ∧ w'.cell? ⟨bx, 8, none⟩ = some (.int .u8 r.lose) ∧ w'.cell? ⟨bx, 9, none⟩ = some (.int .i64 r.line) ∧ w'.cell? ⟨bx, 10, none⟩ = some (.int .u8 r.reach) ∧ w'.cell? ⟨bx, 11, none⟩ = some (.bool r.stuck) ∧ w'.cell? ⟨bx, 12, none⟩ = some (.int .i64 r.plies) ∧ w'.cell? ⟨bx, 13, none⟩ = some (.int .i64 wn) ∧ w'.cell? ⟨bx, 14, none⟩ = some (.map (some bm))) from fun w' h => h.prover)
        refine wp_region_held_drew (S := fun w' : World => (w'.cell? ⟨bx, 0, none⟩ = some (.int .i64 r.start.w) ∧ w'.cell? ⟨bx, 1, none⟩ = some (.int .i64 r.start.h) ∧ w'.cell? ⟨bx, 2, none⟩ = some (.string r.start.cells) ∧ w'.cell? ⟨bx, 3, none⟩ = some (.int .i64 r.start.turn) ∧ w'.cell? ⟨bx, 4, none⟩ = some (.string r.start.h0) ∧ w'.cell? ⟨bx, 5, none⟩ = some (.string r.start.h1) ∧ w'.cell? ⟨bx, 6, none⟩ = some (.slice A r.pieces.length cp) ∧ w'.cell? ⟨bx, 7, none⟩ = some (.bool r.drops) ∧ w'.cell? ⟨bx, 8, none⟩ = some (.int .u8 r.lose) ∧ w'.cell? ⟨bx, 9, none⟩ = some (.int .i64 r.line) ∧ w'.cell? ⟨bx, 10, none⟩ = some (.int .u8 r.reach) ∧ w'.cell? ⟨bx, 11, none⟩ = some (.bool r.stuck) ∧ w'.cell? ⟨bx, 12, none⟩ = some (.int .i64 r.plies) ∧ w'.cell? ⟨bx, 13, none⟩ = some (.int .i64 wn) ∧ w'.cell? ⟨bx, 14, none⟩ = some (.map (some bm)))) (by kernel_rfl) (HS.out _ (show Blk _ _ 103 #[.int .i64 r.start.w, .int .i64 r.start.h, .string r.start.cells, .int .i64 r.start.turn, .string r.start.h0, .string r.start.h1, .slice A r.pieces.length cp, .bool r.drops, .int .u8 r.lose, .int .i64 r.line, .int .u8 r.reach, .bool r.stuck, .int .i64 r.plies, .int .i64 wn, .map (some bm)] from Hst1.out.x)) (fun hHeld => ?_)
        refine wpAnyH_take (i := 0) (oi := ⟨some 32, _, _, _, _, _⟩) (v := ?_) rfl (by kernel_rfl) (by kernel_rfl) (by kernel_rfl) (fun _ _ _ h => h) (Or.inl ⟨by rfl, ?_⟩) (by assumption) ?_
        rotate_left 1
        · intro w hSw
          try dsimp only at hSw
          go_simp <;> with_reducible rfl
        try simp only [Act.put, List.setIfInBounds_toArray, List.set_cons_zero, List.set_cons_succ]
        refine wpAnyH_take (i := 1) (oi := ⟨some 33, _, _, _, _, _⟩) (v := ?_) rfl (by kernel_rfl) (by kernel_rfl) (by kernel_rfl) (fun _ _ _ h => h) (Or.inl ⟨by rfl, ?_⟩) (by assumption) ?_
        rotate_left 1
        · intro w hSw
          try dsimp only at hSw
          go_simp <;> with_reducible rfl
        try simp only [Act.put, List.setIfInBounds_toArray, List.set_cons_zero, List.set_cons_succ]
        refine wpAnyH_take (i := 2) (oi := ⟨some 34, _, _, _, _, _⟩) (v := ?_) rfl (by kernel_rfl) (by kernel_rfl) (by kernel_rfl) (fun _ _ _ h => h) (Or.inl ⟨by rfl, ?_⟩) (by assumption) ?_
        rotate_left 1
        · intro w hSw
          try dsimp only at hSw
          go_simp <;> with_reducible rfl
        try simp only [Act.put, List.setIfInBounds_toArray, List.set_cons_zero, List.set_cons_succ]
        refine wpAnyH_take (i := 3) (oi := ⟨some 35, _, _, _, _, _⟩) (v := ?_) rfl (by kernel_rfl) (by kernel_rfl) (by kernel_rfl) (fun _ _ _ h => h) (Or.inl ⟨by rfl, ?_⟩) (by assumption) ?_
        rotate_left 1
        · intro w hSw
          try dsimp only at hSw
          go_simp <;> with_reducible rfl
        try simp only [Act.put, List.setIfInBounds_toArray, List.set_cons_zero, List.set_cons_succ]
        refine wpAnyH_take (i := 4) (oi := ⟨some 36, _, _, _, _, _⟩) (v := ?_) rfl (by kernel_rfl) (by kernel_rfl) (by kernel_rfl) (fun _ _ _ h => h) (Or.inl ⟨by rfl, ?_⟩) (by assumption) ?_
        rotate_left 1
        · intro w hSw
          try dsimp only at hSw
          go_simp <;> with_reducible rfl
        try simp only [Act.put, List.setIfInBounds_toArray, List.set_cons_zero, List.set_cons_succ]
        refine wpAnyH_take (i := 5) (oi := ⟨some 37, _, _, _, _, _⟩) (v := ?_) rfl (by kernel_rfl) (by kernel_rfl) (by kernel_rfl) (fun _ _ _ h => h) (Or.inl ⟨by rfl, ?_⟩) (by assumption) ?_
        rotate_left 1
        · intro w hSw
          try dsimp only at hSw
          go_simp <;> with_reducible rfl
        try simp only [Act.put, List.setIfInBounds_toArray, List.set_cons_zero, List.set_cons_succ]
        refine wpAnyH_take (i := 6) (oi := ⟨some 38, _, _, _, _, _⟩) (v := ?_) rfl (by kernel_rfl) (by kernel_rfl) (by kernel_rfl) (fun _ _ _ h => h) (Or.inl ⟨by rfl, ?_⟩) (by assumption) ?_
        rotate_left 1
        · intro w hSw
          try dsimp only at hSw
          go_simp <;> with_reducible rfl
        try simp only [Act.put, List.setIfInBounds_toArray, List.set_cons_zero, List.set_cons_succ]
        refine wpAnyH_take (i := 7) (oi := ⟨some 39, _, _, _, _, _⟩) (v := ?_) rfl (by kernel_rfl) (by kernel_rfl) (by kernel_rfl) (fun _ _ _ h => h) (Or.inl ⟨by rfl, ?_⟩) (by assumption) ?_
        rotate_left 1
        · intro w hSw
          try dsimp only at hSw
          go_simp <;> with_reducible rfl
        try simp only [Act.put, List.setIfInBounds_toArray, List.set_cons_zero, List.set_cons_succ]
        refine wpAnyH_ready (rs := [8]) (by kernel_rfl) (by simp) ?_
        refine AllReadyH.cons (o := ⟨none, _, _, _, _, _⟩) rfl (fun K hK => ?_) ?_
        · clear hHeld
          rw [if_pos (by rfl)]
          refine wp_store_row 58 (.tmp 6) (.tmp 32) rfl (W.heap.size + 1) #[.bool false, .int .i64 0, .int .i64 0, .int .u8 0, .slice none 0 0] rfl rfl 58 _ (show Blk _ _ 58 #[.bool false, .int .i64 0, .int .i64 0, .int .u8 0, .slice none 0 0] from Hst1.out.z) (by kernel_rfl) (by simp) (by simp [Value.oneCell']) ?_
          try go_wp2_with fail
          refine hK.out _ _ (by refine HS.out _ ?_; exact Blk.far5 Hst1.out.x (by omega)) (fun hHeld => ?_)
          clear hK K
          try simp only [Act.put]
          refine wpAnyH_take (i := 9) (oi := ⟨some 7, _, _, _, _, _⟩) (v := ?_) rfl (by kernel_rfl) (by kernel_rfl) (by kernel_rfl) (fun _ _ _ h => h) (Or.inl ⟨by rfl, ?_⟩) (by assumption) ?_
          rotate_left 1
          · intro w hSw
            try dsimp only at hSw
            go_simp <;> with_reducible rfl
          try simp only [Act.put, List.setIfInBounds_toArray, List.set_cons_zero, List.set_cons_succ]
          refine wpAnyH_done (by kernel_rfl) ?_ _
          obtain ⟨wz, hwz⟩ : ∃ wz, World.setRow w1.drew (W.heap.size + 1) #[.bool false, .int .i64 0, .int .i64 0, .int .u8 0, .slice none 0 0] = wz := ⟨_, rfl⟩
          have hzz : Blk wz (W.heap.size + 1) 58 #[.bool false, .int .i64 0, .int .i64 0, .int .u8 0, .slice none 0 0] := by rw [← hwz]; exact setRow_blk5 (show Blk w1.drew _ 58 #[.bool false, .int .i64 0, .int .i64 0, .int .u8 0, .slice none 0 0] from Hst1.out.z)
          have hkz : Kp bm W wz := by rw [← hwz]; exact Hst1.out.kp.drew.setRow (by omega)
          have hmz : SMap wz bm m := by rw [← hwz]; exact SMap.setRow (show SMap w1.drew bm m from Hst1.out.map) (by omega)
          rw [hwz]
          clear hwz
          obtain ⟨z0, z1, z2, z3, z4⟩ := hzz.cert5
          have Hkz := hide hkz
          have Hmz := hide hmz
          clear hkz hmz
          go_wp2_with fail
          refine bodyPost_ret (v := .tuple #[.agg #[.bool false, .int .i64 0, .int .i64 0, .int .u8 0, .slice none 0 0], .bool b1]) (by simp [results, Tryz.results53, go_sem, z0, z1, z2, z3, z4]) rfl ?_
          exact PrOut.zero Hmz.out Hg.out Hkz.out HR.out HC2.out
        exact AllReadyH.nil
      · go_upto_region 3 with (fail)
        have HS := hide (show ∀ w' : World, Blk w' bx 103 #[.int .i64 r.start.w, .int .i64 r.start.h, .string r.start.cells, .int .i64 r.start.turn, .string r.start.h0, .string r.start.h1, .slice A r.pieces.length cp, .bool r.drops, .int .u8 r.lose, .int .i64 r.line, .int .u8 r.reach, .bool r.stuck, .int .i64 r.plies, .int .i64 wn, .map (some bm)] → (w'.cell? ⟨bx, 0, none⟩ = some (.int .i64 r.start.w) ∧ w'.cell? ⟨bx, 1, none⟩ = some (.int .i64 r.start.h) ∧ w'.cell? ⟨bx, 2, none⟩ = some (.string r.start.cells) ∧ w'.cell? ⟨bx, 3, none⟩ = some (.int .i64 r.start.turn) ∧ w'.cell? ⟨bx, 4, none⟩ = some (.string r.start.h0) ∧ w'.cell? ⟨bx, 5, none⟩ = some (.string r.start.h1) ∧ w'.cell? ⟨bx, 6, none⟩ = some (.slice A r.pieces.length cp) ∧ w'.cell? ⟨bx, 7, none⟩ = some (.bool r.drops) ∧ w'.cell? ⟨bx, 8, none⟩ = some (.int .u8 r.lose) ∧ w'.cell? ⟨bx, 9, none⟩ = some (.int .i64 r.line) ∧ w'.cell? ⟨bx, 10, none⟩ = some (.int .u8 r.reach) ∧ w'.cell? ⟨bx, 11, none⟩ = some (.bool r.stuck) ∧ w'.cell? ⟨bx, 12, none⟩ = some (.int .i64 r.plies) ∧ w'.cell? ⟨bx, 13, none⟩ = some (.int .i64 wn) ∧ w'.cell? ⟨bx, 14, none⟩ = some (.map (some bm))) from fun w' h => h.prover)
        refine wp_region_held_drew (S := fun w' : World => (w'.cell? ⟨bx, 0, none⟩ = some (.int .i64 r.start.w) ∧ w'.cell? ⟨bx, 1, none⟩ = some (.int .i64 r.start.h) ∧ w'.cell? ⟨bx, 2, none⟩ = some (.string r.start.cells) ∧ w'.cell? ⟨bx, 3, none⟩ = some (.int .i64 r.start.turn) ∧ w'.cell? ⟨bx, 4, none⟩ = some (.string r.start.h0) ∧ w'.cell? ⟨bx, 5, none⟩ = some (.string r.start.h1) ∧ w'.cell? ⟨bx, 6, none⟩ = some (.slice A r.pieces.length cp) ∧ w'.cell? ⟨bx, 7, none⟩ = some (.bool r.drops) ∧ w'.cell? ⟨bx, 8, none⟩ = some (.int .u8 r.lose) ∧ w'.cell? ⟨bx, 9, none⟩ = some (.int .i64 r.line) ∧ w'.cell? ⟨bx, 10, none⟩ = some (.int .u8 r.reach) ∧ w'.cell? ⟨bx, 11, none⟩ = some (.bool r.stuck) ∧ w'.cell? ⟨bx, 12, none⟩ = some (.int .i64 r.plies) ∧ w'.cell? ⟨bx, 13, none⟩ = some (.int .i64 wn) ∧ w'.cell? ⟨bx, 14, none⟩ = some (.map (some bm)))) (by kernel_rfl) (HS.out _ (show Blk _ _ 103 #[.int .i64 r.start.w, .int .i64 r.start.h, .string r.start.cells, .int .i64 r.start.turn, .string r.start.h0, .string r.start.h1, .slice A r.pieces.length cp, .bool r.drops, .int .u8 r.lose, .int .i64 r.line, .int .u8 r.reach, .bool r.stuck, .int .i64 r.plies, .int .i64 wn, .map (some bm)] from Hst1.out.x)) (fun hHeld => ?_)
        refine wpAnyH_take (i := 0) (oi := ⟨some 32, _, _, _, _, _⟩) (v := ?_) rfl (by kernel_rfl) (by kernel_rfl) (by kernel_rfl) (fun _ _ _ h => h) (Or.inl ⟨by rfl, ?_⟩) (by assumption) ?_
        rotate_left 1
        · intro w hSw
          try dsimp only at hSw
          go_simp <;> with_reducible rfl
        try simp only [Act.put, List.setIfInBounds_toArray, List.set_cons_zero, List.set_cons_succ]
        refine wpAnyH_take (i := 1) (oi := ⟨some 33, _, _, _, _, _⟩) (v := ?_) rfl (by kernel_rfl) (by kernel_rfl) (by kernel_rfl) (fun _ _ _ h => h) (Or.inl ⟨by rfl, ?_⟩) (by assumption) ?_
        rotate_left 1
        · intro w hSw
          try dsimp only at hSw
          go_simp <;> with_reducible rfl
        try simp only [Act.put, List.setIfInBounds_toArray, List.set_cons_zero, List.set_cons_succ]
        refine wpAnyH_take (i := 2) (oi := ⟨some 34, _, _, _, _, _⟩) (v := ?_) rfl (by kernel_rfl) (by kernel_rfl) (by kernel_rfl) (fun _ _ _ h => h) (Or.inl ⟨by rfl, ?_⟩) (by assumption) ?_
        rotate_left 1
        · intro w hSw
          try dsimp only at hSw
          go_simp <;> with_reducible rfl
        try simp only [Act.put, List.setIfInBounds_toArray, List.set_cons_zero, List.set_cons_succ]
        refine wpAnyH_take (i := 3) (oi := ⟨some 35, _, _, _, _, _⟩) (v := ?_) rfl (by kernel_rfl) (by kernel_rfl) (by kernel_rfl) (fun _ _ _ h => h) (Or.inl ⟨by rfl, ?_⟩) (by assumption) ?_
        rotate_left 1
        · intro w hSw
          try dsimp only at hSw
          go_simp <;> with_reducible rfl
        try simp only [Act.put, List.setIfInBounds_toArray, List.set_cons_zero, List.set_cons_succ]
        refine wpAnyH_take (i := 4) (oi := ⟨some 36, _, _, _, _, _⟩) (v := ?_) rfl (by kernel_rfl) (by kernel_rfl) (by kernel_rfl) (fun _ _ _ h => h) (Or.inl ⟨by rfl, ?_⟩) (by assumption) ?_
        rotate_left 1
        · intro w hSw
          try dsimp only at hSw
          go_simp <;> with_reducible rfl
        try simp only [Act.put, List.setIfInBounds_toArray, List.set_cons_zero, List.set_cons_succ]
        refine wpAnyH_take (i := 5) (oi := ⟨some 37, _, _, _, _, _⟩) (v := ?_) rfl (by kernel_rfl) (by kernel_rfl) (by kernel_rfl) (fun _ _ _ h => h) (Or.inl ⟨by rfl, ?_⟩) (by assumption) ?_
        rotate_left 1
        · intro w hSw
          try dsimp only at hSw
          go_simp <;> with_reducible rfl
        try simp only [Act.put, List.setIfInBounds_toArray, List.set_cons_zero, List.set_cons_succ]
        refine wpAnyH_take (i := 6) (oi := ⟨some 38, _, _, _, _, _⟩) (v := ?_) rfl (by kernel_rfl) (by kernel_rfl) (by kernel_rfl) (fun _ _ _ h => h) (Or.inl ⟨by rfl, ?_⟩) (by assumption) ?_
        rotate_left 1
        · intro w hSw
          try dsimp only at hSw
          go_simp <;> with_reducible rfl
        try simp only [Act.put, List.setIfInBounds_toArray, List.set_cons_zero, List.set_cons_succ]
        refine wpAnyH_take (i := 7) (oi := ⟨some 39, _, _, _, _, _⟩) (v := ?_) rfl (by kernel_rfl) (by kernel_rfl) (by kernel_rfl) (fun _ _ _ h => h) (Or.inl ⟨by rfl, ?_⟩) (by assumption) ?_
        rotate_left 1
        · intro w hSw
          try dsimp only at hSw
          go_simp <;> with_reducible rfl
        try simp only [Act.put, List.setIfInBounds_toArray, List.set_cons_zero, List.set_cons_succ]
        refine wpAnyH_ready (rs := [8]) (by kernel_rfl) (by simp) ?_
        refine AllReadyH.cons (o := ⟨none, _, _, _, _, _⟩) rfl (fun K hK => ?_) ?_
        · clear hHeld
          rw [if_pos (by rfl)]
          refine wp_store_row 58 (.tmp 6) (.tmp 32) rfl (W.heap.size + 1) #[.bool false, .int .i64 0, .int .i64 0, .int .u8 0, .slice none 0 0] rfl rfl 58 _ (show Blk _ _ 58 #[.bool false, .int .i64 0, .int .i64 0, .int .u8 0, .slice none 0 0] from Hst1.out.z) (by kernel_rfl) (by simp) (by simp [Value.oneCell']) ?_
          try go_wp2_with fail
          refine hK.out _ _ (by refine HS.out _ ?_; exact Blk.far5 Hst1.out.x (by omega)) (fun hHeld => ?_)
          clear hK K
          try simp only [Act.put]
          refine wpAnyH_take (i := 9) (oi := ⟨some 7, _, _, _, _, _⟩) (v := ?_) rfl (by kernel_rfl) (by kernel_rfl) (by kernel_rfl) (fun _ _ _ h => h) (Or.inl ⟨by rfl, ?_⟩) (by assumption) ?_
          rotate_left 1
          · intro w hSw
            try dsimp only at hSw
            go_simp <;> with_reducible rfl
          try simp only [Act.put, List.setIfInBounds_toArray, List.set_cons_zero, List.set_cons_succ]
          refine wpAnyH_done (by kernel_rfl) ?_ _
          obtain ⟨wz, hwz⟩ : ∃ wz, World.setRow w1.drew (W.heap.size + 1) #[.bool false, .int .i64 0, .int .i64 0, .int .u8 0, .slice none 0 0] = wz := ⟨_, rfl⟩
          have hzz : Blk wz (W.heap.size + 1) 58 #[.bool false, .int .i64 0, .int .i64 0, .int .u8 0, .slice none 0 0] := by rw [← hwz]; exact setRow_blk5 (show Blk w1.drew _ 58 #[.bool false, .int .i64 0, .int .i64 0, .int .u8 0, .slice none 0 0] from Hst1.out.z)
          have hkz : Kp bm W wz := by rw [← hwz]; exact Hst1.out.kp.drew.setRow (by omega)
          have hmz : SMap wz bm m := by rw [← hwz]; exact SMap.setRow (show SMap w1.drew bm m from Hst1.out.map) (by omega)
          rw [hwz]
          clear hwz
          obtain ⟨z0, z1, z2, z3, z4⟩ := hzz.cert5
          have Hkz := hide hkz
          have Hmz := hide hmz
          clear hkz hmz
          go_wp2_with fail
          refine bodyPost_ret (v := .tuple #[.agg #[.bool false, .int .i64 0, .int .i64 0, .int .u8 0, .slice none 0 0], .bool b1]) (by simp [results, Tryz.results53, go_sem, z0, z1, z2, z3, z4]) rfl ?_
          exact PrOut.zero Hmz.out Hg.out Hkz.out HR.out HC2.out
        exact AllReadyH.nil
  exact AllReadyH.nil
end Go.Proofs.YtdfegpohmaideaaGreat
/- The kids that the prover gathers. -/
namespace Go.Proofs.YtdfegpohmaideaaGreat
open Go.RowKit Go.Maps

/-- a cert with where its kids lie -/
abbrev Kid := CertD × Option Addr × Nat
def kidC (x : Kid) : List Value := [.bool x.1.s, .int .i64 x.1.m.f, .int .i64 x.1.m.t, .int .u8 (x.1.m.c : Int), .slice x.2.1 x.1.kids.length x.2.2]
def kidsC (l : List Kid) : List Value := l.flatMap kidC
theorem kidsC_app (a b : List Kid) : kidsC (a ++ b) = kidsC a ++ kidsC b := by simp [kidsC]
theorem kidsC_one (x : Kid) : kidsC [x] = kidC x := by simp [kidsC]
theorem kidsC_len : ∀ l : List Kid, (kidsC l).length = l.length * 5
  | [] => rfl
  | p :: l => by
    have : kidsC (p :: l) = kidC p ++ kidsC l := rfl
    have h6 : (kidC p).length = 5 := rfl
    rw [this, List.length_append, kidsC_len l, h6, List.length_cons]
    omega
def KidsIn (w : World) (P : Nat → Prop) (n : Nat) (l : List Kid) : Prop := ∀ x ∈ l, x.1.kids.length ≤ x.2.2 ∧ CertIn w P n x.1 x.2.1
theorem KidsIn.keep {w w' : World} {P P' : Nat → Prop} {n : Nat} {l : List Kid} (h : KidsIn w P n l) (hk : ∀ b, P b → ∀ o v, w.cell? ⟨b, o, none⟩ = some v → w'.cell? ⟨b, o, none⟩ = some v) (hP : ∀ b, P b → b < w.heap.size → P' b) : KidsIn w' P' n l :=
  fun x hx => ⟨(h x hx).1, (h x hx).2.keep hk hP⟩
theorem KidsIn.snoc {w : World} {P : Nat → Prop} {n : Nat} {l : List Kid} {x : Kid} (h : KidsIn w P n l) (h1 : x.1.kids.length ≤ x.2.2) (h2 : CertIn w P n x.1 x.2.1) : KidsIn w P n (l ++ [x]) := fun y hy => by
  rcases List.mem_append.1 hy with h3 | h3
  · exact h y h3
  · rw [List.mem_singleton.1 h3]; exact ⟨h1, h2⟩
/-- a row of kids is what a cert holds -/
theorem CertIn.of_cells {w : World} {P P' : Nat → Prop} {n : Nat} {l : List Kid} {b : Nat} {s : Bool} {m : Mv} (hb : P' b) (hc : ∀ k (h : k < (kidsC l).length), w.cell? ⟨b, k, none⟩ = some (kidsC l)[k]) (hk : KidsIn w P n l) (hP : ∀ b, P b → b < w.heap.size → P' b) :
    CertIn w P' (n + 1) (.mk s m (l.map (·.1))) (some ⟨b, 0, none⟩) := fun k hkl => by
  have hl : k < l.length := by simpa [CertD.kids] using hkl
  have e : (CertD.mk s m (l.map (·.1))).kids[k] = l[k].1 := by simp [CertD.kids]
  obtain ⟨h1, h2⟩ := hk l[k] (List.getElem_mem hl)
  have key : ∀ j v, (kidC l[k])[j]? = some v → j < 5 → w.cell? ⟨b, 0 + k * 5 + j, none⟩ = some v := by
    intro j v hv hj
    have := flat_getQ kidC 5 (fun _ => rfl) l k j hl hj
    rw [hv] at this
    obtain ⟨h1, h2⟩ := List.getElem?_eq_some_iff.1 this
    rw [Nat.zero_add, hc _ h1]
    exact congrArg some h2
  rw [e]
  exact ⟨b, 0, l[k].2.1, l[k].2.2, rfl, hb, h1, ⟨key 0 _ rfl (by omega), key 1 _ rfl (by omega), key 2 _ rfl (by omega), key 3 _ rfl (by omega), key 4 _ rfl (by omega)⟩, h2.mono hP⟩
theorem CertIn.of_row {w : World} {P P' : Nat → Prop} {n base : Nat} {e : TypeId} {v : Value} {l : List Kid} {s : Bool} {m : Mv} (h : w.ownsRow base e 5 v l.length (kidsC l)) (hb : ∀ g, base ≤ g → P' g) (hk : KidsIn w P n l) (hP : ∀ b, P b → b < w.heap.size → P' b) :
    ∃ A c, v = .slice A l.length c ∧ l.length ≤ c ∧ CertIn w P' (n + 1) (.mk s m (l.map (·.1))) A := by
  obtain ⟨hl, h2⟩ := h
  rcases h2 with ⟨rfl, h0⟩ | ⟨g, cap, cur, rfl, hbg, hg, hnc, hcm, hcs, htake⟩
  · have h0 : l.length = 0 := by simpa using h0
    have : l = [] := List.eq_nil_of_length_eq_zero h0
    subst this
    exact ⟨none, 0, rfl, Nat.le_refl _, fun k hk => absurd hk (by simp [CertD.kids])⟩
  · refine ⟨_, cap, rfl, hnc, CertIn.of_cells (hb g hbg) (fun k hk => ?_) hk hP⟩
    have hcell : w.cell? ⟨g, k, none⟩ = cur[k]? := by simp [World.cell?, hg]
    rw [hcell]
    simp only [← htake]
    simp
/-- what is known of the kids so far -/
def LoopP (r : RulesD) (wn : Int) (d : Nat) (own : Bool) (Q : List Pos) (l : List Kid) : Prop := ∀ i (h : i < Q.length) (h2 : i < l.length), winsN r wn d Q[i] = !own ∧ (own = false → ShowsN r wn d Q[i] l[i].1)
theorem LoopP.snoc {r : RulesD} {wn : Int} {d : Nat} {own : Bool} {Q : List Pos} {l : List Kid} (h : LoopP r wn d own Q l) {x : Kid} (hl : l.length < Q.length) (h1 : winsN r wn d Q[l.length] = !own) (h2 : own = false → ShowsN r wn d Q[l.length] x.1) : LoopP r wn d own Q (l ++ [x]) := fun i hi hi2 => by
  by_cases e : i = l.length
  · subst e
    rw [List.getElem_append_right (Nat.le_refl _)]
    simpa using ⟨h1, h2⟩
  · have h3 : i < l.length := by simp at hi2; omega
    rw [List.getElem_append_left h3]
    exact h i hi h3
theorem LoopP.snoc' {r : RulesD} {wn : Int} {d : Nat} {own : Bool} {Q : List Pos} {l : List Kid} (h : LoopP r wn d own Q l) {x : Kid} {k : Nat} (hl : l.length = k) (hk : k < Q.length) (h1 : winsN r wn d Q[k] = !own) (h2 : own = false → ShowsN r wn d Q[k] x.1) : LoopP r wn d own Q (l ++ [x]) := by
  subst hl
  exact h.snoc hk h1 h2
theorem Cells.keep' {w w' : World} {B : Nat} {A : Option Addr} {xs : List Value} (h : Cells w B A xs) (hk : ∀ b o v, w.cell? ⟨b, o, none⟩ = some v → w'.cell? ⟨b, o, none⟩ = some v) : Cells w' B A xs := fun hn => by
  obtain ⟨b, off, e, hb, hc⟩ := h hn
  exact ⟨b, off, e, hb, fun k hk' => hk _ _ _ (hc k hk')⟩
section
variable {W w w' : World} {P X : Array Value} {bx bm B0 : Nat} {A : Option Addr} {ps : List PieceD} {m m' : List (St × Int)}
/-- a block beyond the call's boxes changes -/
theorem PrSt.own_ (h : PrSt W P X bx bm B0 A ps m w) {S : Nat → Prop} (ho : Only S w w') (hS : ∀ k, S k → W.heap.size + 2 ≤ k) (hx : bx < W.heap.size) (hm : bm < W.heap.size) : PrSt W P X bx bm B0 A ps m w' := by
  refine ⟨h.p.only ho (fun e => by have := hS _ e; omega), h.z.only ho (fun e => by have := hS _ e; omega), h.x.only ho (fun e => by have := hS _ e; omega), ?_, ?_, h.pcs.below (ho.below_ (fun k hk => by have := hS k hk; have := h.b0; omega) (by have := h.b0; have := h.map.lt; omega)), h.b0⟩
  · obtain ⟨es, clock, hb, rest⟩ := h.map
    exact ⟨es, clock, by rw [ho.block bm h.map.lt (fun e => by have := hS _ e; omega)]; exact hb, rest⟩
  · exact h.kp.trans' ho (fun i hi hs => by have := hS i hs; omega)
end
theorem Kp.own_ {bm : Nat} {w1 w w' : World} {S : Nat → Prop} (h : Kp bm w1 w) (ho : Only S w w') (hS : ∀ k, S k → w1.heap.size ≤ k) : Kp bm w1 w' := h.trans' ho (fun i hi hs => by have := hS i hs; omega)
end Go.Proofs.YtdfegpohmaideaaGreat
/- Steps of the prover. -/
namespace Go.Proofs.YtdfegpohmaideaaGreat
open Go.RowKit Go.Maps

theorem info_cert : (Tryz.prog.info? 58).map (fun i => (i.zero, i.size, i.bytes)) = some (some (.agg #[.bool false, .int .i64 0, .int .i64 0, .int .u8 0, .slice none 0 0]), 5, 56) := by kernel_rfl
theorem KidsIn.step {wr wb w5 w6 : World} {sv v' : Value} {B n na : Nat} {l : List Kid} {x : Kid} (h : KidsIn wr (fun b => sv.ownBlock ≠ some b ∧ B ≤ b) n l) (hlt : ∀ g, sv.ownBlock = some g → g < wr.heap.size)
    (h1 : ∀ b o v, wr.cell? ⟨b, o, none⟩ = some v → wb.cell? ⟨b, o, none⟩ = some v) (hx : x.1.kids.length ≤ x.2.2) (hc : CertIn wb (fun b => na ≤ b) n x.1 x.2.1) (ha : wr.heap.size ≤ na) (hab : na ≤ wb.heap.size) (hB : B ≤ na)
    (h2 : Later wb w5) (hO : Only (fun k => sv.ownBlock = some k) w5 w6) (hv : v'.ownBlock = sv.ownBlock ∨ v'.ownBlock = some w5.heap.size) :
    KidsIn w6 (fun b => v'.ownBlock ≠ some b ∧ B ≤ b) n (l ++ [x]) := by
  have hsz := h2.size
  have key : ∀ b, sv.ownBlock ≠ some b → ∀ o v, wb.cell? ⟨b, o, none⟩ = some v → w6.cell? ⟨b, o, none⟩ = some v := by
    intro b hb o v hc
    have hlt := World.block_lt_of_cell? wb _ hc
    have e1 := h2.block b hlt
    have e2 := hO.block b (by have := h2.size; simp only at hlt; omega) hb
    rw [← hc]
    simp only [World.cell?, e2, e1]
  refine KidsIn.snoc (h.keep (fun b hb o v hcv => key b hb.1 o v (h1 b o v hcv)) (fun b hb hl => ⟨?_, hb.2⟩)) hx (hc.keep (fun b hb o v hcv => key b ?_ o v hcv) (fun b hb hl => ⟨?_, by omega⟩))
  · rcases hv with hv | hv
    · rw [hv]; exact hb.1
    · rw [hv]; intro e; injection e with e; omega
  · intro e; have := hlt b e; omega
  · rcases hv with hv | hv
    · rw [hv]; intro e; have := hlt b e; omega
    · rw [hv]; intro e; injection e with e; omega
/-- the cells of a move stay where the cert that is written holds the move -/
theorem mv_setRow {w : World} {zb : Nat} {t : TypeId} {b o : Nat} {x y : Int} {z : Int} {sl : Value} (hz : Blk w zb t #[.bool false, .int .i64 0, .int .i64 0, .int .u8 0, .slice none 0 0]) (h0 : w.cell? ⟨b, o, none⟩ = some (.int .i64 x)) (h1 : w.cell? ⟨b, o + 1, none⟩ = some (.int .i64 y)) (h2 : w.cell? ⟨b, o + 2, none⟩ = some (.int .u8 z)) :
    (w.setRow zb #[.bool true, .int .i64 x, .int .i64 y, .int .u8 z, sl]).cell? ⟨b, o, none⟩ = some (.int .i64 x) ∧ (w.setRow zb #[.bool true, .int .i64 x, .int .i64 y, .int .u8 z, sl]).cell? ⟨b, o + 1, none⟩ = some (.int .i64 y) ∧ (w.setRow zb #[.bool true, .int .i64 x, .int .i64 y, .int .u8 z, sl]).cell? ⟨b, o + 2, none⟩ = some (.int .u8 z) := by
  by_cases e : b = zb
  · subst e
    rw [hz.cell] at h0 h1 h2
    have hn := setRow_blk5 (vs := #[.bool true, .int .i64 x, .int .i64 y, .int .u8 z, sl]) hz
    rw [hn.cell, hn.cell, hn.cell]
    match o with
    | 0 => simp at h0
    | 1 => exact ⟨rfl, rfl, rfl⟩
    | 2 => simp at h2
    | 3 => simp at h0
    | 4 => simp at h0
    | o + 5 => simp at h0
  · have e2 := setRow_other w zb b #[.bool true, .int .i64 x, .int .i64 y, .int .u8 z, sl] e
    simp only [World.cell?, e2] at h0 h1 h2 ⊢
    exact ⟨h0, h1, h2⟩
theorem cell_setRow {w : World} {zb : Nat} {b o : Nat} {v : Value} {vs : Array Value} (h : w.cell? ⟨b, o, none⟩ = some v) (hb : b ≠ zb) : (w.setRow zb vs).cell? ⟨b, o, none⟩ = some v := by
  have e2 := setRow_other w zb b vs hb
  simp only [World.cell?, e2] at h ⊢
  exact h
theorem CertIn.one {w : World} {P P' : Nat → Prop} {n g : Nat} {t : TypeId} {c : CertD} {A' : Option Addr} {cp' : Nat} {s : Bool} {m : Mv} (hb : Blk w g t #[.bool c.s, .int .i64 c.m.f, .int .i64 c.m.t, .int .u8 (c.m.c : Int), .slice A' c.kids.length cp']) (hc : CertIn w P n c A') (hle : c.kids.length ≤ cp') (hg : P' g) (hP : ∀ b, P b → b < w.heap.size → P' b) : CertIn w P' (n + 1) (.mk s m [c]) (some ⟨g, 0, none⟩) := fun k hk => by
  obtain rfl : k = 0 := by simp [CertD.kids] at hk; omega
  exact ⟨g, 0, A', cp', rfl, hg, hle, ⟨hb.cellv rfl, hb.cellv rfl, hb.cellv rfl, hb.cellv rfl, hb.cellv rfl⟩, hc.mono hP⟩
theorem PrOut.won {r : RulesD} {wn : Int} {d : Nat} {p : Pos} {bm : Nat} {W w' : World} {m : List (St × Int)} (h1 : SMap w' bm m) (h2 : GoodM r wn m) (h3 : Kp bm W w') (h4 : winsN r wn d p = true) (c : CertD) (A' : Option Addr) (cp' : Nat) (h5 : ShowsN r wn d p c) (h6 : c.kids.length ≤ cp') (h7 : CertIn w' (fun b => W.heap.size ≤ b) d c A')
    {s : Bool} {x y z : Int} {n : Nat} (e0 : c.s = s) (e1 : c.m.f = x) (e2 : c.m.t = y) (e3 : (c.m.c : Int) = z) (e4 : c.kids.length = n) : PrOut r wn d p bm W (.returned (.tuple #[.agg #[.bool s, .int .i64 x, .int .i64 y, .int .u8 z, .slice A' n cp'], .bool true])) w' := by
  subst e0 e1 e2 e3 e4
  exact ⟨m, c, A', cp', h1, h2, h3, by rw [h4], h6, h7, fun _ => h5, fun h => by rw [h4] at h; cases h⟩
theorem own_hit {r : RulesD} {wn : Int} {d : Nat} {p : Pos} (hop : endsN r p = 0) (htn : decide (p.turn = wn) = true) (L : List Mv) (Q : List Pos) (hL : movesL r p = L) (hQ : nextL r p = Q) (i : Nat) (h : i < Q.length) (h2 : i < L.length) (hv : winsN r wn d Q[i] = true) (c : CertD) (hc : ShowsN r wn d Q[i] c) :
    winsN r wn (d + 1) p = true ∧ ShowsN r wn (d + 1) p (.mk true L[i] [c]) := by
  subst hL hQ
  have ht := of_decide_eq_true htn
  refine ⟨wins_own_hit hop ht (List.getElem_mem h) hv, shows_own_cert hop ht (List.getElem_mem h2) ?_⟩
  have e : (nextL r p)[i] = madeP r p (movesL r p)[i] := by simp [nextL]
  rwa [e] at hc
theorem other_hit {r : RulesD} {wn : Int} {d : Nat} {p : Pos} (hop : endsN r p = 0) (htn : decide (p.turn = wn) = false) (Q : List Pos) (hQ : nextL r p = Q) (i : Nat) (h : i < Q.length) (hv : winsN r wn d Q[i] = false) : winsN r wn (d + 1) p = false := by
  subst hQ
  exact wins_other_hit hop (of_decide_eq_false htn) (List.getElem_mem h) hv
theorem own_miss {r : RulesD} {wn : Int} {d : Nat} {p : Pos} (hop : endsN r p = 0) (htn : decide (p.turn = wn) = true) (Q : List Pos) (hQ : nextL r p = Q) (l : List Kid) (hl : l.length = Q.length) (h : LoopP r wn d true Q l) : winsN r wn (d + 1) p = false := by
  subst hQ
  refine wins_own_miss hop (of_decide_eq_true htn) (fun q hq => ?_)
  obtain ⟨i, hi, rfl⟩ := List.getElem_of_mem hq
  exact (h i hi (by omega)).1
theorem other_all {r : RulesD} {wn : Int} {d : Nat} {p : Pos} (hop : endsN r p = 0) (htn : decide (p.turn = wn) = false) (Q : List Pos) (hQ : nextL r p = Q) (l : List Kid) (hl : l.length = Q.length) (h : LoopP r wn d false Q l) : winsN r wn (d + 1) p = true ∧ ShowsN r wn (d + 1) p (.mk false ⟨0, 0, 0⟩ (l.map (·.1))) := by
  subst hQ
  have ht := of_decide_eq_false htn
  refine ⟨wins_other_all hop ht (fun q hq => ?_), shows_other_cert hop ht (by simpa using hl) (fun i hi h2 => ?_)⟩
  · obtain ⟨i, hi, rfl⟩ := List.getElem_of_mem hq
    exact (h i hi (by omega)).1
  · have h3 : i < l.length := by simpa using h2
    have := (h i hi h3).2 rfl
    simpa using this
end Go.Proofs.YtdfegpohmaideaaGreat
/- gameref.Wins: does a player win within so many moves? walked -/
namespace Go.Proofs.YtdfegpohmaideaaGreat
open Go.RowKit

/-- the boxes of a call with rules and a position -/
structure PaSt (W : World) (R P : Array Value) (w : World) : Prop where
  r : Blk w W.heap.size 27 R
  p : Blk w (W.heap.size + 1) 24 P
  later : Later W w
theorem PaSt.later_ {W w w' : World} {R P : Array Value} (h : PaSt W R P w) (hw : Later w w') : PaSt W R P w' := ⟨hw.blk h.r, hw.blk h.p, h.later.trans hw⟩
theorem PaSt.first {W : World} {R P : Array Value} : PaSt W R P ((W.alloc (.cells R 27)).alloc (.cells P 24)) := by
  refine ⟨(Blk.new W _ R).alloc _, ?_, (Later.rfl.alloc _).alloc _⟩
  have := Blk.new (W.alloc (.cells R 27)) 24 P
  rwa [World.size_alloc] at this
theorem beq_dec (a b : Int) : (a == b) = decide (a = b) := by rw [Bool.eq_iff_iff]; simp
set_option maxHeartbeats 4000000 in
set_option maxRecDepth 100000 in
/-- the game is over, or no move is left -/
theorem wins_end (r : RulesD) (A : Option Addr) (cp : Nat) (wn : Int) (d : Nat) (p : Pos) (W : World) (h0 : 0 ≤ wn) (h1 : wn ≤ 1) (hP : PiecesAt W W.heap.size A r.pieces) (hok : OfOk r p) (hd : endsN r p ≠ 0 ∨ d = 0) :
    Calls Tryz.prog 24 #[.agg #[.int .i64 r.start.w, .int .i64 r.start.h, .string r.start.cells, .int .i64 r.start.turn, .string r.start.h0, .string r.start.h1, .slice A r.pieces.length cp, .bool r.drops, .int .u8 r.lose, .int .i64 r.line, .int .u8 r.reach, .bool r.stuck, .int .i64 r.plies], .agg #[.int .i64 p.w, .int .i64 p.h, .string p.cells, .int .i64 p.turn, .string p.h0, .string p.h1], .int .i64 (d : Int), .int .i64 wn] W fun e w' => e = .returned (.bool (winsN r wn d p)) ∧ Later W w' := by
  have Hst := hide (PaSt.first (W := W) (R := #[.int .i64 r.start.w, .int .i64 r.start.h, .string r.start.cells, .int .i64 r.start.turn, .string r.start.h0, .string r.start.h1, .slice A r.pieces.length cp, .bool r.drops, .int .u8 r.lose, .int .i64 r.line, .int .u8 r.reach, .bool r.stuck, .int .i64 r.plies]) (P := #[.int .i64 p.w, .int .i64 p.h, .string p.cells, .int .i64 p.turn, .string p.h0, .string p.h1]))
  have Hen := hide (fun w (hw : Later W w) => ends_any r A cp p w ((hok.pre hP).on hw))
  have HR : winsN r wn d p = (endsN r p == wn + 1) := by
    rw [beq_dec]
    rcases hd with h | h
    · exact winsN_done h
    · subst h; exact winsN_zero
  have hen := ends_range (r := r) (p := p) (by have := hok.pos.t0; have := hok.pos.t1; omega)
  obtain ⟨n, hn⟩ : ∃ n, endsN r p = n := ⟨_, rfl⟩
  rw [hn] at HR hd hen
  simp only [hn] at Hen
  rw [HR]
  clear hP hok hn HR
  have tw : IntKind.i64.wrap (wn + 1) = wn + 1 := IntWalk.i64_in _ (by omega)
  by_cases hz : n = 0
  · obtain rfl : d = 0 := hd.resolve_left (fun h => h hz)
    subst hz
    clear hd
    go_enter Tryz.func24, Tryz.ntmps24
    go_upto_region 1 with (fail)
    obtain ⟨w0, hw0⟩ : ∃ w0, (W.alloc (.cells #[.int .i64 r.start.w, .int .i64 r.start.h, .string r.start.cells, .int .i64 r.start.turn, .string r.start.h0, .string r.start.h1, .slice A r.pieces.length cp, .bool r.drops, .int .u8 r.lose, .int .i64 r.line, .int .u8 r.reach, .bool r.stuck, .int .i64 r.plies] 27)).alloc (.cells #[.int .i64 p.w, .int .i64 p.h, .string p.cells, .int .i64 p.turn, .string p.h0, .string p.h1] 24) = w0 := ⟨_, rfl⟩
    rw [hw0] at Hst ⊢
    clear hw0
    obtain ⟨x0, x1, x2, x3, x4, x5, x6, x7, x8, x9, x10, x11, x12⟩ := Hst.out.r.rules
    obtain ⟨p0, p1, p2, p3, p4, p5⟩ := Hst.out.p.pos6
    go_wp2_with (go_at_call 13; refine (Hen.out _ Hst.out.later).mono ?_; rintro e w2 ⟨rfl, hw2⟩)
    go_ret
    exact ⟨rfl, Hst.out.later.trans hw2⟩
  · have t1 : (n != 0) = true := by simp [hz]
    clear hz hd
    go_enter Tryz.func24, Tryz.ntmps24
    go_upto_region 1 with (fail)
    obtain ⟨w0, hw0⟩ : ∃ w0, (W.alloc (.cells #[.int .i64 r.start.w, .int .i64 r.start.h, .string r.start.cells, .int .i64 r.start.turn, .string r.start.h0, .string r.start.h1, .slice A r.pieces.length cp, .bool r.drops, .int .u8 r.lose, .int .i64 r.line, .int .u8 r.reach, .bool r.stuck, .int .i64 r.plies] 27)).alloc (.cells #[.int .i64 p.w, .int .i64 p.h, .string p.cells, .int .i64 p.turn, .string p.h0, .string p.h1] 24) = w0 := ⟨_, rfl⟩
    rw [hw0] at Hst ⊢
    clear hw0
    obtain ⟨x0, x1, x2, x3, x4, x5, x6, x7, x8, x9, x10, x11, x12⟩ := Hst.out.r.rules
    obtain ⟨p0, p1, p2, p3, p4, p5⟩ := Hst.out.p.pos6
    go_wp2_with (go_at_call 13; refine (Hen.out _ Hst.out.later).mono ?_; rintro e w2 ⟨rfl, hw2⟩)
    go_ret
    exact ⟨rfl, Hst.out.later.trans hw2⟩
set_option maxHeartbeats 16000000 in
set_option maxRecDepth 100000 in
theorem wins_open (r : RulesD) (A : Option Addr) (cp : Nat) (wn : Int) (d : Nat) (hd : d < 9) (p : Pos) (W : World) (hP : PiecesAt W W.heap.size A r.pieces) (hok : OfOk r p) (hop : endsN r p = 0)
    (ih : ∀ q, OfOk r q → ∀ w, PiecesAt w w.heap.size A r.pieces → Calls Tryz.prog 24 #[.agg #[.int .i64 r.start.w, .int .i64 r.start.h, .string r.start.cells, .int .i64 r.start.turn, .string r.start.h0, .string r.start.h1, .slice A r.pieces.length cp, .bool r.drops, .int .u8 r.lose, .int .i64 r.line, .int .u8 r.reach, .bool r.stuck, .int .i64 r.plies], .agg #[.int .i64 q.w, .int .i64 q.h, .string q.cells, .int .i64 q.turn, .string q.h0, .string q.h1], .int .i64 (d : Int), .int .i64 wn] w fun e w' => e = .returned (.bool (winsN r wn d q)) ∧ Later w w') :
    Calls Tryz.prog 24 #[.agg #[.int .i64 r.start.w, .int .i64 r.start.h, .string r.start.cells, .int .i64 r.start.turn, .string r.start.h0, .string r.start.h1, .slice A r.pieces.length cp, .bool r.drops, .int .u8 r.lose, .int .i64 r.line, .int .u8 r.reach, .bool r.stuck, .int .i64 r.plies], .agg #[.int .i64 p.w, .int .i64 p.h, .string p.cells, .int .i64 p.turn, .string p.h0, .string p.h1], .int .i64 ((d : Int) + 1), .int .i64 wn] W fun e w' => e = .returned (.bool (winsN r wn (d + 1) p)) ∧ Later W w' := by
  have Hst := hide (PaSt.first (W := W) (R := #[.int .i64 r.start.w, .int .i64 r.start.h, .string r.start.cells, .int .i64 r.start.turn, .string r.start.h0, .string r.start.h1, .slice A r.pieces.length cp, .bool r.drops, .int .u8 r.lose, .int .i64 r.line, .int .u8 r.reach, .bool r.stuck, .int .i64 r.plies]) (P := #[.int .i64 p.w, .int .i64 p.h, .string p.cells, .int .i64 p.turn, .string p.h0, .string p.h1]))
  have Hen := hide (fun w (hw : Later W w) => ends_any r A cp p w ((hok.pre hP).on hw))
  have Hmv := hide (fun w (hw : Later W w) => moves_any r A cp p w ((hok.pre hP).on hw))
  have Hmd := hide (fun m (hm : m ∈ movesL r p) q (hq : madeP r p m = q) w => made_any r A cp p m q w hok (moves_every hm) hq)
  have Hih := hide (fun q (hq : OfOk r q) w (hw : Later W w) => ih q hq w ((hP.below hw).more hw.size))
  have Hnx := hide (fun m (hm : m ∈ movesL r p) => (every_made hok (moves_every hm)).2)
  have hll : (movesL r p).length ≤ 10000 := movesL_len hok.pos
  obtain ⟨tb, htb⟩ : ∃ tb, decide (p.turn = wn) = tb := ⟨_, rfl⟩
  have t2 : (p.turn == wn) = tb := by rw [beq_dec]; exact htb
  have t3 : (p.turn != wn) = !tb := by rw [← t2]; rfl
  have Hhit := hide (fun m (hm : m ∈ movesL r p) (hv : winsN r wn d (madeP r p m) = tb) => wins_hit (wn := wn) (d := d) hop htb (List.mem_map.2 ⟨m, hm, rfl⟩) hv)
  have Hmiss := hide (fun (hall : ∀ m ∈ movesL r p, winsN r wn d (madeP r p m) ≠ tb) => wins_miss (wn := wn) (d := d) hop htb (fun q hq => by
    obtain ⟨m, hm, rfl⟩ := List.mem_map.1 hq
    exact hall m hm))
  simp only [hop] at Hen
  obtain ⟨R, hR⟩ : ∃ R, winsN r wn (d + 1) p = R := ⟨_, rfl⟩
  simp only [hR] at Hhit Hmiss
  rw [hR]
  obtain ⟨L, hL⟩ : ∃ L, movesL r p = L := ⟨_, rfl⟩
  rw [hL] at hll
  simp only [hL] at Hmv Hmd Hnx Hhit Hmiss
  have tz : (((d : Int) + 1) == 0) = false := by simp; omega
  have tw : IntKind.i64.wrap ((d : Int) + 1 - 1) = (d : Int) := by rw [show (d : Int) + 1 - 1 = d by omega]; exact IntWalk.i64_in _ (by omega)
  have tw2 : IntKind.i64.wrap (d : Int) = (d : Int) := IntWalk.i64_in _ (by omega)
  clear hP hok ih hR hL htb hop
  go_enter Tryz.func24, Tryz.ntmps24
  go_upto_region 1 with (fail)
  obtain ⟨w0, hw0⟩ : ∃ w0, (W.alloc (.cells #[.int .i64 r.start.w, .int .i64 r.start.h, .string r.start.cells, .int .i64 r.start.turn, .string r.start.h0, .string r.start.h1, .slice A r.pieces.length cp, .bool r.drops, .int .u8 r.lose, .int .i64 r.line, .int .u8 r.reach, .bool r.stuck, .int .i64 r.plies] 27)).alloc (.cells #[.int .i64 p.w, .int .i64 p.h, .string p.cells, .int .i64 p.turn, .string p.h0, .string p.h1] 24) = w0 := ⟨_, rfl⟩
  rw [hw0] at Hst ⊢
  clear hw0
  obtain ⟨x0, x1, x2, x3, x4, x5, x6, x7, x8, x9, x10, x11, x12⟩ := Hst.out.r.rules
  obtain ⟨p0, p1, p2, p3, p4, p5⟩ := Hst.out.p.pos6
  go_upto_region 4 with (go_at_call 13; refine (Hen.out _ Hst.out.later).mono ?_; rintro e w1 ⟨rfl, hw1⟩)
  have Hst1 := hide (Hst.out.later_ hw1)
  clear hw1 Hst tz x0 x1 x2 x3 x4 x5 x6 x7 x8 x9 x10 x11 x12 p0 p1 p2 p3 p4 p5
  obtain ⟨x0, x1, x2, x3, x4, x5, x6, x7, x8, x9, x10, x11, x12⟩ := Hst1.out.r.rules
  obtain ⟨p0, p1, p2, p3, p4, p5⟩ := Hst1.out.p.pos6
  go_upto_region 5 with (go_at_call 12; refine (Hmv.out _ Hst1.out.later).mono ?_; rintro e w2 ⟨A2, c2, rfl, -, hc2, -, hw2⟩)
  have Hst2 := hide (Hst1.out.later_ hw2)
  have Hc2 := hide hc2
  clear hw2 hc2 Hst1 x0 x1 x2 x3 x4 x5 x6 x7 x8 x9 x10 x11 x12 p0 p1 p2 p3 p4 p5
  go_wp2_with fail
  go_loopw [11] (fun kv wr => ∃ k : Nat, k ≤ L.length ∧ kv = .int .i64 (k : Int) ∧ (∀ j (h : j < L.length), j < k → winsN r wn d (madeP r p L[j]) ≠ tb) ∧ Later w2 wr) (fun kv _ => L.length - (intOf kv).toNat)
  case atStart => exact ⟨0, by omega, rfl, fun j _ h => by omega, Later.rfl⟩
  case round =>
    rename World => wr
    obtain ⟨k, hk, rfl, hall, hw⟩ := hrel
    have Hall := hide hall
    have Hstr := hide (Hst2.out.later_ hw)
    have Hcr := hide ((Hc2.out.below hw).more hw.size)
    have Hwr := hide hw
    clear hall hw
    by_cases hlt : k < L.length
    · have t1 : decide ((k : Int) < (L.length : Int)) = true := by simp; omega
      have t1n : decide (k < L.length) = true := by simp; omega
      obtain ⟨bm, om, rfl, hbm, y0, y1, y2⟩ := mv_at Hcr.out hlt
      have hk1 : (0 : Int) ≤ (k : Int) := by omega
      have hk2 : (k : Int) < (L.length : Int) := by omega
      have hm := List.getElem_mem hlt
      have HallN := hide (show winsN r wn d (madeP r p L[k]) ≠ tb → ∀ j (h : j < L.length), j < k + 1 → winsN r wn d (madeP r p L[j]) ≠ tb from fun h0 j h hj => by
        by_cases e : j = k
        · subst e; exact h0
        · exact Hall.out j h (by omega))
      obtain ⟨m, hmm⟩ : ∃ m, L[k] = m := ⟨_, rfl⟩
      rw [hmm] at y0 y1 y2 hm
      simp only [hmm] at HallN
      have HhitM := hide (Hhit.out m hm)
      have HmdM := hide (fun q hq w => Hmd.out m hm q hq w)
      have hqo := Hnx.out m hm
      obtain ⟨q, hq⟩ : ∃ q, madeP r p m = q := ⟨_, rfl⟩
      have HmdQ := hide (fun w => HmdM.out q hq w)
      rw [hq] at hqo HhitM
      simp only [hq] at HallN
      have HihQ := hide (fun w hw => Hih.out q hqo w hw)
      obtain ⟨v, hv⟩ : ∃ v, winsN r wn d q = v := ⟨_, rfl⟩
      rw [hv] at HhitM
      simp only [hv] at HihQ HallN
      have HS8 := hide (show ∀ w' : World, Later wr w' → (w'.cell? ⟨W.heap.size, 0, none⟩ = some (.int .i64 r.start.w) ∧ w'.cell? ⟨W.heap.size, 1, none⟩ = some (.int .i64 r.start.h) ∧ w'.cell? ⟨W.heap.size, 2, none⟩ = some (.string r.start.cells) ∧ w'.cell? ⟨W.heap.size, 3, none⟩ = some (.int .i64 r.start.turn) ∧ w'.cell? ⟨W.heap.size, 4, none⟩ = some (.string r.start.h0) ∧ w'.cell? ⟨W.heap.size, 5, none⟩ = some (.string r.start.h1) ∧ w'.cell? ⟨W.heap.size, 6, none⟩ = some (.slice A r.pieces.length cp) ∧ w'.cell? ⟨W.heap.size, 7, none⟩ = some (.bool r.drops) ∧ w'.cell? ⟨W.heap.size, 8, none⟩ = some (.int .u8 r.lose) ∧ w'.cell? ⟨W.heap.size, 9, none⟩ = some (.int .i64 r.line) ∧ w'.cell? ⟨W.heap.size, 10, none⟩ = some (.int .u8 r.reach) ∧ w'.cell? ⟨W.heap.size, 11, none⟩ = some (.bool r.stuck) ∧ w'.cell? ⟨W.heap.size, 12, none⟩ = some (.int .i64 r.plies) ∧ w'.cell? ⟨W.heap.size + 1, 0, none⟩ = some (.int .i64 p.w) ∧ w'.cell? ⟨W.heap.size + 1, 1, none⟩ = some (.int .i64 p.h) ∧ w'.cell? ⟨W.heap.size + 1, 2, none⟩ = some (.string p.cells) ∧ w'.cell? ⟨W.heap.size + 1, 3, none⟩ = some (.int .i64 p.turn) ∧ w'.cell? ⟨W.heap.size + 1, 4, none⟩ = some (.string p.h0) ∧ w'.cell? ⟨W.heap.size + 1, 5, none⟩ = some (.string p.h1) ∧ w'.cell? ⟨bm, om + k * 3, none⟩ = some (.int .i64 m.f) ∧ w'.cell? ⟨bm, om + k * 3 + 1, none⟩ = some (.int .i64 m.t) ∧ w'.cell? ⟨bm, om + k * 3 + 2, none⟩ = some (.int .u8 m.c)) from fun w' hw => by
        obtain ⟨x0, x1, x2, x3, x4, x5, x6, x7, x8, x9, x10, x11, x12⟩ := (hw.blk Hstr.out.r).rules
        obtain ⟨p0, p1, p2, p3, p4, p5⟩ := (hw.blk Hstr.out.p).pos6
        obtain ⟨b', o', hbb, -, z0, z1, z2⟩ := mv_at ((Hcr.out.below hw).more hw.size) hlt
        injection hbb with hbb
        injection hbb with hbb1 hbb2
        subst hbb1
        subst hbb2
        rw [hmm] at z0 z1 z2
        exact ⟨x0, x1, x2, x3, x4, x5, x6, x7, x8, x9, x10, x11, x12, p0, p1, p2, p3, p4, p5, z0, z1, z2⟩)
      have HC8 := hide (show Later W wr from Hst2.out.later.trans Hwr.out)
      clear hm hmm hq hqo hv y0 y1 y2 HmdM
      go_upto_region 8 with (fail)
      go_cut [12] from 29 to 52 (fun vv w' => vv = .bool v ∧ Later wr w')
      case first =>
        clear t1 t1n t2 t3
        refine wp_region_held_drew (S := fun w' : World => (w'.cell? ⟨W.heap.size, 0, none⟩ = some (.int .i64 r.start.w) ∧ w'.cell? ⟨W.heap.size, 1, none⟩ = some (.int .i64 r.start.h) ∧ w'.cell? ⟨W.heap.size, 2, none⟩ = some (.string r.start.cells) ∧ w'.cell? ⟨W.heap.size, 3, none⟩ = some (.int .i64 r.start.turn) ∧ w'.cell? ⟨W.heap.size, 4, none⟩ = some (.string r.start.h0) ∧ w'.cell? ⟨W.heap.size, 5, none⟩ = some (.string r.start.h1) ∧ w'.cell? ⟨W.heap.size, 6, none⟩ = some (.slice A r.pieces.length cp) ∧ w'.cell? ⟨W.heap.size, 7, none⟩ = some (.bool r.drops) ∧ w'.cell? ⟨W.heap.size, 8, none⟩ = some (.int .u8 r.lose) ∧ w'.cell? ⟨W.heap.size, 9, none⟩ = some (.int .i64 r.line) ∧ w'.cell? ⟨W.heap.size, 10, none⟩ = some (.int .u8 r.reach) ∧ w'.cell? ⟨W.heap.size, 11, none⟩ = some (.bool r.stuck) ∧ w'.cell? ⟨W.heap.size, 12, none⟩ = some (.int .i64 r.plies) ∧ w'.cell? ⟨W.heap.size + 1, 0, none⟩ = some (.int .i64 p.w) ∧ w'.cell? ⟨W.heap.size + 1, 1, none⟩ = some (.int .i64 p.h) ∧ w'.cell? ⟨W.heap.size + 1, 2, none⟩ = some (.string p.cells) ∧ w'.cell? ⟨W.heap.size + 1, 3, none⟩ = some (.int .i64 p.turn) ∧ w'.cell? ⟨W.heap.size + 1, 4, none⟩ = some (.string p.h0) ∧ w'.cell? ⟨W.heap.size + 1, 5, none⟩ = some (.string p.h1) ∧ w'.cell? ⟨bm, om + k * 3, none⟩ = some (.int .i64 m.f) ∧ w'.cell? ⟨bm, om + k * 3 + 1, none⟩ = some (.int .i64 m.t) ∧ w'.cell? ⟨bm, om + k * 3 + 2, none⟩ = some (.int .u8 m.c))) (by kernel_rfl) (HS8.out _ Later.rfl.drew) (fun hHeld => ?_)
        refine wpAnyH_take (i := 0) (oi := ⟨some 35, _, _, _, _, _⟩) (v := ?_) rfl (by kernel_rfl) (by kernel_rfl) (by kernel_rfl) (fun _ _ _ h => h) (Or.inl ⟨by rfl, ?_⟩) (by assumption) ?_
        rotate_left 1
        · intro w hSw
          try dsimp only at hSw
          go_simp <;> with_reducible rfl
        try simp only [Act.put, List.setIfInBounds_toArray, List.set_cons_zero, List.set_cons_succ]
        refine wpAnyH_take (i := 1) (oi := ⟨some 36, _, _, _, _, _⟩) (v := ?_) rfl (by kernel_rfl) (by kernel_rfl) (by kernel_rfl) (fun _ _ _ h => h) (Or.inl ⟨by rfl, ?_⟩) (by assumption) ?_
        rotate_left 1
        · intro w hSw
          try dsimp only at hSw
          go_simp <;> with_reducible rfl
        try simp only [Act.put, List.setIfInBounds_toArray, List.set_cons_zero, List.set_cons_succ]
        refine wpAnyH_take (i := 2) (oi := ⟨some 37, _, _, _, _, _⟩) (v := ?_) rfl (by kernel_rfl) (by kernel_rfl) (by kernel_rfl) (fun _ _ _ h => h) (Or.inl ⟨by rfl, ?_⟩) (by assumption) ?_
        rotate_left 1
        · intro w hSw
          try dsimp only at hSw
          go_simp <;> with_reducible rfl
        try simp only [Act.put, List.setIfInBounds_toArray, List.set_cons_zero, List.set_cons_succ]
        refine wpAnyH_take (i := 3) (oi := ⟨some 38, _, _, _, _, _⟩) (v := ?_) rfl (by kernel_rfl) (by kernel_rfl) (by kernel_rfl) (fun _ _ _ h => h) (Or.inl ⟨by rfl, ?_⟩) (by assumption) ?_
        rotate_left 1
        · intro w hSw
          try dsimp only at hSw
          go_simp <;> with_reducible rfl
        try simp only [Act.put, List.setIfInBounds_toArray, List.set_cons_zero, List.set_cons_succ]
        refine wpAnyH_take (i := 4) (oi := ⟨some 39, _, _, _, _, _⟩) (v := ?_) rfl (by kernel_rfl) (by kernel_rfl) (by kernel_rfl) (fun _ _ _ h => h) (Or.inl ⟨by rfl, ?_⟩) (by assumption) ?_
        rotate_left 1
        · intro w hSw
          try dsimp only at hSw
          go_simp <;> with_reducible rfl
        try simp only [Act.put, List.setIfInBounds_toArray, List.set_cons_zero, List.set_cons_succ]
        refine wpAnyH_take (i := 5) (oi := ⟨some 40, _, _, _, _, _⟩) (v := ?_) rfl (by kernel_rfl) (by kernel_rfl) (by kernel_rfl) (fun _ _ _ h => h) (Or.inl ⟨by rfl, ?_⟩) (by assumption) ?_
        rotate_left 1
        · intro w hSw
          try dsimp only at hSw
          go_simp <;> with_reducible rfl
        try simp only [Act.put, List.setIfInBounds_toArray, List.set_cons_zero, List.set_cons_succ]
        refine wpAnyH_take (i := 6) (oi := ⟨some 41, _, _, _, _, _⟩) (v := ?_) rfl (by kernel_rfl) (by kernel_rfl) (by kernel_rfl) (fun _ _ _ h => h) (Or.inl ⟨by rfl, ?_⟩) (by assumption) ?_
        rotate_left 1
        · intro w hSw
          try dsimp only at hSw
          go_simp <;> with_reducible rfl
        try simp only [Act.put, List.setIfInBounds_toArray, List.set_cons_zero, List.set_cons_succ]
        refine wpAnyH_take (i := 8) (oi := ⟨some 43, _, _, _, _, _⟩) (v := ?_) rfl (by kernel_rfl) (by kernel_rfl) (by kernel_rfl) (fun _ _ _ h => h) (Or.inl ⟨by rfl, ?_⟩) (by assumption) ?_
        rotate_left 1
        · intro w hSw
          try dsimp only at hSw
          go_simp <;> with_reducible rfl
        try simp only [Act.put, List.setIfInBounds_toArray, List.set_cons_zero, List.set_cons_succ]
        refine wpAnyH_take (i := 9) (oi := ⟨some 44, _, _, _, _, _⟩) (v := ?_) rfl (by kernel_rfl) (by kernel_rfl) (by kernel_rfl) (fun _ _ _ h => h) (Or.inl ⟨by rfl, ?_⟩) (by assumption) ?_
        rotate_left 1
        · intro w hSw
          try dsimp only at hSw
          go_simp <;> with_reducible rfl
        try simp only [Act.put, List.setIfInBounds_toArray, List.set_cons_zero, List.set_cons_succ]
        refine wpAnyH_take (i := 10) (oi := ⟨some 45, _, _, _, _, _⟩) (v := ?_) rfl (by kernel_rfl) (by kernel_rfl) (by kernel_rfl) (fun _ _ _ h => h) (Or.inl ⟨by rfl, ?_⟩) (by assumption) ?_
        rotate_left 1
        · intro w hSw
          try dsimp only at hSw
          go_simp <;> with_reducible rfl
        try simp only [Act.put, List.setIfInBounds_toArray, List.set_cons_zero, List.set_cons_succ]
        refine wpAnyH_ready (rs := [7]) (by kernel_rfl) (by simp) ?_
        refine AllReadyH.cons (o := ⟨some 42, _, _, _, _, _⟩) rfl (fun K hK => ?_) ?_
        · clear hHeld
          go_simp
          go_at_call 16
          refine (HmdQ.out _).mono ?_
          rintro e wq ⟨rfl, hwx⟩
          have hwq : Later wr wq := Later.trans (by repeat (first | exact Later.rfl | refine Later.drew ?_)) hwx
          try go_wp2_with fail
          refine hK.out _ _ (by refine HS8.out _ ?_; repeat (first | exact Later.rfl | exact hwq | refine Later.drew ?_)) (fun hHeld => ?_)
          clear hK K
          try simp only [Act.put, List.setIfInBounds_toArray, List.set_cons_zero, List.set_cons_succ]
          refine wpAnyH_ready (rs := [11]) (by kernel_rfl) (by simp) ?_
          refine AllReadyH.cons (o := ⟨some 46, _, _, _, _, _⟩) rfl (fun K hK => ?_) ?_
          · clear hHeld
            go_simp
            go_at_call 24
            refine (HihQ.out _ (HC8.out.trans hwq)).mono ?_
            rintro e wt ⟨rfl, hwx⟩
            have hwq : Later wr wt := Later.trans hwq hwx
            try go_wp2_with fail
            refine hK.out _ _ (by refine HS8.out _ ?_; repeat (first | exact Later.rfl | exact hwq | refine Later.drew ?_)) (fun hHeld => ?_)
            clear hK K
            try simp only [Act.put, List.setIfInBounds_toArray, List.set_cons_zero, List.set_cons_succ]
            refine wpAnyH_take (i := 12) (oi := ⟨some 12, _, _, _, _, _⟩) (v := ?_) rfl (by kernel_rfl) (by kernel_rfl) (by kernel_rfl) (fun _ _ _ h => h) (Or.inl ⟨by rfl, ?_⟩) (by assumption) ?_
            rotate_left 1
            · intro w hSw
              try dsimp only at hSw
              go_simp <;> with_reducible rfl
            try simp only [Act.put, List.setIfInBounds_toArray, List.set_cons_zero, List.set_cons_succ]
            refine wpAnyH_done (by kernel_rfl) ?_ _
            go_wp2_with fail
            go_meet
            case rel => exact ⟨rfl, hwq⟩
          exact AllReadyH.nil
        exact AllReadyH.nil
      case rest =>
        obtain ⟨rfl, hw8⟩ := hcut
        rename World => w8
        have Hst8 := hide (Hstr.out.later_ hw8)
        have Hw8 := hide (Hwr.out.trans hw8)
        clear hw8 tw tw2
        obtain ⟨p0, p1, p2, p3, p4, p5⟩ := Hst8.out.p.pos6
        cases hvt : (v == tb)
        · have Hn := hide (HallN.out (fun e => by rw [e] at hvt; simp at hvt))
          go_wp2_with fail
          go_roundw
          case rel => exact ⟨k + 1, by omega, by go_num, Hn.out, Hw8.out⟩
          case measure => simp [intOf]; omega
        · have hve : v = tb := by simpa using hvt
          have HE := hide ((HhitM.out hve).trans hve.symm)
          clear hve
          go_wp2_with fail
          go_ret
          exact ⟨by rw [HE.out] <;> rfl, Hst8.out.later⟩
    · obtain rfl : L.length = k := by omega
      have t1 : decide ((L.length : Int) < (L.length : Int)) = false := by simp
      have t1n : decide (L.length < L.length) = false := by simp
      have HE := hide (Hmiss.out (fun m hm => by
        obtain ⟨j, hj, rfl⟩ := List.getElem_of_mem hm
        exact Hall.out j hj hj))
      obtain ⟨p0, p1, p2, p3, p4, p5⟩ := Hstr.out.p.pos6
      go_wp2_with fail
      go_ret
      exact ⟨by rw [HE.out] <;> rfl, Hstr.out.later⟩
theorem wins_any (r : RulesD) (A : Option Addr) (cp : Nat) (wn : Int) (h0 : 0 ≤ wn) (h1 : wn ≤ 1) : ∀ (d : Nat), d ≤ 9 → ∀ (p : Pos), OfOk r p → ∀ (W : World), PiecesAt W W.heap.size A r.pieces →
    Calls Tryz.prog 24 #[.agg #[.int .i64 r.start.w, .int .i64 r.start.h, .string r.start.cells, .int .i64 r.start.turn, .string r.start.h0, .string r.start.h1, .slice A r.pieces.length cp, .bool r.drops, .int .u8 r.lose, .int .i64 r.line, .int .u8 r.reach, .bool r.stuck, .int .i64 r.plies], .agg #[.int .i64 p.w, .int .i64 p.h, .string p.cells, .int .i64 p.turn, .string p.h0, .string p.h1], .int .i64 (d : Int), .int .i64 wn] W fun e w' => e = .returned (.bool (winsN r wn d p)) ∧ Later W w'
  | 0, _, p, hok, W, hP => wins_end r A cp wn 0 p W h0 h1 hP hok (.inr rfl)
  | d + 1, hd, p, hok, W, hP => by
    by_cases hop : endsN r p = 0
    · have := wins_open r A cp wn d (by omega) p W hP hok hop (fun q hq w hw => wins_any r A cp wn h0 h1 d (by omega) q hq w hw)
      rw [show ((d + 1 : Nat) : Int) = (d : Int) + 1 by omega]
      exact this
    · exact wins_end r A cp wn (d + 1) p W h0 h1 hP hok (.inl hop)
end Go.Proofs.YtdfegpohmaideaaGreat
/- gameref.Shows: does a cert show it? walked -/
namespace Go.Proofs.YtdfegpohmaideaaGreat
open Go.RowKit

/-- the boxes of a call with rules, a position and a cert -/
structure ShSt (W : World) (R P C : Array Value) (w : World) : Prop where
  r : Blk w W.heap.size 27 R
  p : Blk w (W.heap.size + 1) 24 P
  c : Blk w (W.heap.size + 1 + 1) 58 C
  later : Later W w
theorem ShSt.later_ {W w w' : World} {R P C : Array Value} (h : ShSt W R P C w) (hw : Later w w') : ShSt W R P C w' := ⟨hw.blk h.r, hw.blk h.p, hw.blk h.c, h.later.trans hw⟩
theorem ShSt.first {W : World} {R P C : Array Value} : ShSt W R P C (((W.alloc (.cells R 27)).alloc (.cells P 24)).alloc (.cells C 58)) := by
  refine ⟨((Blk.new W _ R).alloc _).alloc _, ?_, ?_, ((Later.rfl.alloc _).alloc _).alloc _⟩
  · have := (Blk.new (W.alloc (.cells R 27)) 24 P).alloc (.cells C 58)
    rwa [World.size_alloc] at this
  · have := Blk.new ((W.alloc (.cells R 27)).alloc (.cells P 24)) 58 C
    rwa [World.size_alloc, World.size_alloc] at this
theorem Blk.five {w : World} {g : Nat} {t : TypeId} {a b c d e : Value} (h : Blk w g t #[a, b, c, d, e]) :
    w.cell? ⟨g, 0, none⟩ = some a ∧ w.cell? ⟨g, 1, none⟩ = some b ∧ w.cell? ⟨g, 2, none⟩ = some c ∧ w.cell? ⟨g, 3, none⟩ = some d ∧ w.cell? ⟨g, 4, none⟩ = some e :=
  ⟨h.cellv rfl, h.cellv rfl, h.cellv rfl, h.cellv rfl, h.cellv rfl⟩
open Classical in
noncomputable def noneB (c : CertD) : Bool := decide c.none
set_option maxHeartbeats 4000000 in
set_option maxRecDepth 100000 in
/-- the game is over, or no move is left -/
theorem shows_end (r : RulesD) (A : Option Addr) (cp : Nat) (wn : Int) (d : Nat) (p : Pos) (c : CertD) (Ak : Option Addr) (ck : Nat) (W : World) (h0 : 0 ≤ wn) (h1 : wn ≤ 1) (hP : PiecesAt W W.heap.size A r.pieces) (hok : OfOk r p) (hd : endsN r p ≠ 0 ∨ d = 0)
    (hR : showsB r wn d p c = (endsN r p == wn + 1 && (noneB c && (c.kids.length == 0)))) :
    Calls Tryz.prog 23 #[.agg #[.int .i64 r.start.w, .int .i64 r.start.h, .string r.start.cells, .int .i64 r.start.turn, .string r.start.h0, .string r.start.h1, .slice A r.pieces.length cp, .bool r.drops, .int .u8 r.lose, .int .i64 r.line, .int .u8 r.reach, .bool r.stuck, .int .i64 r.plies], .agg #[.int .i64 p.w, .int .i64 p.h, .string p.cells, .int .i64 p.turn, .string p.h0, .string p.h1], .int .i64 (d : Int), .int .i64 wn, .agg #[.bool c.s, .int .i64 c.m.f, .int .i64 c.m.t, .int .u8 (c.m.c : Int), .slice Ak c.kids.length ck]] W fun e w' => e = .returned (.bool (showsB r wn d p c)) ∧ Later W w' := by
  have Hst := hide (ShSt.first (W := W) (R := #[.int .i64 r.start.w, .int .i64 r.start.h, .string r.start.cells, .int .i64 r.start.turn, .string r.start.h0, .string r.start.h1, .slice A r.pieces.length cp, .bool r.drops, .int .u8 r.lose, .int .i64 r.line, .int .u8 r.reach, .bool r.stuck, .int .i64 r.plies]) (P := #[.int .i64 p.w, .int .i64 p.h, .string p.cells, .int .i64 p.turn, .string p.h0, .string p.h1]) (C := #[.bool c.s, .int .i64 c.m.f, .int .i64 c.m.t, .int .u8 (c.m.c : Int), .slice Ak c.kids.length ck]))
  have Hen := hide (fun w (hw : Later W w) => ends_any r A cp p w ((hok.pre hP).on hw))
  have hen := ends_range (r := r) (p := p) (by have := hok.pos.t0; have := hok.pos.t1; omega)
  obtain ⟨n, hn⟩ : ∃ n, endsN r p = n := ⟨_, rfl⟩
  rw [hn] at hR hd hen
  simp only [hn] at Hen
  rw [hR]
  clear hP hok hn hR
  have tw : IntKind.i64.wrap (wn + 1) = wn + 1 := IntWalk.i64_in _ (by omega)
  obtain ⟨s, m, ks⟩ := c
  have hnb : noneB (.mk s m ks) = (!s && decide (m = ⟨0, 0, 0⟩)) := by
    unfold noneB CertD.none
    simp only [CertD.s, CertD.m]
    cases s <;> simp
  rw [hnb]
  simp only [CertD.s, CertD.m, CertD.kids] at Hst ⊢
  have heq := fun w => eqM.1 m ⟨0, 0, 0⟩ w
  have hgd := fun op a b w => eqM.2 op a b m ⟨0, 0, 0⟩ w
  simp [encM] at heq hgd
  obtain ⟨u, hu⟩ : ∃ u, decide (m = ⟨0, 0, 0⟩) = u := ⟨_, rfl⟩
  obtain ⟨k, hk⟩ : ∃ k, ks.length = k := ⟨_, rfl⟩
  obtain ⟨b1, hb1⟩ : ∃ b, (n == wn + 1) = b := ⟨_, rfl⟩
  obtain ⟨b2, hb2⟩ : ∃ b, (k == 0) = b := ⟨_, rfl⟩
  have t2 : ((k : Int) == 0) = b2 := by rw [← hb2, beq_dec, Bool.eq_iff_iff]; simp
  rw [hk] at Hst ⊢
  rw [hu, hb1, hb2]
  simp only [hu] at heq
  clear hnb hu hk hb2
  have tn : ∃ bn, (n != 0) = bn ∧ (bn = true ∨ d = 0) := by
    by_cases hz : n = 0
    · exact ⟨false, by simp [hz], .inr (hd.resolve_left (fun h => h hz))⟩
    · exact ⟨true, by simp [hz], .inl rfl⟩
  obtain ⟨bn, tn1, tn2⟩ := tn
  clear hd
  go_enter Tryz.func23, Tryz.ntmps23
  go_upto_region 1 with (fail)
  obtain ⟨w0, hw0⟩ : ∃ w0, (((W.alloc (.cells #[.int .i64 r.start.w, .int .i64 r.start.h, .string r.start.cells, .int .i64 r.start.turn, .string r.start.h0, .string r.start.h1, .slice A r.pieces.length cp, .bool r.drops, .int .u8 r.lose, .int .i64 r.line, .int .u8 r.reach, .bool r.stuck, .int .i64 r.plies] 27)).alloc (.cells #[.int .i64 p.w, .int .i64 p.h, .string p.cells, .int .i64 p.turn, .string p.h0, .string p.h1] 24)).alloc (.cells #[.bool s, .int .i64 m.f, .int .i64 m.t, .int .u8 (m.c : Int), .slice Ak k ck] 58)) = w0 := ⟨_, rfl⟩
  rw [hw0] at Hst ⊢
  clear hw0
  obtain ⟨x0, x1, x2, x3, x4, x5, x6, x7, x8, x9, x10, x11, x12⟩ := Hst.out.r.rules
  obtain ⟨p0, p1, p2, p3, p4, p5⟩ := Hst.out.p.pos6
  go_upto_region 2 with (go_at_call 13; refine (Hen.out _ Hst.out.later).mono ?_; rintro e w2 ⟨rfl, hw2⟩)
  have Hst2 := hide (Hst.out.later_ hw2)
  clear hw2 Hst x0 x1 x2 x3 x4 x5 x6 x7 x8 x9 x10 x11 x12 p0 p1 p2 p3 p4 p5
  obtain ⟨c0, c1, c2, c3, c4⟩ := Hst2.out.c.five
  rcases tn2 with rfl | rfl
  · cases s <;> cases u <;> cases b1 <;> cases b2 <;> (go_wp2_with fail; go_ret; exact ⟨rfl, Hst2.out.later⟩)
  · cases bn <;> cases s <;> cases u <;> cases b1 <;> cases b2 <;> (go_wp2_with fail; go_ret; exact ⟨rfl, Hst2.out.later⟩)
set_option maxHeartbeats 16000000 in
set_option maxRecDepth 100000 in
theorem shows_own_no (r : RulesD) (A : Option Addr) (cp : Nat) (wn : Int) (d : Nat) (hd : d < 9) (p : Pos) (m : Mv) (s : Bool) (k : Nat) (Ak : Option Addr) (ck : Nat) (W : World) (R : Bool) (hP : PiecesAt W W.heap.size A r.pieces) (hok : OfOk r p) (hop : endsN r p = 0) (htn : p.turn = wn)
    (hno : s = false ∨ (s = true ∧ k ≠ 1)) (hR : R = false) :
    Calls Tryz.prog 23 #[.agg #[.int .i64 r.start.w, .int .i64 r.start.h, .string r.start.cells, .int .i64 r.start.turn, .string r.start.h0, .string r.start.h1, .slice A r.pieces.length cp, .bool r.drops, .int .u8 r.lose, .int .i64 r.line, .int .u8 r.reach, .bool r.stuck, .int .i64 r.plies], .agg #[.int .i64 p.w, .int .i64 p.h, .string p.cells, .int .i64 p.turn, .string p.h0, .string p.h1], .int .i64 ((d : Int) + 1), .int .i64 wn, .agg #[.bool s, .int .i64 m.f, .int .i64 m.t, .int .u8 (m.c : Int), .slice Ak k ck]] W fun e w' => e = .returned (.bool R) ∧ Later W w' := by
  have Hst := hide (ShSt.first (W := W) (R := #[.int .i64 r.start.w, .int .i64 r.start.h, .string r.start.cells, .int .i64 r.start.turn, .string r.start.h0, .string r.start.h1, .slice A r.pieces.length cp, .bool r.drops, .int .u8 r.lose, .int .i64 r.line, .int .u8 r.reach, .bool r.stuck, .int .i64 r.plies]) (P := #[.int .i64 p.w, .int .i64 p.h, .string p.cells, .int .i64 p.turn, .string p.h0, .string p.h1]) (C := #[.bool s, .int .i64 m.f, .int .i64 m.t, .int .u8 (m.c : Int), .slice Ak k ck]))
  have Hen := hide (fun w (hw : Later W w) => ends_any r A cp p w ((hok.pre hP).on hw))
  have Hmv := hide (fun w (hw : Later W w) => moves_any r A cp p w ((hok.pre hP).on hw))
  simp only [hop] at Hen
  have heq := fun w => eqM.1 m ⟨0, 0, 0⟩ w
  have hgd := fun op a b w => eqM.2 op a b m ⟨0, 0, 0⟩ w
  simp [encM] at heq hgd
  obtain ⟨u, hu⟩ : ∃ u, decide (m = ⟨0, 0, 0⟩) = u := ⟨_, rfl⟩
  simp only [hu] at heq
  have t3 : (p.turn == wn) = true := by rw [beq_dec]; exact decide_eq_true htn
  have tz : (((d : Int) + 1) == 0) = false := by simp; omega
  have HR := hide hR
  have Hno := hide hno
  clear hP hok hop htn hu hR hno hd
  go_enter Tryz.func23, Tryz.ntmps23
  go_upto_region 1 with (fail)
  obtain ⟨w0, hw0⟩ : ∃ w0, (((W.alloc (.cells #[.int .i64 r.start.w, .int .i64 r.start.h, .string r.start.cells, .int .i64 r.start.turn, .string r.start.h0, .string r.start.h1, .slice A r.pieces.length cp, .bool r.drops, .int .u8 r.lose, .int .i64 r.line, .int .u8 r.reach, .bool r.stuck, .int .i64 r.plies] 27)).alloc (.cells #[.int .i64 p.w, .int .i64 p.h, .string p.cells, .int .i64 p.turn, .string p.h0, .string p.h1] 24)).alloc (.cells #[.bool s, .int .i64 m.f, .int .i64 m.t, .int .u8 (m.c : Int), .slice Ak k ck] 58)) = w0 := ⟨_, rfl⟩
  rw [hw0] at Hst ⊢
  clear hw0
  obtain ⟨x0, x1, x2, x3, x4, x5, x6, x7, x8, x9, x10, x11, x12⟩ := Hst.out.r.rules
  obtain ⟨p0, p1, p2, p3, p4, p5⟩ := Hst.out.p.pos6
  go_upto_region 2 with (go_at_call 13; refine (Hen.out _ Hst.out.later).mono ?_; rintro e w2 ⟨rfl, hw2⟩)
  have Hst2 := hide (Hst.out.later_ hw2)
  clear hw2 Hst x0 x1 x2 x3 x4 x5 x6 x7 x8 x9 x10 x11 x12 p0 p1 p2 p3 p4 p5
  obtain ⟨x0, x1, x2, x3, x4, x5, x6, x7, x8, x9, x10, x11, x12⟩ := Hst2.out.r.rules
  obtain ⟨p0, p1, p2, p3, p4, p5⟩ := Hst2.out.p.pos6
  obtain ⟨c0, c1, c2, c3, c4⟩ := Hst2.out.c.five
  rcases Hno.out with rfl | ⟨rfl, hk⟩
  · cases u
    · go_upto_region 7 with (go_at_call 12; refine (Hmv.out _ Hst2.out.later).mono ?_; rintro e w5 ⟨A5, c5, rfl, -, hc5, -, hw5⟩; obtain ⟨q0, q1, q2, q3, q4, q5⟩ := (hw5.blk Hst2.out.p).pos6)
      have Hst5 := hide (Hst2.out.later_ hw5)
      clear hw5 hc5 Hst2 heq hgd tz t3
      have HS := hide (show ∀ w' : World, Later w5 w' → (w'.cell? ⟨W.heap.size, 0, none⟩ = some (.int .i64 r.start.w) ∧ w'.cell? ⟨W.heap.size, 1, none⟩ = some (.int .i64 r.start.h) ∧ w'.cell? ⟨W.heap.size, 2, none⟩ = some (.string r.start.cells) ∧ w'.cell? ⟨W.heap.size, 3, none⟩ = some (.int .i64 r.start.turn) ∧ w'.cell? ⟨W.heap.size, 4, none⟩ = some (.string r.start.h0) ∧ w'.cell? ⟨W.heap.size, 5, none⟩ = some (.string r.start.h1) ∧ w'.cell? ⟨W.heap.size, 6, none⟩ = some (.slice A r.pieces.length cp) ∧ w'.cell? ⟨W.heap.size, 7, none⟩ = some (.bool r.drops) ∧ w'.cell? ⟨W.heap.size, 8, none⟩ = some (.int .u8 r.lose) ∧ w'.cell? ⟨W.heap.size, 9, none⟩ = some (.int .i64 r.line) ∧ w'.cell? ⟨W.heap.size, 10, none⟩ = some (.int .u8 r.reach) ∧ w'.cell? ⟨W.heap.size, 11, none⟩ = some (.bool r.stuck) ∧ w'.cell? ⟨W.heap.size, 12, none⟩ = some (.int .i64 r.plies) ∧ w'.cell? ⟨W.heap.size + 1, 0, none⟩ = some (.int .i64 p.w) ∧ w'.cell? ⟨W.heap.size + 1, 1, none⟩ = some (.int .i64 p.h) ∧ w'.cell? ⟨W.heap.size + 1, 2, none⟩ = some (.string p.cells) ∧ w'.cell? ⟨W.heap.size + 1, 3, none⟩ = some (.int .i64 p.turn) ∧ w'.cell? ⟨W.heap.size + 1, 4, none⟩ = some (.string p.h0) ∧ w'.cell? ⟨W.heap.size + 1, 5, none⟩ = some (.string p.h1) ∧ w'.cell? ⟨W.heap.size + 1 + 1, 0, none⟩ = some (.bool false) ∧ w'.cell? ⟨W.heap.size + 1 + 1, 1, none⟩ = some (.int .i64 m.f) ∧ w'.cell? ⟨W.heap.size + 1 + 1, 2, none⟩ = some (.int .i64 m.t) ∧ w'.cell? ⟨W.heap.size + 1 + 1, 3, none⟩ = some (.int .u8 (m.c : Int)) ∧ w'.cell? ⟨W.heap.size + 1 + 1, 4, none⟩ = some (.slice Ak k ck)) from fun w' hw => by
        obtain ⟨x0, x1, x2, x3, x4, x5, x6, x7, x8, x9, x10, x11, x12⟩ := (hw.blk Hst5.out.r).rules
        obtain ⟨p0, p1, p2, p3, p4, p5⟩ := (hw.blk Hst5.out.p).pos6
        obtain ⟨c0, c1, c2, c3, c4⟩ := (hw.blk Hst5.out.c).five
        exact ⟨x0, x1, x2, x3, x4, x5, x6, x7, x8, x9, x10, x11, x12, p0, p1, p2, p3, p4, p5, c0, c1, c2, c3, c4⟩)
      refine wp_region_held_drew (S := fun w' : World => (w'.cell? ⟨W.heap.size, 0, none⟩ = some (.int .i64 r.start.w) ∧ w'.cell? ⟨W.heap.size, 1, none⟩ = some (.int .i64 r.start.h) ∧ w'.cell? ⟨W.heap.size, 2, none⟩ = some (.string r.start.cells) ∧ w'.cell? ⟨W.heap.size, 3, none⟩ = some (.int .i64 r.start.turn) ∧ w'.cell? ⟨W.heap.size, 4, none⟩ = some (.string r.start.h0) ∧ w'.cell? ⟨W.heap.size, 5, none⟩ = some (.string r.start.h1) ∧ w'.cell? ⟨W.heap.size, 6, none⟩ = some (.slice A r.pieces.length cp) ∧ w'.cell? ⟨W.heap.size, 7, none⟩ = some (.bool r.drops) ∧ w'.cell? ⟨W.heap.size, 8, none⟩ = some (.int .u8 r.lose) ∧ w'.cell? ⟨W.heap.size, 9, none⟩ = some (.int .i64 r.line) ∧ w'.cell? ⟨W.heap.size, 10, none⟩ = some (.int .u8 r.reach) ∧ w'.cell? ⟨W.heap.size, 11, none⟩ = some (.bool r.stuck) ∧ w'.cell? ⟨W.heap.size, 12, none⟩ = some (.int .i64 r.plies) ∧ w'.cell? ⟨W.heap.size + 1, 0, none⟩ = some (.int .i64 p.w) ∧ w'.cell? ⟨W.heap.size + 1, 1, none⟩ = some (.int .i64 p.h) ∧ w'.cell? ⟨W.heap.size + 1, 2, none⟩ = some (.string p.cells) ∧ w'.cell? ⟨W.heap.size + 1, 3, none⟩ = some (.int .i64 p.turn) ∧ w'.cell? ⟨W.heap.size + 1, 4, none⟩ = some (.string p.h0) ∧ w'.cell? ⟨W.heap.size + 1, 5, none⟩ = some (.string p.h1) ∧ w'.cell? ⟨W.heap.size + 1 + 1, 0, none⟩ = some (.bool false) ∧ w'.cell? ⟨W.heap.size + 1 + 1, 1, none⟩ = some (.int .i64 m.f) ∧ w'.cell? ⟨W.heap.size + 1 + 1, 2, none⟩ = some (.int .i64 m.t) ∧ w'.cell? ⟨W.heap.size + 1 + 1, 3, none⟩ = some (.int .u8 (m.c : Int)) ∧ w'.cell? ⟨W.heap.size + 1 + 1, 4, none⟩ = some (.slice Ak k ck))) (by kernel_rfl) (HS.out _ Later.rfl.drew) (fun hHeld => ?_)
      refine wpAnyH_take (i := 0) (oi := ⟨some 53, _, _, _, _, _⟩) (v := ?_) rfl (by kernel_rfl) (by kernel_rfl) (by kernel_rfl) (fun _ _ _ h => h) (Or.inl ⟨by rfl, ?_⟩) (by assumption) ?_
      rotate_left 1
      · intro w hSw
        try dsimp only at hSw
        go_simp <;> with_reducible rfl
      try simp only [Act.put, List.setIfInBounds_toArray, List.set_cons_zero, List.set_cons_succ]
      refine wpAnyH_take (i := 1) (oi := ⟨some 54, _, _, _, _, _⟩) (v := ?_) rfl (by kernel_rfl) (by kernel_rfl) (by kernel_rfl) (fun _ _ _ h => h) (Or.inl ⟨by rfl, ?_⟩) (by assumption) ?_
      rotate_left 1
      · intro w hSw
        try dsimp only at hSw
        go_simp <;> with_reducible rfl
      try simp only [Act.put, List.setIfInBounds_toArray, List.set_cons_zero, List.set_cons_succ]
      refine wpAnyH_take (i := 2) (oi := ⟨some 55, _, _, _, _, _⟩) (v := ?_) rfl (by kernel_rfl) (by kernel_rfl) (by kernel_rfl) (fun _ _ _ h => h) (Or.inl ⟨by rfl, ?_⟩) (by assumption) ?_
      rotate_left 1
      · intro w hSw
        try dsimp only at hSw
        go_simp <;> with_reducible rfl
      try simp only [Act.put, List.setIfInBounds_toArray, List.set_cons_zero, List.set_cons_succ]
      refine wpAnyH_take (i := 3) (oi := ⟨some 56, _, _, _, _, _⟩) (v := undef) rfl (by kernel_rfl) (by kernel_rfl) (by kernel_rfl) (fun _ _ _ h => h) (Or.inr ⟨by rfl, rfl⟩) (by assumption) ?_
      try simp only [Act.put, List.setIfInBounds_toArray, List.set_cons_zero, List.set_cons_succ]
      refine wpAnyH_take (i := 4) (oi := ⟨some 57, _, _, _, _, _⟩) (v := undef) rfl (by kernel_rfl) (by kernel_rfl) (by kernel_rfl) (fun _ _ _ h => h) (Or.inr ⟨by rfl, rfl⟩) (by assumption) ?_
      try simp only [Act.put, List.setIfInBounds_toArray, List.set_cons_zero, List.set_cons_succ]
      refine wpAnyH_take (i := 5) (oi := ⟨some 58, _, _, _, _, _⟩) (v := undef) rfl (by kernel_rfl) (by kernel_rfl) (by kernel_rfl) (fun _ _ _ h => h) (Or.inr ⟨by rfl, rfl⟩) (by assumption) ?_
      try simp only [Act.put, List.setIfInBounds_toArray, List.set_cons_zero, List.set_cons_succ]
      refine wpAnyH_take (i := 6) (oi := ⟨some 59, _, _, _, _, _⟩) (v := undef) rfl (by kernel_rfl) (by kernel_rfl) (by kernel_rfl) (fun _ _ _ h => h) (Or.inr ⟨by rfl, rfl⟩) (by assumption) ?_
      try simp only [Act.put, List.setIfInBounds_toArray, List.set_cons_zero, List.set_cons_succ]
      refine wpAnyH_take (i := 7) (oi := ⟨some 60, _, _, _, _, _⟩) (v := ?_) rfl (by kernel_rfl) (by kernel_rfl) (by kernel_rfl) (fun _ _ _ h => h) (Or.inl ⟨by rfl, ?_⟩) (by assumption) ?_
      rotate_left 1
      · intro w hSw
        try dsimp only at hSw
        go_simp <;> with_reducible rfl
      try simp only [Act.put, List.setIfInBounds_toArray, List.set_cons_zero, List.set_cons_succ]
      refine wpAnyH_take (i := 8) (oi := ⟨some 61, _, _, _, _, _⟩) (v := ?_) rfl (by kernel_rfl) (by kernel_rfl) (by kernel_rfl) (fun _ _ _ h => h) (Or.inl ⟨by rfl, ?_⟩) (by assumption) ?_
      rotate_left 1
      · intro w hSw
        try dsimp only at hSw
        go_simp <;> with_reducible rfl
      try simp only [Act.put, List.setIfInBounds_toArray, List.set_cons_zero, List.set_cons_succ]
      refine wpAnyH_take (i := 9) (oi := ⟨some 62, _, _, _, _, _⟩) (v := undef) rfl (by kernel_rfl) (by kernel_rfl) (by kernel_rfl) (fun _ _ _ h => h) (Or.inr ⟨by rfl, rfl⟩) (by assumption) ?_
      try simp only [Act.put, List.setIfInBounds_toArray, List.set_cons_zero, List.set_cons_succ]
      refine wpAnyH_take (i := 10) (oi := ⟨some 63, _, _, _, _, _⟩) (v := undef) rfl (by kernel_rfl) (by kernel_rfl) (by kernel_rfl) (fun _ _ _ h => h) (Or.inr ⟨by rfl, rfl⟩) (by assumption) ?_
      try simp only [Act.put, List.setIfInBounds_toArray, List.set_cons_zero, List.set_cons_succ]
      refine wpAnyH_take (i := 11) (oi := ⟨some 64, _, _, _, _, _⟩) (v := undef) rfl (by kernel_rfl) (by kernel_rfl) (by kernel_rfl) (fun _ _ _ h => h) (Or.inr ⟨by rfl, rfl⟩) (by assumption) ?_
      try simp only [Act.put, List.setIfInBounds_toArray, List.set_cons_zero, List.set_cons_succ]
      refine wpAnyH_take (i := 12) (oi := ⟨some 65, _, _, _, _, _⟩) (v := undef) rfl (by kernel_rfl) (by kernel_rfl) (by kernel_rfl) (fun _ _ _ h => h) (Or.inr ⟨by rfl, rfl⟩) (by assumption) ?_
      try simp only [Act.put, List.setIfInBounds_toArray, List.set_cons_zero, List.set_cons_succ]
      refine wpAnyH_take (i := 13) (oi := ⟨some 66, _, _, _, _, _⟩) (v := ?_) rfl (by kernel_rfl) (by kernel_rfl) (by kernel_rfl) (fun _ _ _ h => h) (Or.inl ⟨by rfl, ?_⟩) (by assumption) ?_
      rotate_left 1
      · intro w hSw
        try dsimp only at hSw
        go_simp <;> with_reducible rfl
      try simp only [Act.put, List.setIfInBounds_toArray, List.set_cons_zero, List.set_cons_succ]
      refine wpAnyH_take (i := 14) (oi := ⟨some 67, _, _, _, _, _⟩) (v := ?_) rfl (by kernel_rfl) (by kernel_rfl) (by kernel_rfl) (fun _ _ _ h => h) (Or.inl ⟨by rfl, ?_⟩) (by assumption) ?_
      rotate_left 1
      · intro w hSw
        try dsimp only at hSw
        go_simp <;> with_reducible rfl
      try simp only [Act.put, List.setIfInBounds_toArray, List.set_cons_zero, List.set_cons_succ]
      refine wpAnyH_take (i := 15) (oi := ⟨some 68, _, _, _, _, _⟩) (v := undef) rfl (by kernel_rfl) (by kernel_rfl) (by kernel_rfl) (fun _ _ _ h => h) (Or.inr ⟨by rfl, rfl⟩) (by assumption) ?_
      try simp only [Act.put, List.setIfInBounds_toArray, List.set_cons_zero, List.set_cons_succ]
      refine wpAnyH_take (i := 16) (oi := ⟨some 69, _, _, _, _, _⟩) (v := undef) rfl (by kernel_rfl) (by kernel_rfl) (by kernel_rfl) (fun _ _ _ h => h) (Or.inr ⟨by rfl, rfl⟩) (by assumption) ?_
      try simp only [Act.put, List.setIfInBounds_toArray, List.set_cons_zero, List.set_cons_succ]
      refine wpAnyH_take (i := 17) (oi := ⟨some 70, _, _, _, _, _⟩) (v := undef) rfl (by kernel_rfl) (by kernel_rfl) (by kernel_rfl) (fun _ _ _ h => h) (Or.inr ⟨by rfl, rfl⟩) (by assumption) ?_
      try simp only [Act.put, List.setIfInBounds_toArray, List.set_cons_zero, List.set_cons_succ]
      refine wpAnyH_take (i := 18) (oi := ⟨some 71, _, _, _, _, _⟩) (v := undef) rfl (by kernel_rfl) (by kernel_rfl) (by kernel_rfl) (fun _ _ _ h => h) (Or.inr ⟨by rfl, rfl⟩) (by assumption) ?_
      try simp only [Act.put, List.setIfInBounds_toArray, List.set_cons_zero, List.set_cons_succ]
      refine wpAnyH_take (i := 19) (oi := ⟨some 72, _, _, _, _, _⟩) (v := undef) rfl (by kernel_rfl) (by kernel_rfl) (by kernel_rfl) (fun _ _ _ h => h) (Or.inr ⟨by rfl, rfl⟩) (by assumption) ?_
      try simp only [Act.put, List.setIfInBounds_toArray, List.set_cons_zero, List.set_cons_succ]
      refine wpAnyH_take (i := 20) (oi := ⟨some 73, _, _, _, _, _⟩) (v := undef) rfl (by kernel_rfl) (by kernel_rfl) (by kernel_rfl) (fun _ _ _ h => h) (Or.inr ⟨by rfl, rfl⟩) (by assumption) ?_
      try simp only [Act.put, List.setIfInBounds_toArray, List.set_cons_zero, List.set_cons_succ]
      refine wpAnyH_take (i := 21) (oi := ⟨some 74, _, _, _, _, _⟩) (v := undef) rfl (by kernel_rfl) (by kernel_rfl) (by kernel_rfl) (fun _ _ _ h => h) (Or.inr ⟨by rfl, rfl⟩) (by assumption) ?_
      try simp only [Act.put, List.setIfInBounds_toArray, List.set_cons_zero, List.set_cons_succ]
      refine wpAnyH_take (i := 22) (oi := ⟨some 75, _, _, _, _, _⟩) (v := undef) rfl (by kernel_rfl) (by kernel_rfl) (by kernel_rfl) (fun _ _ _ h => h) (Or.inr ⟨by rfl, rfl⟩) (by assumption) ?_
      try simp only [Act.put, List.setIfInBounds_toArray, List.set_cons_zero, List.set_cons_succ]
      refine wpAnyH_take (i := 23) (oi := ⟨some 76, _, _, _, _, _⟩) (v := undef) rfl (by kernel_rfl) (by kernel_rfl) (by kernel_rfl) (fun _ _ _ h => h) (Or.inr ⟨by rfl, rfl⟩) (by assumption) ?_
      try simp only [Act.put, List.setIfInBounds_toArray, List.set_cons_zero, List.set_cons_succ]
      refine wpAnyH_take (i := 24) (oi := ⟨some 77, _, _, _, _, _⟩) (v := undef) rfl (by kernel_rfl) (by kernel_rfl) (by kernel_rfl) (fun _ _ _ h => h) (Or.inr ⟨by rfl, rfl⟩) (by assumption) ?_
      try simp only [Act.put, List.setIfInBounds_toArray, List.set_cons_zero, List.set_cons_succ]
      refine wpAnyH_take (i := 25) (oi := ⟨some 78, _, _, _, _, _⟩) (v := undef) rfl (by kernel_rfl) (by kernel_rfl) (by kernel_rfl) (fun _ _ _ h => h) (Or.inr ⟨by rfl, rfl⟩) (by assumption) ?_
      try simp only [Act.put, List.setIfInBounds_toArray, List.set_cons_zero, List.set_cons_succ]
      refine wpAnyH_take (i := 26) (oi := ⟨some 79, _, _, _, _, _⟩) (v := undef) rfl (by kernel_rfl) (by kernel_rfl) (by kernel_rfl) (fun _ _ _ h => h) (Or.inr ⟨by rfl, rfl⟩) (by assumption) ?_
      try simp only [Act.put, List.setIfInBounds_toArray, List.set_cons_zero, List.set_cons_succ]
      refine wpAnyH_take (i := 27) (oi := ⟨some 80, _, _, _, _, _⟩) (v := undef) rfl (by kernel_rfl) (by kernel_rfl) (by kernel_rfl) (fun _ _ _ h => h) (Or.inr ⟨by rfl, rfl⟩) (by assumption) ?_
      try simp only [Act.put, List.setIfInBounds_toArray, List.set_cons_zero, List.set_cons_succ]
      refine wpAnyH_take (i := 28) (oi := ⟨some 81, _, _, _, _, _⟩) (v := undef) rfl (by kernel_rfl) (by kernel_rfl) (by kernel_rfl) (fun _ _ _ h => h) (Or.inr ⟨by rfl, rfl⟩) (by assumption) ?_
      try simp only [Act.put, List.setIfInBounds_toArray, List.set_cons_zero, List.set_cons_succ]
      refine wpAnyH_take (i := 29) (oi := ⟨some 82, _, _, _, _, _⟩) (v := ?_) rfl (by kernel_rfl) (by kernel_rfl) (by kernel_rfl) (fun _ _ _ h => h) (Or.inl ⟨by rfl, ?_⟩) (by assumption) ?_
      rotate_left 1
      · intro w hSw
        try dsimp only at hSw
        go_simp <;> with_reducible rfl
      try simp only [Act.put, List.setIfInBounds_toArray, List.set_cons_zero, List.set_cons_succ]
      refine wpAnyH_take (i := 30) (oi := ⟨some 10, _, _, _, _, _⟩) (v := ?_) rfl (by kernel_rfl) (by kernel_rfl) (by kernel_rfl) (fun _ _ _ h => h) (Or.inl ⟨by rfl, ?_⟩) (by assumption) ?_
      rotate_left 1
      · intro w hSw
        try dsimp only at hSw
        go_simp <;> with_reducible rfl
      try simp only [Act.put, List.setIfInBounds_toArray, List.set_cons_zero, List.set_cons_succ]
      refine wpAnyH_done (by kernel_rfl) ?_ _
      go_wp2_with fail
      go_ret
      exact ⟨by rw [HR.out] <;> rfl, Hst5.out.later.trans (by repeat (first | exact Later.rfl | exact hwq | refine Later.drew ?_))⟩
    · go_upto_region 7 with (go_at_call 12; refine (Hmv.out _ Hst2.out.later).mono ?_; rintro e w5 ⟨A5, c5, rfl, -, hc5, -, hw5⟩; obtain ⟨q0, q1, q2, q3, q4, q5⟩ := (hw5.blk Hst2.out.p).pos6)
      have Hst5 := hide (Hst2.out.later_ hw5)
      clear hw5 hc5 Hst2 heq hgd tz t3
      have HS := hide (show ∀ w' : World, Later w5 w' → (w'.cell? ⟨W.heap.size, 0, none⟩ = some (.int .i64 r.start.w) ∧ w'.cell? ⟨W.heap.size, 1, none⟩ = some (.int .i64 r.start.h) ∧ w'.cell? ⟨W.heap.size, 2, none⟩ = some (.string r.start.cells) ∧ w'.cell? ⟨W.heap.size, 3, none⟩ = some (.int .i64 r.start.turn) ∧ w'.cell? ⟨W.heap.size, 4, none⟩ = some (.string r.start.h0) ∧ w'.cell? ⟨W.heap.size, 5, none⟩ = some (.string r.start.h1) ∧ w'.cell? ⟨W.heap.size, 6, none⟩ = some (.slice A r.pieces.length cp) ∧ w'.cell? ⟨W.heap.size, 7, none⟩ = some (.bool r.drops) ∧ w'.cell? ⟨W.heap.size, 8, none⟩ = some (.int .u8 r.lose) ∧ w'.cell? ⟨W.heap.size, 9, none⟩ = some (.int .i64 r.line) ∧ w'.cell? ⟨W.heap.size, 10, none⟩ = some (.int .u8 r.reach) ∧ w'.cell? ⟨W.heap.size, 11, none⟩ = some (.bool r.stuck) ∧ w'.cell? ⟨W.heap.size, 12, none⟩ = some (.int .i64 r.plies) ∧ w'.cell? ⟨W.heap.size + 1, 0, none⟩ = some (.int .i64 p.w) ∧ w'.cell? ⟨W.heap.size + 1, 1, none⟩ = some (.int .i64 p.h) ∧ w'.cell? ⟨W.heap.size + 1, 2, none⟩ = some (.string p.cells) ∧ w'.cell? ⟨W.heap.size + 1, 3, none⟩ = some (.int .i64 p.turn) ∧ w'.cell? ⟨W.heap.size + 1, 4, none⟩ = some (.string p.h0) ∧ w'.cell? ⟨W.heap.size + 1, 5, none⟩ = some (.string p.h1) ∧ w'.cell? ⟨W.heap.size + 1 + 1, 0, none⟩ = some (.bool false) ∧ w'.cell? ⟨W.heap.size + 1 + 1, 1, none⟩ = some (.int .i64 m.f) ∧ w'.cell? ⟨W.heap.size + 1 + 1, 2, none⟩ = some (.int .i64 m.t) ∧ w'.cell? ⟨W.heap.size + 1 + 1, 3, none⟩ = some (.int .u8 (m.c : Int)) ∧ w'.cell? ⟨W.heap.size + 1 + 1, 4, none⟩ = some (.slice Ak k ck)) from fun w' hw => by
        obtain ⟨x0, x1, x2, x3, x4, x5, x6, x7, x8, x9, x10, x11, x12⟩ := (hw.blk Hst5.out.r).rules
        obtain ⟨p0, p1, p2, p3, p4, p5⟩ := (hw.blk Hst5.out.p).pos6
        obtain ⟨c0, c1, c2, c3, c4⟩ := (hw.blk Hst5.out.c).five
        exact ⟨x0, x1, x2, x3, x4, x5, x6, x7, x8, x9, x10, x11, x12, p0, p1, p2, p3, p4, p5, c0, c1, c2, c3, c4⟩)
      refine wp_region_held_drew (S := fun w' : World => (w'.cell? ⟨W.heap.size, 0, none⟩ = some (.int .i64 r.start.w) ∧ w'.cell? ⟨W.heap.size, 1, none⟩ = some (.int .i64 r.start.h) ∧ w'.cell? ⟨W.heap.size, 2, none⟩ = some (.string r.start.cells) ∧ w'.cell? ⟨W.heap.size, 3, none⟩ = some (.int .i64 r.start.turn) ∧ w'.cell? ⟨W.heap.size, 4, none⟩ = some (.string r.start.h0) ∧ w'.cell? ⟨W.heap.size, 5, none⟩ = some (.string r.start.h1) ∧ w'.cell? ⟨W.heap.size, 6, none⟩ = some (.slice A r.pieces.length cp) ∧ w'.cell? ⟨W.heap.size, 7, none⟩ = some (.bool r.drops) ∧ w'.cell? ⟨W.heap.size, 8, none⟩ = some (.int .u8 r.lose) ∧ w'.cell? ⟨W.heap.size, 9, none⟩ = some (.int .i64 r.line) ∧ w'.cell? ⟨W.heap.size, 10, none⟩ = some (.int .u8 r.reach) ∧ w'.cell? ⟨W.heap.size, 11, none⟩ = some (.bool r.stuck) ∧ w'.cell? ⟨W.heap.size, 12, none⟩ = some (.int .i64 r.plies) ∧ w'.cell? ⟨W.heap.size + 1, 0, none⟩ = some (.int .i64 p.w) ∧ w'.cell? ⟨W.heap.size + 1, 1, none⟩ = some (.int .i64 p.h) ∧ w'.cell? ⟨W.heap.size + 1, 2, none⟩ = some (.string p.cells) ∧ w'.cell? ⟨W.heap.size + 1, 3, none⟩ = some (.int .i64 p.turn) ∧ w'.cell? ⟨W.heap.size + 1, 4, none⟩ = some (.string p.h0) ∧ w'.cell? ⟨W.heap.size + 1, 5, none⟩ = some (.string p.h1) ∧ w'.cell? ⟨W.heap.size + 1 + 1, 0, none⟩ = some (.bool false) ∧ w'.cell? ⟨W.heap.size + 1 + 1, 1, none⟩ = some (.int .i64 m.f) ∧ w'.cell? ⟨W.heap.size + 1 + 1, 2, none⟩ = some (.int .i64 m.t) ∧ w'.cell? ⟨W.heap.size + 1 + 1, 3, none⟩ = some (.int .u8 (m.c : Int)) ∧ w'.cell? ⟨W.heap.size + 1 + 1, 4, none⟩ = some (.slice Ak k ck))) (by kernel_rfl) (HS.out _ Later.rfl.drew) (fun hHeld => ?_)
      refine wpAnyH_take (i := 0) (oi := ⟨some 53, _, _, _, _, _⟩) (v := ?_) rfl (by kernel_rfl) (by kernel_rfl) (by kernel_rfl) (fun _ _ _ h => h) (Or.inl ⟨by rfl, ?_⟩) (by assumption) ?_
      rotate_left 1
      · intro w hSw
        try dsimp only at hSw
        go_simp <;> with_reducible rfl
      try simp only [Act.put, List.setIfInBounds_toArray, List.set_cons_zero, List.set_cons_succ]
      refine wpAnyH_take (i := 1) (oi := ⟨some 54, _, _, _, _, _⟩) (v := ?_) rfl (by kernel_rfl) (by kernel_rfl) (by kernel_rfl) (fun _ _ _ h => h) (Or.inl ⟨by rfl, ?_⟩) (by assumption) ?_
      rotate_left 1
      · intro w hSw
        try dsimp only at hSw
        go_simp <;> with_reducible rfl
      try simp only [Act.put, List.setIfInBounds_toArray, List.set_cons_zero, List.set_cons_succ]
      refine wpAnyH_take (i := 2) (oi := ⟨some 55, _, _, _, _, _⟩) (v := ?_) rfl (by kernel_rfl) (by kernel_rfl) (by kernel_rfl) (fun _ _ _ h => h) (Or.inl ⟨by rfl, ?_⟩) (by assumption) ?_
      rotate_left 1
      · intro w hSw
        try dsimp only at hSw
        go_simp <;> with_reducible rfl
      try simp only [Act.put, List.setIfInBounds_toArray, List.set_cons_zero, List.set_cons_succ]
      refine wpAnyH_take (i := 3) (oi := ⟨some 56, _, _, _, _, _⟩) (v := undef) rfl (by kernel_rfl) (by kernel_rfl) (by kernel_rfl) (fun _ _ _ h => h) (Or.inr ⟨by rfl, rfl⟩) (by assumption) ?_
      try simp only [Act.put, List.setIfInBounds_toArray, List.set_cons_zero, List.set_cons_succ]
      refine wpAnyH_take (i := 4) (oi := ⟨some 57, _, _, _, _, _⟩) (v := undef) rfl (by kernel_rfl) (by kernel_rfl) (by kernel_rfl) (fun _ _ _ h => h) (Or.inr ⟨by rfl, rfl⟩) (by assumption) ?_
      try simp only [Act.put, List.setIfInBounds_toArray, List.set_cons_zero, List.set_cons_succ]
      refine wpAnyH_take (i := 5) (oi := ⟨some 58, _, _, _, _, _⟩) (v := undef) rfl (by kernel_rfl) (by kernel_rfl) (by kernel_rfl) (fun _ _ _ h => h) (Or.inr ⟨by rfl, rfl⟩) (by assumption) ?_
      try simp only [Act.put, List.setIfInBounds_toArray, List.set_cons_zero, List.set_cons_succ]
      refine wpAnyH_take (i := 6) (oi := ⟨some 59, _, _, _, _, _⟩) (v := undef) rfl (by kernel_rfl) (by kernel_rfl) (by kernel_rfl) (fun _ _ _ h => h) (Or.inr ⟨by rfl, rfl⟩) (by assumption) ?_
      try simp only [Act.put, List.setIfInBounds_toArray, List.set_cons_zero, List.set_cons_succ]
      refine wpAnyH_take (i := 7) (oi := ⟨some 60, _, _, _, _, _⟩) (v := ?_) rfl (by kernel_rfl) (by kernel_rfl) (by kernel_rfl) (fun _ _ _ h => h) (Or.inl ⟨by rfl, ?_⟩) (by assumption) ?_
      rotate_left 1
      · intro w hSw
        try dsimp only at hSw
        go_simp <;> with_reducible rfl
      try simp only [Act.put, List.setIfInBounds_toArray, List.set_cons_zero, List.set_cons_succ]
      refine wpAnyH_take (i := 8) (oi := ⟨some 61, _, _, _, _, _⟩) (v := ?_) rfl (by kernel_rfl) (by kernel_rfl) (by kernel_rfl) (fun _ _ _ h => h) (Or.inl ⟨by rfl, ?_⟩) (by assumption) ?_
      rotate_left 1
      · intro w hSw
        try dsimp only at hSw
        go_simp <;> with_reducible rfl
      try simp only [Act.put, List.setIfInBounds_toArray, List.set_cons_zero, List.set_cons_succ]
      refine wpAnyH_take (i := 9) (oi := ⟨some 62, _, _, _, _, _⟩) (v := undef) rfl (by kernel_rfl) (by kernel_rfl) (by kernel_rfl) (fun _ _ _ h => h) (Or.inr ⟨by rfl, rfl⟩) (by assumption) ?_
      try simp only [Act.put, List.setIfInBounds_toArray, List.set_cons_zero, List.set_cons_succ]
      refine wpAnyH_take (i := 10) (oi := ⟨some 63, _, _, _, _, _⟩) (v := undef) rfl (by kernel_rfl) (by kernel_rfl) (by kernel_rfl) (fun _ _ _ h => h) (Or.inr ⟨by rfl, rfl⟩) (by assumption) ?_
      try simp only [Act.put, List.setIfInBounds_toArray, List.set_cons_zero, List.set_cons_succ]
      refine wpAnyH_take (i := 11) (oi := ⟨some 64, _, _, _, _, _⟩) (v := undef) rfl (by kernel_rfl) (by kernel_rfl) (by kernel_rfl) (fun _ _ _ h => h) (Or.inr ⟨by rfl, rfl⟩) (by assumption) ?_
      try simp only [Act.put, List.setIfInBounds_toArray, List.set_cons_zero, List.set_cons_succ]
      refine wpAnyH_take (i := 12) (oi := ⟨some 65, _, _, _, _, _⟩) (v := undef) rfl (by kernel_rfl) (by kernel_rfl) (by kernel_rfl) (fun _ _ _ h => h) (Or.inr ⟨by rfl, rfl⟩) (by assumption) ?_
      try simp only [Act.put, List.setIfInBounds_toArray, List.set_cons_zero, List.set_cons_succ]
      refine wpAnyH_take (i := 13) (oi := ⟨some 66, _, _, _, _, _⟩) (v := ?_) rfl (by kernel_rfl) (by kernel_rfl) (by kernel_rfl) (fun _ _ _ h => h) (Or.inl ⟨by rfl, ?_⟩) (by assumption) ?_
      rotate_left 1
      · intro w hSw
        try dsimp only at hSw
        go_simp <;> with_reducible rfl
      try simp only [Act.put, List.setIfInBounds_toArray, List.set_cons_zero, List.set_cons_succ]
      refine wpAnyH_take (i := 14) (oi := ⟨some 67, _, _, _, _, _⟩) (v := ?_) rfl (by kernel_rfl) (by kernel_rfl) (by kernel_rfl) (fun _ _ _ h => h) (Or.inl ⟨by rfl, ?_⟩) (by assumption) ?_
      rotate_left 1
      · intro w hSw
        try dsimp only at hSw
        go_simp <;> with_reducible rfl
      try simp only [Act.put, List.setIfInBounds_toArray, List.set_cons_zero, List.set_cons_succ]
      refine wpAnyH_take (i := 15) (oi := ⟨some 68, _, _, _, _, _⟩) (v := undef) rfl (by kernel_rfl) (by kernel_rfl) (by kernel_rfl) (fun _ _ _ h => h) (Or.inr ⟨by rfl, rfl⟩) (by assumption) ?_
      try simp only [Act.put, List.setIfInBounds_toArray, List.set_cons_zero, List.set_cons_succ]
      refine wpAnyH_take (i := 16) (oi := ⟨some 69, _, _, _, _, _⟩) (v := undef) rfl (by kernel_rfl) (by kernel_rfl) (by kernel_rfl) (fun _ _ _ h => h) (Or.inr ⟨by rfl, rfl⟩) (by assumption) ?_
      try simp only [Act.put, List.setIfInBounds_toArray, List.set_cons_zero, List.set_cons_succ]
      refine wpAnyH_take (i := 17) (oi := ⟨some 70, _, _, _, _, _⟩) (v := undef) rfl (by kernel_rfl) (by kernel_rfl) (by kernel_rfl) (fun _ _ _ h => h) (Or.inr ⟨by rfl, rfl⟩) (by assumption) ?_
      try simp only [Act.put, List.setIfInBounds_toArray, List.set_cons_zero, List.set_cons_succ]
      refine wpAnyH_take (i := 18) (oi := ⟨some 71, _, _, _, _, _⟩) (v := undef) rfl (by kernel_rfl) (by kernel_rfl) (by kernel_rfl) (fun _ _ _ h => h) (Or.inr ⟨by rfl, rfl⟩) (by assumption) ?_
      try simp only [Act.put, List.setIfInBounds_toArray, List.set_cons_zero, List.set_cons_succ]
      refine wpAnyH_take (i := 19) (oi := ⟨some 72, _, _, _, _, _⟩) (v := undef) rfl (by kernel_rfl) (by kernel_rfl) (by kernel_rfl) (fun _ _ _ h => h) (Or.inr ⟨by rfl, rfl⟩) (by assumption) ?_
      try simp only [Act.put, List.setIfInBounds_toArray, List.set_cons_zero, List.set_cons_succ]
      refine wpAnyH_take (i := 20) (oi := ⟨some 73, _, _, _, _, _⟩) (v := undef) rfl (by kernel_rfl) (by kernel_rfl) (by kernel_rfl) (fun _ _ _ h => h) (Or.inr ⟨by rfl, rfl⟩) (by assumption) ?_
      try simp only [Act.put, List.setIfInBounds_toArray, List.set_cons_zero, List.set_cons_succ]
      refine wpAnyH_take (i := 21) (oi := ⟨some 74, _, _, _, _, _⟩) (v := undef) rfl (by kernel_rfl) (by kernel_rfl) (by kernel_rfl) (fun _ _ _ h => h) (Or.inr ⟨by rfl, rfl⟩) (by assumption) ?_
      try simp only [Act.put, List.setIfInBounds_toArray, List.set_cons_zero, List.set_cons_succ]
      refine wpAnyH_take (i := 22) (oi := ⟨some 75, _, _, _, _, _⟩) (v := undef) rfl (by kernel_rfl) (by kernel_rfl) (by kernel_rfl) (fun _ _ _ h => h) (Or.inr ⟨by rfl, rfl⟩) (by assumption) ?_
      try simp only [Act.put, List.setIfInBounds_toArray, List.set_cons_zero, List.set_cons_succ]
      refine wpAnyH_take (i := 23) (oi := ⟨some 76, _, _, _, _, _⟩) (v := undef) rfl (by kernel_rfl) (by kernel_rfl) (by kernel_rfl) (fun _ _ _ h => h) (Or.inr ⟨by rfl, rfl⟩) (by assumption) ?_
      try simp only [Act.put, List.setIfInBounds_toArray, List.set_cons_zero, List.set_cons_succ]
      refine wpAnyH_take (i := 24) (oi := ⟨some 77, _, _, _, _, _⟩) (v := undef) rfl (by kernel_rfl) (by kernel_rfl) (by kernel_rfl) (fun _ _ _ h => h) (Or.inr ⟨by rfl, rfl⟩) (by assumption) ?_
      try simp only [Act.put, List.setIfInBounds_toArray, List.set_cons_zero, List.set_cons_succ]
      refine wpAnyH_take (i := 25) (oi := ⟨some 78, _, _, _, _, _⟩) (v := undef) rfl (by kernel_rfl) (by kernel_rfl) (by kernel_rfl) (fun _ _ _ h => h) (Or.inr ⟨by rfl, rfl⟩) (by assumption) ?_
      try simp only [Act.put, List.setIfInBounds_toArray, List.set_cons_zero, List.set_cons_succ]
      refine wpAnyH_take (i := 26) (oi := ⟨some 79, _, _, _, _, _⟩) (v := undef) rfl (by kernel_rfl) (by kernel_rfl) (by kernel_rfl) (fun _ _ _ h => h) (Or.inr ⟨by rfl, rfl⟩) (by assumption) ?_
      try simp only [Act.put, List.setIfInBounds_toArray, List.set_cons_zero, List.set_cons_succ]
      refine wpAnyH_take (i := 27) (oi := ⟨some 80, _, _, _, _, _⟩) (v := undef) rfl (by kernel_rfl) (by kernel_rfl) (by kernel_rfl) (fun _ _ _ h => h) (Or.inr ⟨by rfl, rfl⟩) (by assumption) ?_
      try simp only [Act.put, List.setIfInBounds_toArray, List.set_cons_zero, List.set_cons_succ]
      refine wpAnyH_take (i := 28) (oi := ⟨some 81, _, _, _, _, _⟩) (v := undef) rfl (by kernel_rfl) (by kernel_rfl) (by kernel_rfl) (fun _ _ _ h => h) (Or.inr ⟨by rfl, rfl⟩) (by assumption) ?_
      try simp only [Act.put, List.setIfInBounds_toArray, List.set_cons_zero, List.set_cons_succ]
      refine wpAnyH_take (i := 29) (oi := ⟨some 82, _, _, _, _, _⟩) (v := ?_) rfl (by kernel_rfl) (by kernel_rfl) (by kernel_rfl) (fun _ _ _ h => h) (Or.inl ⟨by rfl, ?_⟩) (by assumption) ?_
      rotate_left 1
      · intro w hSw
        try dsimp only at hSw
        go_simp <;> with_reducible rfl
      try simp only [Act.put, List.setIfInBounds_toArray, List.set_cons_zero, List.set_cons_succ]
      refine wpAnyH_take (i := 30) (oi := ⟨some 10, _, _, _, _, _⟩) (v := ?_) rfl (by kernel_rfl) (by kernel_rfl) (by kernel_rfl) (fun _ _ _ h => h) (Or.inl ⟨by rfl, ?_⟩) (by assumption) ?_
      rotate_left 1
      · intro w hSw
        try dsimp only at hSw
        go_simp <;> with_reducible rfl
      try simp only [Act.put, List.setIfInBounds_toArray, List.set_cons_zero, List.set_cons_succ]
      refine wpAnyH_done (by kernel_rfl) ?_ _
      go_wp2_with fail
      go_ret
      exact ⟨by rw [HR.out] <;> rfl, Hst5.out.later.trans (by repeat (first | exact Later.rfl | exact hwq | refine Later.drew ?_))⟩
  · have tk : ((k : Int) == 1) = false := by rw [beq_dec]; exact decide_eq_false (by omega)
    go_upto_region 7 with (go_at_call 12; refine (Hmv.out _ Hst2.out.later).mono ?_; rintro e w5 ⟨A5, c5, rfl, -, hc5, -, hw5⟩; obtain ⟨q0, q1, q2, q3, q4, q5⟩ := (hw5.blk Hst2.out.p).pos6)
    have Hst5 := hide (Hst2.out.later_ hw5)
    clear hw5 hc5 Hst2 heq hgd tz t3
    have HS := hide (show ∀ w' : World, Later w5 w' → (w'.cell? ⟨W.heap.size, 0, none⟩ = some (.int .i64 r.start.w) ∧ w'.cell? ⟨W.heap.size, 1, none⟩ = some (.int .i64 r.start.h) ∧ w'.cell? ⟨W.heap.size, 2, none⟩ = some (.string r.start.cells) ∧ w'.cell? ⟨W.heap.size, 3, none⟩ = some (.int .i64 r.start.turn) ∧ w'.cell? ⟨W.heap.size, 4, none⟩ = some (.string r.start.h0) ∧ w'.cell? ⟨W.heap.size, 5, none⟩ = some (.string r.start.h1) ∧ w'.cell? ⟨W.heap.size, 6, none⟩ = some (.slice A r.pieces.length cp) ∧ w'.cell? ⟨W.heap.size, 7, none⟩ = some (.bool r.drops) ∧ w'.cell? ⟨W.heap.size, 8, none⟩ = some (.int .u8 r.lose) ∧ w'.cell? ⟨W.heap.size, 9, none⟩ = some (.int .i64 r.line) ∧ w'.cell? ⟨W.heap.size, 10, none⟩ = some (.int .u8 r.reach) ∧ w'.cell? ⟨W.heap.size, 11, none⟩ = some (.bool r.stuck) ∧ w'.cell? ⟨W.heap.size, 12, none⟩ = some (.int .i64 r.plies) ∧ w'.cell? ⟨W.heap.size + 1, 0, none⟩ = some (.int .i64 p.w) ∧ w'.cell? ⟨W.heap.size + 1, 1, none⟩ = some (.int .i64 p.h) ∧ w'.cell? ⟨W.heap.size + 1, 2, none⟩ = some (.string p.cells) ∧ w'.cell? ⟨W.heap.size + 1, 3, none⟩ = some (.int .i64 p.turn) ∧ w'.cell? ⟨W.heap.size + 1, 4, none⟩ = some (.string p.h0) ∧ w'.cell? ⟨W.heap.size + 1, 5, none⟩ = some (.string p.h1) ∧ w'.cell? ⟨W.heap.size + 1 + 1, 0, none⟩ = some (.bool true) ∧ w'.cell? ⟨W.heap.size + 1 + 1, 1, none⟩ = some (.int .i64 m.f) ∧ w'.cell? ⟨W.heap.size + 1 + 1, 2, none⟩ = some (.int .i64 m.t) ∧ w'.cell? ⟨W.heap.size + 1 + 1, 3, none⟩ = some (.int .u8 (m.c : Int)) ∧ w'.cell? ⟨W.heap.size + 1 + 1, 4, none⟩ = some (.slice Ak k ck)) from fun w' hw => by
      obtain ⟨x0, x1, x2, x3, x4, x5, x6, x7, x8, x9, x10, x11, x12⟩ := (hw.blk Hst5.out.r).rules
      obtain ⟨p0, p1, p2, p3, p4, p5⟩ := (hw.blk Hst5.out.p).pos6
      obtain ⟨c0, c1, c2, c3, c4⟩ := (hw.blk Hst5.out.c).five
      exact ⟨x0, x1, x2, x3, x4, x5, x6, x7, x8, x9, x10, x11, x12, p0, p1, p2, p3, p4, p5, c0, c1, c2, c3, c4⟩)
    refine wp_region_held_drew (S := fun w' : World => (w'.cell? ⟨W.heap.size, 0, none⟩ = some (.int .i64 r.start.w) ∧ w'.cell? ⟨W.heap.size, 1, none⟩ = some (.int .i64 r.start.h) ∧ w'.cell? ⟨W.heap.size, 2, none⟩ = some (.string r.start.cells) ∧ w'.cell? ⟨W.heap.size, 3, none⟩ = some (.int .i64 r.start.turn) ∧ w'.cell? ⟨W.heap.size, 4, none⟩ = some (.string r.start.h0) ∧ w'.cell? ⟨W.heap.size, 5, none⟩ = some (.string r.start.h1) ∧ w'.cell? ⟨W.heap.size, 6, none⟩ = some (.slice A r.pieces.length cp) ∧ w'.cell? ⟨W.heap.size, 7, none⟩ = some (.bool r.drops) ∧ w'.cell? ⟨W.heap.size, 8, none⟩ = some (.int .u8 r.lose) ∧ w'.cell? ⟨W.heap.size, 9, none⟩ = some (.int .i64 r.line) ∧ w'.cell? ⟨W.heap.size, 10, none⟩ = some (.int .u8 r.reach) ∧ w'.cell? ⟨W.heap.size, 11, none⟩ = some (.bool r.stuck) ∧ w'.cell? ⟨W.heap.size, 12, none⟩ = some (.int .i64 r.plies) ∧ w'.cell? ⟨W.heap.size + 1, 0, none⟩ = some (.int .i64 p.w) ∧ w'.cell? ⟨W.heap.size + 1, 1, none⟩ = some (.int .i64 p.h) ∧ w'.cell? ⟨W.heap.size + 1, 2, none⟩ = some (.string p.cells) ∧ w'.cell? ⟨W.heap.size + 1, 3, none⟩ = some (.int .i64 p.turn) ∧ w'.cell? ⟨W.heap.size + 1, 4, none⟩ = some (.string p.h0) ∧ w'.cell? ⟨W.heap.size + 1, 5, none⟩ = some (.string p.h1) ∧ w'.cell? ⟨W.heap.size + 1 + 1, 0, none⟩ = some (.bool true) ∧ w'.cell? ⟨W.heap.size + 1 + 1, 1, none⟩ = some (.int .i64 m.f) ∧ w'.cell? ⟨W.heap.size + 1 + 1, 2, none⟩ = some (.int .i64 m.t) ∧ w'.cell? ⟨W.heap.size + 1 + 1, 3, none⟩ = some (.int .u8 (m.c : Int)) ∧ w'.cell? ⟨W.heap.size + 1 + 1, 4, none⟩ = some (.slice Ak k ck))) (by kernel_rfl) (HS.out _ Later.rfl.drew) (fun hHeld => ?_)
    refine wpAnyH_take (i := 0) (oi := ⟨some 53, _, _, _, _, _⟩) (v := ?_) rfl (by kernel_rfl) (by kernel_rfl) (by kernel_rfl) (fun _ _ _ h => h) (Or.inl ⟨by rfl, ?_⟩) (by assumption) ?_
    rotate_left 1
    · intro w hSw
      try dsimp only at hSw
      go_simp <;> with_reducible rfl
    try simp only [Act.put, List.setIfInBounds_toArray, List.set_cons_zero, List.set_cons_succ]
    refine wpAnyH_take (i := 1) (oi := ⟨some 54, _, _, _, _, _⟩) (v := ?_) rfl (by kernel_rfl) (by kernel_rfl) (by kernel_rfl) (fun _ _ _ h => h) (Or.inl ⟨by rfl, ?_⟩) (by assumption) ?_
    rotate_left 1
    · intro w hSw
      try dsimp only at hSw
      go_simp <;> with_reducible rfl
    try simp only [Act.put, List.setIfInBounds_toArray, List.set_cons_zero, List.set_cons_succ]
    refine wpAnyH_take (i := 2) (oi := ⟨some 55, _, _, _, _, _⟩) (v := ?_) rfl (by kernel_rfl) (by kernel_rfl) (by kernel_rfl) (fun _ _ _ h => h) (Or.inl ⟨by rfl, ?_⟩) (by assumption) ?_
    rotate_left 1
    · intro w hSw
      try dsimp only at hSw
      go_simp <;> with_reducible rfl
    try simp only [Act.put, List.setIfInBounds_toArray, List.set_cons_zero, List.set_cons_succ]
    refine wpAnyH_take (i := 3) (oi := ⟨some 56, _, _, _, _, _⟩) (v := ?_) rfl (by kernel_rfl) (by kernel_rfl) (by kernel_rfl) (fun _ _ _ h => h) (Or.inl ⟨by rfl, ?_⟩) (by assumption) ?_
    rotate_left 1
    · intro w hSw
      try dsimp only at hSw
      go_simp <;> with_reducible rfl
    try simp only [Act.put, List.setIfInBounds_toArray, List.set_cons_zero, List.set_cons_succ]
    refine wpAnyH_take (i := 4) (oi := ⟨some 57, _, _, _, _, _⟩) (v := ?_) rfl (by kernel_rfl) (by kernel_rfl) (by kernel_rfl) (fun _ _ _ h => h) (Or.inl ⟨by rfl, ?_⟩) (by assumption) ?_
    rotate_left 1
    · intro w hSw
      try dsimp only at hSw
      go_simp <;> with_reducible rfl
    try simp only [Act.put, List.setIfInBounds_toArray, List.set_cons_zero, List.set_cons_succ]
    refine wpAnyH_take (i := 5) (oi := ⟨some 58, _, _, _, _, _⟩) (v := ?_) rfl (by kernel_rfl) (by kernel_rfl) (by kernel_rfl) (fun _ _ _ h => h) (Or.inl ⟨by rfl, ?_⟩) (by assumption) ?_
    rotate_left 1
    · intro w hSw
      try dsimp only at hSw
      go_simp <;> with_reducible rfl
    try simp only [Act.put, List.setIfInBounds_toArray, List.set_cons_zero, List.set_cons_succ]
    refine wpAnyH_take (i := 6) (oi := ⟨some 59, _, _, _, _, _⟩) (v := ?_) rfl (by kernel_rfl) (by kernel_rfl) (by kernel_rfl) (fun _ _ _ h => h) (Or.inl ⟨by rfl, ?_⟩) (by assumption) ?_
    rotate_left 1
    · intro w hSw
      try dsimp only at hSw
      go_simp <;> with_reducible rfl
    try simp only [Act.put, List.setIfInBounds_toArray, List.set_cons_zero, List.set_cons_succ]
    refine wpAnyH_take (i := 7) (oi := ⟨some 60, _, _, _, _, _⟩) (v := ?_) rfl (by kernel_rfl) (by kernel_rfl) (by kernel_rfl) (fun _ _ _ h => h) (Or.inl ⟨by rfl, ?_⟩) (by assumption) ?_
    rotate_left 1
    · intro w hSw
      try dsimp only at hSw
      go_simp <;> with_reducible rfl
    try simp only [Act.put, List.setIfInBounds_toArray, List.set_cons_zero, List.set_cons_succ]
    refine wpAnyH_take (i := 8) (oi := ⟨some 61, _, _, _, _, _⟩) (v := ?_) rfl (by kernel_rfl) (by kernel_rfl) (by kernel_rfl) (fun _ _ _ h => h) (Or.inl ⟨by rfl, ?_⟩) (by assumption) ?_
    rotate_left 1
    · intro w hSw
      try dsimp only at hSw
      go_simp <;> with_reducible rfl
    try simp only [Act.put, List.setIfInBounds_toArray, List.set_cons_zero, List.set_cons_succ]
    refine wpAnyH_take (i := 9) (oi := ⟨some 62, _, _, _, _, _⟩) (v := undef) rfl (by kernel_rfl) (by kernel_rfl) (by kernel_rfl) (fun _ _ _ h => h) (Or.inr ⟨by rfl, rfl⟩) (by assumption) ?_
    try simp only [Act.put, List.setIfInBounds_toArray, List.set_cons_zero, List.set_cons_succ]
    refine wpAnyH_take (i := 10) (oi := ⟨some 63, _, _, _, _, _⟩) (v := undef) rfl (by kernel_rfl) (by kernel_rfl) (by kernel_rfl) (fun _ _ _ h => h) (Or.inr ⟨by rfl, rfl⟩) (by assumption) ?_
    try simp only [Act.put, List.setIfInBounds_toArray, List.set_cons_zero, List.set_cons_succ]
    refine wpAnyH_take (i := 11) (oi := ⟨some 64, _, _, _, _, _⟩) (v := undef) rfl (by kernel_rfl) (by kernel_rfl) (by kernel_rfl) (fun _ _ _ h => h) (Or.inr ⟨by rfl, rfl⟩) (by assumption) ?_
    try simp only [Act.put, List.setIfInBounds_toArray, List.set_cons_zero, List.set_cons_succ]
    refine wpAnyH_take (i := 12) (oi := ⟨some 65, _, _, _, _, _⟩) (v := undef) rfl (by kernel_rfl) (by kernel_rfl) (by kernel_rfl) (fun _ _ _ h => h) (Or.inr ⟨by rfl, rfl⟩) (by assumption) ?_
    try simp only [Act.put, List.setIfInBounds_toArray, List.set_cons_zero, List.set_cons_succ]
    refine wpAnyH_take (i := 13) (oi := ⟨some 66, _, _, _, _, _⟩) (v := ?_) rfl (by kernel_rfl) (by kernel_rfl) (by kernel_rfl) (fun _ _ _ h => h) (Or.inl ⟨by rfl, ?_⟩) (by assumption) ?_
    rotate_left 1
    · intro w hSw
      try dsimp only at hSw
      go_simp <;> with_reducible rfl
    try simp only [Act.put, List.setIfInBounds_toArray, List.set_cons_zero, List.set_cons_succ]
    refine wpAnyH_take (i := 14) (oi := ⟨some 67, _, _, _, _, _⟩) (v := ?_) rfl (by kernel_rfl) (by kernel_rfl) (by kernel_rfl) (fun _ _ _ h => h) (Or.inl ⟨by rfl, ?_⟩) (by assumption) ?_
    rotate_left 1
    · intro w hSw
      try dsimp only at hSw
      go_simp <;> with_reducible rfl
    try simp only [Act.put, List.setIfInBounds_toArray, List.set_cons_zero, List.set_cons_succ]
    refine wpAnyH_take (i := 15) (oi := ⟨some 68, _, _, _, _, _⟩) (v := undef) rfl (by kernel_rfl) (by kernel_rfl) (by kernel_rfl) (fun _ _ _ h => h) (Or.inr ⟨by rfl, rfl⟩) (by assumption) ?_
    try simp only [Act.put, List.setIfInBounds_toArray, List.set_cons_zero, List.set_cons_succ]
    refine wpAnyH_take (i := 16) (oi := ⟨some 69, _, _, _, _, _⟩) (v := undef) rfl (by kernel_rfl) (by kernel_rfl) (by kernel_rfl) (fun _ _ _ h => h) (Or.inr ⟨by rfl, rfl⟩) (by assumption) ?_
    try simp only [Act.put, List.setIfInBounds_toArray, List.set_cons_zero, List.set_cons_succ]
    refine wpAnyH_take (i := 17) (oi := ⟨some 70, _, _, _, _, _⟩) (v := undef) rfl (by kernel_rfl) (by kernel_rfl) (by kernel_rfl) (fun _ _ _ h => h) (Or.inr ⟨by rfl, rfl⟩) (by assumption) ?_
    try simp only [Act.put, List.setIfInBounds_toArray, List.set_cons_zero, List.set_cons_succ]
    refine wpAnyH_take (i := 18) (oi := ⟨some 71, _, _, _, _, _⟩) (v := undef) rfl (by kernel_rfl) (by kernel_rfl) (by kernel_rfl) (fun _ _ _ h => h) (Or.inr ⟨by rfl, rfl⟩) (by assumption) ?_
    try simp only [Act.put, List.setIfInBounds_toArray, List.set_cons_zero, List.set_cons_succ]
    refine wpAnyH_take (i := 19) (oi := ⟨some 72, _, _, _, _, _⟩) (v := undef) rfl (by kernel_rfl) (by kernel_rfl) (by kernel_rfl) (fun _ _ _ h => h) (Or.inr ⟨by rfl, rfl⟩) (by assumption) ?_
    try simp only [Act.put, List.setIfInBounds_toArray, List.set_cons_zero, List.set_cons_succ]
    refine wpAnyH_take (i := 20) (oi := ⟨some 73, _, _, _, _, _⟩) (v := undef) rfl (by kernel_rfl) (by kernel_rfl) (by kernel_rfl) (fun _ _ _ h => h) (Or.inr ⟨by rfl, rfl⟩) (by assumption) ?_
    try simp only [Act.put, List.setIfInBounds_toArray, List.set_cons_zero, List.set_cons_succ]
    refine wpAnyH_take (i := 21) (oi := ⟨some 74, _, _, _, _, _⟩) (v := undef) rfl (by kernel_rfl) (by kernel_rfl) (by kernel_rfl) (fun _ _ _ h => h) (Or.inr ⟨by rfl, rfl⟩) (by assumption) ?_
    try simp only [Act.put, List.setIfInBounds_toArray, List.set_cons_zero, List.set_cons_succ]
    refine wpAnyH_take (i := 22) (oi := ⟨some 75, _, _, _, _, _⟩) (v := undef) rfl (by kernel_rfl) (by kernel_rfl) (by kernel_rfl) (fun _ _ _ h => h) (Or.inr ⟨by rfl, rfl⟩) (by assumption) ?_
    try simp only [Act.put, List.setIfInBounds_toArray, List.set_cons_zero, List.set_cons_succ]
    refine wpAnyH_take (i := 23) (oi := ⟨some 76, _, _, _, _, _⟩) (v := undef) rfl (by kernel_rfl) (by kernel_rfl) (by kernel_rfl) (fun _ _ _ h => h) (Or.inr ⟨by rfl, rfl⟩) (by assumption) ?_
    try simp only [Act.put, List.setIfInBounds_toArray, List.set_cons_zero, List.set_cons_succ]
    refine wpAnyH_take (i := 24) (oi := ⟨some 77, _, _, _, _, _⟩) (v := undef) rfl (by kernel_rfl) (by kernel_rfl) (by kernel_rfl) (fun _ _ _ h => h) (Or.inr ⟨by rfl, rfl⟩) (by assumption) ?_
    try simp only [Act.put, List.setIfInBounds_toArray, List.set_cons_zero, List.set_cons_succ]
    refine wpAnyH_take (i := 25) (oi := ⟨some 78, _, _, _, _, _⟩) (v := undef) rfl (by kernel_rfl) (by kernel_rfl) (by kernel_rfl) (fun _ _ _ h => h) (Or.inr ⟨by rfl, rfl⟩) (by assumption) ?_
    try simp only [Act.put, List.setIfInBounds_toArray, List.set_cons_zero, List.set_cons_succ]
    refine wpAnyH_take (i := 26) (oi := ⟨some 79, _, _, _, _, _⟩) (v := undef) rfl (by kernel_rfl) (by kernel_rfl) (by kernel_rfl) (fun _ _ _ h => h) (Or.inr ⟨by rfl, rfl⟩) (by assumption) ?_
    try simp only [Act.put, List.setIfInBounds_toArray, List.set_cons_zero, List.set_cons_succ]
    refine wpAnyH_take (i := 27) (oi := ⟨some 80, _, _, _, _, _⟩) (v := undef) rfl (by kernel_rfl) (by kernel_rfl) (by kernel_rfl) (fun _ _ _ h => h) (Or.inr ⟨by rfl, rfl⟩) (by assumption) ?_
    try simp only [Act.put, List.setIfInBounds_toArray, List.set_cons_zero, List.set_cons_succ]
    refine wpAnyH_take (i := 28) (oi := ⟨some 81, _, _, _, _, _⟩) (v := undef) rfl (by kernel_rfl) (by kernel_rfl) (by kernel_rfl) (fun _ _ _ h => h) (Or.inr ⟨by rfl, rfl⟩) (by assumption) ?_
    try simp only [Act.put, List.setIfInBounds_toArray, List.set_cons_zero, List.set_cons_succ]
    refine wpAnyH_take (i := 29) (oi := ⟨some 82, _, _, _, _, _⟩) (v := ?_) rfl (by kernel_rfl) (by kernel_rfl) (by kernel_rfl) (fun _ _ _ h => h) (Or.inl ⟨by rfl, ?_⟩) (by assumption) ?_
    rotate_left 1
    · intro w hSw
      try dsimp only at hSw
      go_simp <;> with_reducible rfl
    try simp only [Act.put, List.setIfInBounds_toArray, List.set_cons_zero, List.set_cons_succ]
    refine wpAnyH_take (i := 30) (oi := ⟨some 10, _, _, _, _, _⟩) (v := ?_) rfl (by kernel_rfl) (by kernel_rfl) (by kernel_rfl) (fun _ _ _ h => h) (Or.inl ⟨by rfl, ?_⟩) (by assumption) ?_
    rotate_left 1
    · intro w hSw
      try dsimp only at hSw
      go_simp <;> with_reducible rfl
    try simp only [Act.put, List.setIfInBounds_toArray, List.set_cons_zero, List.set_cons_succ]
    refine wpAnyH_done (by kernel_rfl) ?_ _
    go_wp2_with fail
    go_ret
    exact ⟨by rw [HR.out] <;> rfl, Hst5.out.later.trans (by repeat (first | exact Later.rfl | exact hwq | refine Later.drew ?_))⟩
set_option maxHeartbeats 16000000 in
set_option maxRecDepth 100000 in
theorem shows_own_one (r : RulesD) (A : Option Addr) (cp : Nat) (wn : Int) (d : Nat) (hd : d < 9) (p : Pos) (m : Mv) (bk ok ck : Nat) (kd : CertD) (Ad : Option Addr) (cd : Nat) (W : World) (R : Bool) (hP : PiecesAt W W.heap.size A r.pieces) (hok : OfOk r p) (hop : endsN r p = 0) (htn : p.turn = wn)
    (hkid : ∀ w', Later W w' → (w'.cell? ⟨bk, ok, none⟩ = some (.bool kd.s) ∧ w'.cell? ⟨bk, ok + 1, none⟩ = some (.int .i64 kd.m.f) ∧ w'.cell? ⟨bk, ok + 2, none⟩ = some (.int .i64 kd.m.t) ∧ w'.cell? ⟨bk, ok + 3, none⟩ = some (.int .u8 (kd.m.c : Int)) ∧ w'.cell? ⟨bk, ok + 4, none⟩ = some (.slice Ad kd.kids.length cd)))
    (hno : m ∉ movesL r p → R = false) (hyes : m ∈ movesL r p → R = showsB r wn d (madeP r p m) kd)
    (ih : ∀ q, OfOk r q → ∀ w, Later W w → Calls Tryz.prog 23 #[.agg #[.int .i64 r.start.w, .int .i64 r.start.h, .string r.start.cells, .int .i64 r.start.turn, .string r.start.h0, .string r.start.h1, .slice A r.pieces.length cp, .bool r.drops, .int .u8 r.lose, .int .i64 r.line, .int .u8 r.reach, .bool r.stuck, .int .i64 r.plies], .agg #[.int .i64 q.w, .int .i64 q.h, .string q.cells, .int .i64 q.turn, .string q.h0, .string q.h1], .int .i64 (d : Int), .int .i64 wn, .agg #[.bool kd.s, .int .i64 kd.m.f, .int .i64 kd.m.t, .int .u8 (kd.m.c : Int), .slice Ad kd.kids.length cd]] w fun e w' => e = .returned (.bool (showsB r wn d q kd)) ∧ Later w w') :
    Calls Tryz.prog 23 #[.agg #[.int .i64 r.start.w, .int .i64 r.start.h, .string r.start.cells, .int .i64 r.start.turn, .string r.start.h0, .string r.start.h1, .slice A r.pieces.length cp, .bool r.drops, .int .u8 r.lose, .int .i64 r.line, .int .u8 r.reach, .bool r.stuck, .int .i64 r.plies], .agg #[.int .i64 p.w, .int .i64 p.h, .string p.cells, .int .i64 p.turn, .string p.h0, .string p.h1], .int .i64 ((d : Int) + 1), .int .i64 wn, .agg #[.bool true, .int .i64 m.f, .int .i64 m.t, .int .u8 (m.c : Int), .slice (some ⟨bk, ok, none⟩) 1 ck]] W fun e w' => e = .returned (.bool R) ∧ Later W w' := by
  have Hst := hide (ShSt.first (W := W) (R := #[.int .i64 r.start.w, .int .i64 r.start.h, .string r.start.cells, .int .i64 r.start.turn, .string r.start.h0, .string r.start.h1, .slice A r.pieces.length cp, .bool r.drops, .int .u8 r.lose, .int .i64 r.line, .int .u8 r.reach, .bool r.stuck, .int .i64 r.plies]) (P := #[.int .i64 p.w, .int .i64 p.h, .string p.cells, .int .i64 p.turn, .string p.h0, .string p.h1]) (C := #[.bool true, .int .i64 m.f, .int .i64 m.t, .int .u8 (m.c : Int), .slice (some ⟨bk, ok, none⟩) 1 ck]))
  have Hen := hide (fun w (hw : Later W w) => ends_any r A cp p w ((hok.pre hP).on hw))
  have Hmv := hide (fun w (hw : Later W w) => moves_any r A cp p w ((hok.pre hP).on hw))
  simp only [hop] at Hen
  have hll : (movesL r p).length ≤ 10000 := movesL_len hok.pos
  have t3 : (p.turn == wn) = true := by rw [beq_dec]; exact decide_eq_true htn
  have tz : (((d : Int) + 1) == 0) = false := by simp; omega
  have tw : IntKind.i64.wrap ((d : Int) + 1 - 1) = (d : Int) := by rw [show (d : Int) + 1 - 1 = d by omega]; exact IntWalk.i64_in _ (by omega)
  have tw2 : IntKind.i64.wrap (d : Int) = (d : Int) := IntWalk.i64_in _ (by omega)
  have Hkid := hide hkid
  have HY := hide (show m ∈ movesL r p → ∃ q, madeP r p m = q ∧ OfOk r q ∧ R = showsB r wn d q kd ∧ ∀ w, Calls Tryz.prog 16 #[.agg #[.int .i64 r.start.w, .int .i64 r.start.h, .string r.start.cells, .int .i64 r.start.turn, .string r.start.h0, .string r.start.h1, .slice A r.pieces.length cp, .bool r.drops, .int .u8 r.lose, .int .i64 r.line, .int .u8 r.reach, .bool r.stuck, .int .i64 r.plies], .agg #[.int .i64 p.w, .int .i64 p.h, .string p.cells, .int .i64 p.turn, .string p.h0, .string p.h1], .agg #[.int .i64 m.f, .int .i64 m.t, .int .u8 m.c]] w fun e w' => e = .returned (.agg #[.int .i64 q.w, .int .i64 q.h, .string q.cells, .int .i64 q.turn, .string q.h0, .string q.h1]) ∧ Later w w' from fun hm => ⟨_, rfl, (every_made hok (moves_every hm)).2, hyes hm, fun w => made_any r A cp p m _ w hok (moves_every hm) rfl⟩)
  have HN := hide hno
  have Hih0 := hide ih
  obtain ⟨L, hL⟩ : ∃ L, movesL r p = L := ⟨_, rfl⟩
  simp only [hL] at Hmv hll HY HN
  clear hP hok hop htn hno hyes ih hkid hL
  go_enter Tryz.func23, Tryz.ntmps23
  go_upto_region 1 with (fail)
  obtain ⟨w0, hw0⟩ : ∃ w0, (((W.alloc (.cells #[.int .i64 r.start.w, .int .i64 r.start.h, .string r.start.cells, .int .i64 r.start.turn, .string r.start.h0, .string r.start.h1, .slice A r.pieces.length cp, .bool r.drops, .int .u8 r.lose, .int .i64 r.line, .int .u8 r.reach, .bool r.stuck, .int .i64 r.plies] 27)).alloc (.cells #[.int .i64 p.w, .int .i64 p.h, .string p.cells, .int .i64 p.turn, .string p.h0, .string p.h1] 24)).alloc (.cells #[.bool true, .int .i64 m.f, .int .i64 m.t, .int .u8 (m.c : Int), .slice (some ⟨bk, ok, none⟩) 1 ck] 58)) = w0 := ⟨_, rfl⟩
  rw [hw0] at Hst ⊢
  clear hw0
  obtain ⟨x0, x1, x2, x3, x4, x5, x6, x7, x8, x9, x10, x11, x12⟩ := Hst.out.r.rules
  obtain ⟨p0, p1, p2, p3, p4, p5⟩ := Hst.out.p.pos6
  go_upto_region 2 with (go_at_call 13; refine (Hen.out _ Hst.out.later).mono ?_; rintro e w2 ⟨rfl, hw2⟩)
  have Hst2 := hide (Hst.out.later_ hw2)
  clear hw2 Hst x0 x1 x2 x3 x4 x5 x6 x7 x8 x9 x10 x11 x12 p0 p1 p2 p3 p4 p5
  obtain ⟨x0, x1, x2, x3, x4, x5, x6, x7, x8, x9, x10, x11, x12⟩ := Hst2.out.r.rules
  obtain ⟨p0, p1, p2, p3, p4, p5⟩ := Hst2.out.p.pos6
  obtain ⟨c0, c1, c2, c3, c4⟩ := Hst2.out.c.five
  go_upto_region 7 with (go_at_call 12; refine (Hmv.out _ Hst2.out.later).mono ?_; rintro e w5 ⟨A5, c5, rfl, -, hc5, -, hw5⟩; obtain ⟨q0, q1, q2, q3, q4, q5⟩ := (hw5.blk Hst2.out.p).pos6)
  have Hst5 := hide (Hst2.out.later_ hw5)
  have Hc5 := hide hc5
  clear hw5 hc5 Hst2 tz t3 q0 q1 q2 q3 q4 q5 x0 x1 x2 x3 x4 x5 x6 x7 x8 x9 x10 x11 x12 p0 p1 p2 p3 p4 p5 c0 c1 c2 c3 c4
  have Hin := hide (fun w (hw : Later w5 w) => in_any A5 c5 L m w (by omega) ((Hc5.out.below hw).more hw.size))
  have HS := hide (show ∀ w' : World, Later w5 w' → (w'.cell? ⟨W.heap.size, 0, none⟩ = some (.int .i64 r.start.w) ∧ w'.cell? ⟨W.heap.size, 1, none⟩ = some (.int .i64 r.start.h) ∧ w'.cell? ⟨W.heap.size, 2, none⟩ = some (.string r.start.cells) ∧ w'.cell? ⟨W.heap.size, 3, none⟩ = some (.int .i64 r.start.turn) ∧ w'.cell? ⟨W.heap.size, 4, none⟩ = some (.string r.start.h0) ∧ w'.cell? ⟨W.heap.size, 5, none⟩ = some (.string r.start.h1) ∧ w'.cell? ⟨W.heap.size, 6, none⟩ = some (.slice A r.pieces.length cp) ∧ w'.cell? ⟨W.heap.size, 7, none⟩ = some (.bool r.drops) ∧ w'.cell? ⟨W.heap.size, 8, none⟩ = some (.int .u8 r.lose) ∧ w'.cell? ⟨W.heap.size, 9, none⟩ = some (.int .i64 r.line) ∧ w'.cell? ⟨W.heap.size, 10, none⟩ = some (.int .u8 r.reach) ∧ w'.cell? ⟨W.heap.size, 11, none⟩ = some (.bool r.stuck) ∧ w'.cell? ⟨W.heap.size, 12, none⟩ = some (.int .i64 r.plies) ∧ w'.cell? ⟨W.heap.size + 1, 0, none⟩ = some (.int .i64 p.w) ∧ w'.cell? ⟨W.heap.size + 1, 1, none⟩ = some (.int .i64 p.h) ∧ w'.cell? ⟨W.heap.size + 1, 2, none⟩ = some (.string p.cells) ∧ w'.cell? ⟨W.heap.size + 1, 3, none⟩ = some (.int .i64 p.turn) ∧ w'.cell? ⟨W.heap.size + 1, 4, none⟩ = some (.string p.h0) ∧ w'.cell? ⟨W.heap.size + 1, 5, none⟩ = some (.string p.h1) ∧ w'.cell? ⟨W.heap.size + 1 + 1, 0, none⟩ = some (.bool true) ∧ w'.cell? ⟨W.heap.size + 1 + 1, 1, none⟩ = some (.int .i64 m.f) ∧ w'.cell? ⟨W.heap.size + 1 + 1, 2, none⟩ = some (.int .i64 m.t) ∧ w'.cell? ⟨W.heap.size + 1 + 1, 3, none⟩ = some (.int .u8 (m.c : Int)) ∧ w'.cell? ⟨W.heap.size + 1 + 1, 4, none⟩ = some (.slice (some ⟨bk, ok, none⟩) 1 ck) ∧ w'.cell? ⟨bk, ok, none⟩ = some (.bool kd.s) ∧ w'.cell? ⟨bk, ok + 1, none⟩ = some (.int .i64 kd.m.f) ∧ w'.cell? ⟨bk, ok + 2, none⟩ = some (.int .i64 kd.m.t) ∧ w'.cell? ⟨bk, ok + 3, none⟩ = some (.int .u8 (kd.m.c : Int)) ∧ w'.cell? ⟨bk, ok + 4, none⟩ = some (.slice Ad kd.kids.length cd)) from fun w' hw => by
      obtain ⟨x0, x1, x2, x3, x4, x5, x6, x7, x8, x9, x10, x11, x12⟩ := (hw.blk Hst5.out.r).rules
      obtain ⟨p0, p1, p2, p3, p4, p5⟩ := (hw.blk Hst5.out.p).pos6
      obtain ⟨c0, c1, c2, c3, c4⟩ := (hw.blk Hst5.out.c).five
      obtain ⟨k0, k1, k2, k3, k4⟩ := Hkid.out w' (Hst5.out.later.trans hw)
      exact ⟨x0, x1, x2, x3, x4, x5, x6, x7, x8, x9, x10, x11, x12, p0, p1, p2, p3, p4, p5, c0, c1, c2, c3, c4, k0, k1, k2, k3, k4⟩)
  by_cases hm : m ∈ L
  · obtain ⟨q, -, hqo, hq2, hmd⟩ := HY.out hm
    have HR := hide hq2
    have Hmd := hide hmd
    have Hih := hide (fun w hw => Hih0.out q hqo w hw)
    have hb := decide_eq_true hm
    simp only [hb] at Hin
    obtain ⟨v, hv⟩ : ∃ v, showsB r wn d q kd = v := ⟨_, rfl⟩
    rw [hv] at HR
    simp only [hv] at Hih
    clear hm hb hqo hq2 hmd hv HY HN
    refine wp_region_held_drew (S := fun w' : World => (w'.cell? ⟨W.heap.size, 0, none⟩ = some (.int .i64 r.start.w) ∧ w'.cell? ⟨W.heap.size, 1, none⟩ = some (.int .i64 r.start.h) ∧ w'.cell? ⟨W.heap.size, 2, none⟩ = some (.string r.start.cells) ∧ w'.cell? ⟨W.heap.size, 3, none⟩ = some (.int .i64 r.start.turn) ∧ w'.cell? ⟨W.heap.size, 4, none⟩ = some (.string r.start.h0) ∧ w'.cell? ⟨W.heap.size, 5, none⟩ = some (.string r.start.h1) ∧ w'.cell? ⟨W.heap.size, 6, none⟩ = some (.slice A r.pieces.length cp) ∧ w'.cell? ⟨W.heap.size, 7, none⟩ = some (.bool r.drops) ∧ w'.cell? ⟨W.heap.size, 8, none⟩ = some (.int .u8 r.lose) ∧ w'.cell? ⟨W.heap.size, 9, none⟩ = some (.int .i64 r.line) ∧ w'.cell? ⟨W.heap.size, 10, none⟩ = some (.int .u8 r.reach) ∧ w'.cell? ⟨W.heap.size, 11, none⟩ = some (.bool r.stuck) ∧ w'.cell? ⟨W.heap.size, 12, none⟩ = some (.int .i64 r.plies) ∧ w'.cell? ⟨W.heap.size + 1, 0, none⟩ = some (.int .i64 p.w) ∧ w'.cell? ⟨W.heap.size + 1, 1, none⟩ = some (.int .i64 p.h) ∧ w'.cell? ⟨W.heap.size + 1, 2, none⟩ = some (.string p.cells) ∧ w'.cell? ⟨W.heap.size + 1, 3, none⟩ = some (.int .i64 p.turn) ∧ w'.cell? ⟨W.heap.size + 1, 4, none⟩ = some (.string p.h0) ∧ w'.cell? ⟨W.heap.size + 1, 5, none⟩ = some (.string p.h1) ∧ w'.cell? ⟨W.heap.size + 1 + 1, 0, none⟩ = some (.bool true) ∧ w'.cell? ⟨W.heap.size + 1 + 1, 1, none⟩ = some (.int .i64 m.f) ∧ w'.cell? ⟨W.heap.size + 1 + 1, 2, none⟩ = some (.int .i64 m.t) ∧ w'.cell? ⟨W.heap.size + 1 + 1, 3, none⟩ = some (.int .u8 (m.c : Int)) ∧ w'.cell? ⟨W.heap.size + 1 + 1, 4, none⟩ = some (.slice (some ⟨bk, ok, none⟩) 1 ck) ∧ w'.cell? ⟨bk, ok, none⟩ = some (.bool kd.s) ∧ w'.cell? ⟨bk, ok + 1, none⟩ = some (.int .i64 kd.m.f) ∧ w'.cell? ⟨bk, ok + 2, none⟩ = some (.int .i64 kd.m.t) ∧ w'.cell? ⟨bk, ok + 3, none⟩ = some (.int .u8 (kd.m.c : Int)) ∧ w'.cell? ⟨bk, ok + 4, none⟩ = some (.slice Ad kd.kids.length cd))) (by kernel_rfl) (HS.out _ Later.rfl.drew) (fun hHeld => ?_)
    refine wpAnyH_take (i := 0) (oi := ⟨some 53, _, _, _, _, _⟩) (v := ?_) rfl (by kernel_rfl) (by kernel_rfl) (by kernel_rfl) (fun _ _ _ h => h) (Or.inl ⟨by rfl, ?_⟩) (by assumption) ?_
    rotate_left 1
    · intro w hSw
      try dsimp only at hSw
      go_simp <;> with_reducible rfl
    try simp only [Act.put, List.setIfInBounds_toArray, List.set_cons_zero, List.set_cons_succ]
    refine wpAnyH_take (i := 1) (oi := ⟨some 54, _, _, _, _, _⟩) (v := ?_) rfl (by kernel_rfl) (by kernel_rfl) (by kernel_rfl) (fun _ _ _ h => h) (Or.inl ⟨by rfl, ?_⟩) (by assumption) ?_
    rotate_left 1
    · intro w hSw
      try dsimp only at hSw
      go_simp <;> with_reducible rfl
    try simp only [Act.put, List.setIfInBounds_toArray, List.set_cons_zero, List.set_cons_succ]
    refine wpAnyH_take (i := 2) (oi := ⟨some 55, _, _, _, _, _⟩) (v := ?_) rfl (by kernel_rfl) (by kernel_rfl) (by kernel_rfl) (fun _ _ _ h => h) (Or.inl ⟨by rfl, ?_⟩) (by assumption) ?_
    rotate_left 1
    · intro w hSw
      try dsimp only at hSw
      go_simp <;> with_reducible rfl
    try simp only [Act.put, List.setIfInBounds_toArray, List.set_cons_zero, List.set_cons_succ]
    refine wpAnyH_take (i := 3) (oi := ⟨some 56, _, _, _, _, _⟩) (v := ?_) rfl (by kernel_rfl) (by kernel_rfl) (by kernel_rfl) (fun _ _ _ h => h) (Or.inl ⟨by rfl, ?_⟩) (by assumption) ?_
    rotate_left 1
    · intro w hSw
      try dsimp only at hSw
      go_simp <;> with_reducible rfl
    try simp only [Act.put, List.setIfInBounds_toArray, List.set_cons_zero, List.set_cons_succ]
    refine wpAnyH_take (i := 4) (oi := ⟨some 57, _, _, _, _, _⟩) (v := ?_) rfl (by kernel_rfl) (by kernel_rfl) (by kernel_rfl) (fun _ _ _ h => h) (Or.inl ⟨by rfl, ?_⟩) (by assumption) ?_
    rotate_left 1
    · intro w hSw
      try dsimp only at hSw
      go_simp <;> with_reducible rfl
    try simp only [Act.put, List.setIfInBounds_toArray, List.set_cons_zero, List.set_cons_succ]
    refine wpAnyH_take (i := 5) (oi := ⟨some 58, _, _, _, _, _⟩) (v := ?_) rfl (by kernel_rfl) (by kernel_rfl) (by kernel_rfl) (fun _ _ _ h => h) (Or.inl ⟨by rfl, ?_⟩) (by assumption) ?_
    rotate_left 1
    · intro w hSw
      try dsimp only at hSw
      go_simp <;> with_reducible rfl
    try simp only [Act.put, List.setIfInBounds_toArray, List.set_cons_zero, List.set_cons_succ]
    refine wpAnyH_take (i := 6) (oi := ⟨some 59, _, _, _, _, _⟩) (v := ?_) rfl (by kernel_rfl) (by kernel_rfl) (by kernel_rfl) (fun _ _ _ h => h) (Or.inl ⟨by rfl, ?_⟩) (by assumption) ?_
    rotate_left 1
    · intro w hSw
      try dsimp only at hSw
      go_simp <;> with_reducible rfl
    try simp only [Act.put, List.setIfInBounds_toArray, List.set_cons_zero, List.set_cons_succ]
    refine wpAnyH_take (i := 7) (oi := ⟨some 60, _, _, _, _, _⟩) (v := ?_) rfl (by kernel_rfl) (by kernel_rfl) (by kernel_rfl) (fun _ _ _ h => h) (Or.inl ⟨by rfl, ?_⟩) (by assumption) ?_
    rotate_left 1
    · intro w hSw
      try dsimp only at hSw
      go_simp <;> with_reducible rfl
    try simp only [Act.put, List.setIfInBounds_toArray, List.set_cons_zero, List.set_cons_succ]
    refine wpAnyH_take (i := 8) (oi := ⟨some 61, _, _, _, _, _⟩) (v := ?_) rfl (by kernel_rfl) (by kernel_rfl) (by kernel_rfl) (fun _ _ _ h => h) (Or.inl ⟨by rfl, ?_⟩) (by assumption) ?_
    rotate_left 1
    · intro w hSw
      try dsimp only at hSw
      go_simp <;> with_reducible rfl
    try simp only [Act.put, List.setIfInBounds_toArray, List.set_cons_zero, List.set_cons_succ]
    refine wpAnyH_take (i := 9) (oi := ⟨some 62, _, _, _, _, _⟩) (v := ?_) rfl (by kernel_rfl) (by kernel_rfl) (by kernel_rfl) (fun _ _ _ h => h) (Or.inl ⟨by rfl, ?_⟩) (by assumption) ?_
    rotate_left 1
    · intro w hSw
      try dsimp only at hSw
      go_simp <;> with_reducible rfl
    try simp only [Act.put, List.setIfInBounds_toArray, List.set_cons_zero, List.set_cons_succ]
    refine wpAnyH_take (i := 10) (oi := ⟨some 63, _, _, _, _, _⟩) (v := ?_) rfl (by kernel_rfl) (by kernel_rfl) (by kernel_rfl) (fun _ _ _ h => h) (Or.inl ⟨by rfl, ?_⟩) (by assumption) ?_
    rotate_left 1
    · intro w hSw
      try dsimp only at hSw
      go_simp <;> with_reducible rfl
    try simp only [Act.put, List.setIfInBounds_toArray, List.set_cons_zero, List.set_cons_succ]
    refine wpAnyH_take (i := 11) (oi := ⟨some 64, _, _, _, _, _⟩) (v := ?_) rfl (by kernel_rfl) (by kernel_rfl) (by kernel_rfl) (fun _ _ _ h => h) (Or.inl ⟨by rfl, ?_⟩) (by assumption) ?_
    rotate_left 1
    · intro w hSw
      try dsimp only at hSw
      go_simp <;> with_reducible rfl
    try simp only [Act.put, List.setIfInBounds_toArray, List.set_cons_zero, List.set_cons_succ]
    refine wpAnyH_ready (rs := [12]) (by kernel_rfl) (by simp) ?_
    refine AllReadyH.cons (o := ⟨some 65, _, _, _, _, _⟩) rfl (fun K hK => ?_) ?_
    · clear hHeld
      go_simp
      go_at_call 15
      refine (Hin.out _ (by repeat (first | exact Later.rfl | refine Later.drew ?_))).mono ?_
      rintro e wq ⟨rfl, hwx⟩
      have hwq : Later w5 wq := Later.trans (by repeat (first | exact Later.rfl | refine Later.drew ?_)) hwx
      try go_wp2_with fail
      refine hK.out _ _ (by refine HS.out _ ?_; repeat (first | exact Later.rfl | exact hwq | refine Later.drew ?_)) (fun hHeld => ?_)
      clear hK K
      try simp only [Act.put, List.setIfInBounds_toArray, List.set_cons_zero, List.set_cons_succ]
      refine wpAnyH_take (i := 13) (oi := ⟨some 66, _, _, _, _, _⟩) (v := ?_) rfl (by kernel_rfl) (by kernel_rfl) (by kernel_rfl) (fun _ _ _ h => h) (Or.inl ⟨by rfl, ?_⟩) (by assumption) ?_
      rotate_left 1
      · intro w hSw
        try dsimp only at hSw
        go_simp <;> with_reducible rfl
      try simp only [Act.put, List.setIfInBounds_toArray, List.set_cons_zero, List.set_cons_succ]
      refine wpAnyH_take (i := 14) (oi := ⟨some 67, _, _, _, _, _⟩) (v := ?_) rfl (by kernel_rfl) (by kernel_rfl) (by kernel_rfl) (fun _ _ _ h => h) (Or.inl ⟨by rfl, ?_⟩) (by assumption) ?_
      rotate_left 1
      · intro w hSw
        try dsimp only at hSw
        go_simp <;> with_reducible rfl
      try simp only [Act.put, List.setIfInBounds_toArray, List.set_cons_zero, List.set_cons_succ]
      refine wpAnyH_take (i := 15) (oi := ⟨some 68, _, _, _, _, _⟩) (v := ?_) rfl (by kernel_rfl) (by kernel_rfl) (by kernel_rfl) (fun _ _ _ h => h) (Or.inl ⟨by rfl, ?_⟩) (by assumption) ?_
      rotate_left 1
      · intro w hSw
        try dsimp only at hSw
        go_simp <;> with_reducible rfl
      try simp only [Act.put, List.setIfInBounds_toArray, List.set_cons_zero, List.set_cons_succ]
      refine wpAnyH_take (i := 16) (oi := ⟨some 69, _, _, _, _, _⟩) (v := ?_) rfl (by kernel_rfl) (by kernel_rfl) (by kernel_rfl) (fun _ _ _ h => h) (Or.inl ⟨by rfl, ?_⟩) (by assumption) ?_
      rotate_left 1
      · intro w hSw
        try dsimp only at hSw
        go_simp <;> with_reducible rfl
      try simp only [Act.put, List.setIfInBounds_toArray, List.set_cons_zero, List.set_cons_succ]
      refine wpAnyH_take (i := 17) (oi := ⟨some 70, _, _, _, _, _⟩) (v := ?_) rfl (by kernel_rfl) (by kernel_rfl) (by kernel_rfl) (fun _ _ _ h => h) (Or.inl ⟨by rfl, ?_⟩) (by assumption) ?_
      rotate_left 1
      · intro w hSw
        try dsimp only at hSw
        go_simp <;> with_reducible rfl
      try simp only [Act.put, List.setIfInBounds_toArray, List.set_cons_zero, List.set_cons_succ]
      refine wpAnyH_take (i := 18) (oi := ⟨some 71, _, _, _, _, _⟩) (v := ?_) rfl (by kernel_rfl) (by kernel_rfl) (by kernel_rfl) (fun _ _ _ h => h) (Or.inl ⟨by rfl, ?_⟩) (by assumption) ?_
      rotate_left 1
      · intro w hSw
        try dsimp only at hSw
        go_simp <;> with_reducible rfl
      try simp only [Act.put, List.setIfInBounds_toArray, List.set_cons_zero, List.set_cons_succ]
      refine wpAnyH_take (i := 19) (oi := ⟨some 72, _, _, _, _, _⟩) (v := ?_) rfl (by kernel_rfl) (by kernel_rfl) (by kernel_rfl) (fun _ _ _ h => h) (Or.inl ⟨by rfl, ?_⟩) (by assumption) ?_
      rotate_left 1
      · intro w hSw
        try dsimp only at hSw
        go_simp <;> with_reducible rfl
      try simp only [Act.put, List.setIfInBounds_toArray, List.set_cons_zero, List.set_cons_succ]
      refine wpAnyH_take (i := 21) (oi := ⟨some 74, _, _, _, _, _⟩) (v := ?_) rfl (by kernel_rfl) (by kernel_rfl) (by kernel_rfl) (fun _ _ _ h => h) (Or.inl ⟨by rfl, ?_⟩) (by assumption) ?_
      rotate_left 1
      · intro w hSw
        try dsimp only at hSw
        go_simp <;> with_reducible rfl
      try simp only [Act.put, List.setIfInBounds_toArray, List.set_cons_zero, List.set_cons_succ]
      refine wpAnyH_take (i := 22) (oi := ⟨some 75, _, _, _, _, _⟩) (v := ?_) rfl (by kernel_rfl) (by kernel_rfl) (by kernel_rfl) (fun _ _ _ h => h) (Or.inl ⟨by rfl, ?_⟩) (by assumption) ?_
      rotate_left 1
      · intro w hSw
        try dsimp only at hSw
        go_simp <;> with_reducible rfl
      try simp only [Act.put, List.setIfInBounds_toArray, List.set_cons_zero, List.set_cons_succ]
      refine wpAnyH_take (i := 23) (oi := ⟨some 76, _, _, _, _, _⟩) (v := ?_) rfl (by kernel_rfl) (by kernel_rfl) (by kernel_rfl) (fun _ _ _ h => h) (Or.inl ⟨by rfl, ?_⟩) (by assumption) ?_
      rotate_left 1
      · intro w hSw
        try dsimp only at hSw
        go_simp <;> with_reducible rfl
      try simp only [Act.put, List.setIfInBounds_toArray, List.set_cons_zero, List.set_cons_succ]
      refine wpAnyH_take (i := 24) (oi := ⟨some 77, _, _, _, _, _⟩) (v := ?_) rfl (by kernel_rfl) (by kernel_rfl) (by kernel_rfl) (fun _ _ _ h => h) (Or.inl ⟨by rfl, ?_⟩) (by assumption) ?_
      rotate_left 1
      · intro w hSw
        try dsimp only at hSw
        go_simp <;> with_reducible rfl
      try simp only [Act.put, List.setIfInBounds_toArray, List.set_cons_zero, List.set_cons_succ]
      refine wpAnyH_take (i := 25) (oi := ⟨some 78, _, _, _, _, _⟩) (v := ?_) rfl (by kernel_rfl) (by kernel_rfl) (by kernel_rfl) (fun _ _ _ h => h) (Or.inl ⟨by rfl, ?_⟩) (by assumption) ?_
      rotate_left 1
      · intro w hSw
        try dsimp only at hSw
        go_simp <;> with_reducible rfl
      try simp only [Act.put, List.setIfInBounds_toArray, List.set_cons_zero, List.set_cons_succ]
      refine wpAnyH_take (i := 26) (oi := ⟨some 79, _, _, _, _, _⟩) (v := ?_) rfl (by kernel_rfl) (by kernel_rfl) (by kernel_rfl) (fun _ _ _ h => h) (Or.inl ⟨by rfl, ?_⟩) (by assumption) ?_
      rotate_left 1
      · intro w hSw
        try dsimp only at hSw
        go_simp <;> with_reducible rfl
      try simp only [Act.put, List.setIfInBounds_toArray, List.set_cons_zero, List.set_cons_succ]
      refine wpAnyH_take (i := 27) (oi := ⟨some 80, _, _, _, _, _⟩) (v := ?_) rfl (by kernel_rfl) (by kernel_rfl) (by kernel_rfl) (fun _ _ _ h => h) (Or.inl ⟨by rfl, ?_⟩) (by assumption) ?_
      rotate_left 1
      · intro w hSw
        try dsimp only at hSw
        go_simp <;> with_reducible rfl
      try simp only [Act.put, List.setIfInBounds_toArray, List.set_cons_zero, List.set_cons_succ]
      refine wpAnyH_ready (rs := [20]) (by kernel_rfl) (by simp) ?_
      refine AllReadyH.cons (o := ⟨some 73, _, _, _, _, _⟩) rfl (fun K hK => ?_) ?_
      · clear hHeld
        go_simp
        go_at_call 16
        refine (Hmd.out _).mono ?_
        rintro e wm ⟨rfl, hwx⟩
        have hwq : Later w5 wm := Later.trans hwq hwx
        try go_wp2_with fail
        refine hK.out _ _ (by refine HS.out _ ?_; repeat (first | exact Later.rfl | exact hwq | refine Later.drew ?_)) (fun hHeld => ?_)
        clear hK K
        try simp only [Act.put, List.setIfInBounds_toArray, List.set_cons_zero, List.set_cons_succ]
        refine wpAnyH_ready (rs := [28]) (by kernel_rfl) (by simp) ?_
        refine AllReadyH.cons (o := ⟨some 81, _, _, _, _, _⟩) rfl (fun K hK => ?_) ?_
        · clear hHeld
          go_simp
          go_at_call 23
          refine (Hih.out _ (Hst5.out.later.trans hwq)).mono ?_
          rintro e wt ⟨rfl, hwx⟩
          have hwq : Later w5 wt := Later.trans hwq hwx
          try go_wp2_with fail
          refine hK.out _ _ (by refine HS.out _ ?_; repeat (first | exact Later.rfl | exact hwq | refine Later.drew ?_)) (fun hHeld => ?_)
          clear hK K
          try simp only [Act.put, List.setIfInBounds_toArray, List.set_cons_zero, List.set_cons_succ]
          refine wpAnyH_take (i := 29) (oi := ⟨some 82, _, _, _, _, _⟩) (v := ?_) rfl (by kernel_rfl) (by kernel_rfl) (by kernel_rfl) (fun _ _ _ h => h) (Or.inl ⟨by rfl, ?_⟩) (by assumption) ?_
          rotate_left 1
          · intro w hSw
            try dsimp only at hSw
            go_simp <;> with_reducible rfl
          try simp only [Act.put, List.setIfInBounds_toArray, List.set_cons_zero, List.set_cons_succ]
          refine wpAnyH_take (i := 30) (oi := ⟨some 10, _, _, _, _, _⟩) (v := ?_) rfl (by kernel_rfl) (by kernel_rfl) (by kernel_rfl) (fun _ _ _ h => h) (Or.inl ⟨by rfl, ?_⟩) (by assumption) ?_
          rotate_left 1
          · intro w hSw
            try dsimp only at hSw
            go_simp <;> with_reducible rfl
          try simp only [Act.put, List.setIfInBounds_toArray, List.set_cons_zero, List.set_cons_succ]
          refine wpAnyH_done (by kernel_rfl) ?_ _
          cases v <;> (go_wp2_with fail; go_ret; exact ⟨by rw [HR.out] <;> rfl, Hst5.out.later.trans (by repeat (first | exact Later.rfl | exact hwq | refine Later.drew ?_))⟩)
        exact AllReadyH.nil
      exact AllReadyH.nil
    exact AllReadyH.nil
  · have HR := hide (HN.out hm)
    have hb := decide_eq_false hm
    simp only [hb] at Hin
    clear hm hb HY HN
    refine wp_region_held_drew (S := fun w' : World => (w'.cell? ⟨W.heap.size, 0, none⟩ = some (.int .i64 r.start.w) ∧ w'.cell? ⟨W.heap.size, 1, none⟩ = some (.int .i64 r.start.h) ∧ w'.cell? ⟨W.heap.size, 2, none⟩ = some (.string r.start.cells) ∧ w'.cell? ⟨W.heap.size, 3, none⟩ = some (.int .i64 r.start.turn) ∧ w'.cell? ⟨W.heap.size, 4, none⟩ = some (.string r.start.h0) ∧ w'.cell? ⟨W.heap.size, 5, none⟩ = some (.string r.start.h1) ∧ w'.cell? ⟨W.heap.size, 6, none⟩ = some (.slice A r.pieces.length cp) ∧ w'.cell? ⟨W.heap.size, 7, none⟩ = some (.bool r.drops) ∧ w'.cell? ⟨W.heap.size, 8, none⟩ = some (.int .u8 r.lose) ∧ w'.cell? ⟨W.heap.size, 9, none⟩ = some (.int .i64 r.line) ∧ w'.cell? ⟨W.heap.size, 10, none⟩ = some (.int .u8 r.reach) ∧ w'.cell? ⟨W.heap.size, 11, none⟩ = some (.bool r.stuck) ∧ w'.cell? ⟨W.heap.size, 12, none⟩ = some (.int .i64 r.plies) ∧ w'.cell? ⟨W.heap.size + 1, 0, none⟩ = some (.int .i64 p.w) ∧ w'.cell? ⟨W.heap.size + 1, 1, none⟩ = some (.int .i64 p.h) ∧ w'.cell? ⟨W.heap.size + 1, 2, none⟩ = some (.string p.cells) ∧ w'.cell? ⟨W.heap.size + 1, 3, none⟩ = some (.int .i64 p.turn) ∧ w'.cell? ⟨W.heap.size + 1, 4, none⟩ = some (.string p.h0) ∧ w'.cell? ⟨W.heap.size + 1, 5, none⟩ = some (.string p.h1) ∧ w'.cell? ⟨W.heap.size + 1 + 1, 0, none⟩ = some (.bool true) ∧ w'.cell? ⟨W.heap.size + 1 + 1, 1, none⟩ = some (.int .i64 m.f) ∧ w'.cell? ⟨W.heap.size + 1 + 1, 2, none⟩ = some (.int .i64 m.t) ∧ w'.cell? ⟨W.heap.size + 1 + 1, 3, none⟩ = some (.int .u8 (m.c : Int)) ∧ w'.cell? ⟨W.heap.size + 1 + 1, 4, none⟩ = some (.slice (some ⟨bk, ok, none⟩) 1 ck) ∧ w'.cell? ⟨bk, ok, none⟩ = some (.bool kd.s) ∧ w'.cell? ⟨bk, ok + 1, none⟩ = some (.int .i64 kd.m.f) ∧ w'.cell? ⟨bk, ok + 2, none⟩ = some (.int .i64 kd.m.t) ∧ w'.cell? ⟨bk, ok + 3, none⟩ = some (.int .u8 (kd.m.c : Int)) ∧ w'.cell? ⟨bk, ok + 4, none⟩ = some (.slice Ad kd.kids.length cd))) (by kernel_rfl) (HS.out _ Later.rfl.drew) (fun hHeld => ?_)
    refine wpAnyH_take (i := 0) (oi := ⟨some 53, _, _, _, _, _⟩) (v := ?_) rfl (by kernel_rfl) (by kernel_rfl) (by kernel_rfl) (fun _ _ _ h => h) (Or.inl ⟨by rfl, ?_⟩) (by assumption) ?_
    rotate_left 1
    · intro w hSw
      try dsimp only at hSw
      go_simp <;> with_reducible rfl
    try simp only [Act.put, List.setIfInBounds_toArray, List.set_cons_zero, List.set_cons_succ]
    refine wpAnyH_take (i := 1) (oi := ⟨some 54, _, _, _, _, _⟩) (v := ?_) rfl (by kernel_rfl) (by kernel_rfl) (by kernel_rfl) (fun _ _ _ h => h) (Or.inl ⟨by rfl, ?_⟩) (by assumption) ?_
    rotate_left 1
    · intro w hSw
      try dsimp only at hSw
      go_simp <;> with_reducible rfl
    try simp only [Act.put, List.setIfInBounds_toArray, List.set_cons_zero, List.set_cons_succ]
    refine wpAnyH_take (i := 2) (oi := ⟨some 55, _, _, _, _, _⟩) (v := ?_) rfl (by kernel_rfl) (by kernel_rfl) (by kernel_rfl) (fun _ _ _ h => h) (Or.inl ⟨by rfl, ?_⟩) (by assumption) ?_
    rotate_left 1
    · intro w hSw
      try dsimp only at hSw
      go_simp <;> with_reducible rfl
    try simp only [Act.put, List.setIfInBounds_toArray, List.set_cons_zero, List.set_cons_succ]
    refine wpAnyH_take (i := 3) (oi := ⟨some 56, _, _, _, _, _⟩) (v := ?_) rfl (by kernel_rfl) (by kernel_rfl) (by kernel_rfl) (fun _ _ _ h => h) (Or.inl ⟨by rfl, ?_⟩) (by assumption) ?_
    rotate_left 1
    · intro w hSw
      try dsimp only at hSw
      go_simp <;> with_reducible rfl
    try simp only [Act.put, List.setIfInBounds_toArray, List.set_cons_zero, List.set_cons_succ]
    refine wpAnyH_take (i := 4) (oi := ⟨some 57, _, _, _, _, _⟩) (v := ?_) rfl (by kernel_rfl) (by kernel_rfl) (by kernel_rfl) (fun _ _ _ h => h) (Or.inl ⟨by rfl, ?_⟩) (by assumption) ?_
    rotate_left 1
    · intro w hSw
      try dsimp only at hSw
      go_simp <;> with_reducible rfl
    try simp only [Act.put, List.setIfInBounds_toArray, List.set_cons_zero, List.set_cons_succ]
    refine wpAnyH_take (i := 5) (oi := ⟨some 58, _, _, _, _, _⟩) (v := ?_) rfl (by kernel_rfl) (by kernel_rfl) (by kernel_rfl) (fun _ _ _ h => h) (Or.inl ⟨by rfl, ?_⟩) (by assumption) ?_
    rotate_left 1
    · intro w hSw
      try dsimp only at hSw
      go_simp <;> with_reducible rfl
    try simp only [Act.put, List.setIfInBounds_toArray, List.set_cons_zero, List.set_cons_succ]
    refine wpAnyH_take (i := 6) (oi := ⟨some 59, _, _, _, _, _⟩) (v := ?_) rfl (by kernel_rfl) (by kernel_rfl) (by kernel_rfl) (fun _ _ _ h => h) (Or.inl ⟨by rfl, ?_⟩) (by assumption) ?_
    rotate_left 1
    · intro w hSw
      try dsimp only at hSw
      go_simp <;> with_reducible rfl
    try simp only [Act.put, List.setIfInBounds_toArray, List.set_cons_zero, List.set_cons_succ]
    refine wpAnyH_take (i := 7) (oi := ⟨some 60, _, _, _, _, _⟩) (v := ?_) rfl (by kernel_rfl) (by kernel_rfl) (by kernel_rfl) (fun _ _ _ h => h) (Or.inl ⟨by rfl, ?_⟩) (by assumption) ?_
    rotate_left 1
    · intro w hSw
      try dsimp only at hSw
      go_simp <;> with_reducible rfl
    try simp only [Act.put, List.setIfInBounds_toArray, List.set_cons_zero, List.set_cons_succ]
    refine wpAnyH_take (i := 8) (oi := ⟨some 61, _, _, _, _, _⟩) (v := ?_) rfl (by kernel_rfl) (by kernel_rfl) (by kernel_rfl) (fun _ _ _ h => h) (Or.inl ⟨by rfl, ?_⟩) (by assumption) ?_
    rotate_left 1
    · intro w hSw
      try dsimp only at hSw
      go_simp <;> with_reducible rfl
    try simp only [Act.put, List.setIfInBounds_toArray, List.set_cons_zero, List.set_cons_succ]
    refine wpAnyH_take (i := 9) (oi := ⟨some 62, _, _, _, _, _⟩) (v := ?_) rfl (by kernel_rfl) (by kernel_rfl) (by kernel_rfl) (fun _ _ _ h => h) (Or.inl ⟨by rfl, ?_⟩) (by assumption) ?_
    rotate_left 1
    · intro w hSw
      try dsimp only at hSw
      go_simp <;> with_reducible rfl
    try simp only [Act.put, List.setIfInBounds_toArray, List.set_cons_zero, List.set_cons_succ]
    refine wpAnyH_take (i := 10) (oi := ⟨some 63, _, _, _, _, _⟩) (v := ?_) rfl (by kernel_rfl) (by kernel_rfl) (by kernel_rfl) (fun _ _ _ h => h) (Or.inl ⟨by rfl, ?_⟩) (by assumption) ?_
    rotate_left 1
    · intro w hSw
      try dsimp only at hSw
      go_simp <;> with_reducible rfl
    try simp only [Act.put, List.setIfInBounds_toArray, List.set_cons_zero, List.set_cons_succ]
    refine wpAnyH_take (i := 11) (oi := ⟨some 64, _, _, _, _, _⟩) (v := ?_) rfl (by kernel_rfl) (by kernel_rfl) (by kernel_rfl) (fun _ _ _ h => h) (Or.inl ⟨by rfl, ?_⟩) (by assumption) ?_
    rotate_left 1
    · intro w hSw
      try dsimp only at hSw
      go_simp <;> with_reducible rfl
    try simp only [Act.put, List.setIfInBounds_toArray, List.set_cons_zero, List.set_cons_succ]
    refine wpAnyH_ready (rs := [12]) (by kernel_rfl) (by simp) ?_
    refine AllReadyH.cons (o := ⟨some 65, _, _, _, _, _⟩) rfl (fun K hK => ?_) ?_
    · clear hHeld
      go_simp
      go_at_call 15
      refine (Hin.out _ (by repeat (first | exact Later.rfl | refine Later.drew ?_))).mono ?_
      rintro e wq ⟨rfl, hwx⟩
      have hwq : Later w5 wq := Later.trans (by repeat (first | exact Later.rfl | refine Later.drew ?_)) hwx
      try go_wp2_with fail
      refine hK.out _ _ (by refine HS.out _ ?_; repeat (first | exact Later.rfl | exact hwq | refine Later.drew ?_)) (fun hHeld => ?_)
      clear hK K
      try simp only [Act.put, List.setIfInBounds_toArray, List.set_cons_zero, List.set_cons_succ]
      refine wpAnyH_take (i := 13) (oi := ⟨some 66, _, _, _, _, _⟩) (v := ?_) rfl (by kernel_rfl) (by kernel_rfl) (by kernel_rfl) (fun _ _ _ h => h) (Or.inl ⟨by rfl, ?_⟩) (by assumption) ?_
      rotate_left 1
      · intro w hSw
        try dsimp only at hSw
        go_simp <;> with_reducible rfl
      try simp only [Act.put, List.setIfInBounds_toArray, List.set_cons_zero, List.set_cons_succ]
      refine wpAnyH_take (i := 14) (oi := ⟨some 67, _, _, _, _, _⟩) (v := ?_) rfl (by kernel_rfl) (by kernel_rfl) (by kernel_rfl) (fun _ _ _ h => h) (Or.inl ⟨by rfl, ?_⟩) (by assumption) ?_
      rotate_left 1
      · intro w hSw
        try dsimp only at hSw
        go_simp <;> with_reducible rfl
      try simp only [Act.put, List.setIfInBounds_toArray, List.set_cons_zero, List.set_cons_succ]
      refine wpAnyH_take (i := 15) (oi := ⟨some 68, _, _, _, _, _⟩) (v := undef) rfl (by kernel_rfl) (by kernel_rfl) (by kernel_rfl) (fun _ _ _ h => h) (Or.inr ⟨by rfl, rfl⟩) (by assumption) ?_
      try simp only [Act.put, List.setIfInBounds_toArray, List.set_cons_zero, List.set_cons_succ]
      refine wpAnyH_take (i := 16) (oi := ⟨some 69, _, _, _, _, _⟩) (v := undef) rfl (by kernel_rfl) (by kernel_rfl) (by kernel_rfl) (fun _ _ _ h => h) (Or.inr ⟨by rfl, rfl⟩) (by assumption) ?_
      try simp only [Act.put, List.setIfInBounds_toArray, List.set_cons_zero, List.set_cons_succ]
      refine wpAnyH_take (i := 17) (oi := ⟨some 70, _, _, _, _, _⟩) (v := undef) rfl (by kernel_rfl) (by kernel_rfl) (by kernel_rfl) (fun _ _ _ h => h) (Or.inr ⟨by rfl, rfl⟩) (by assumption) ?_
      try simp only [Act.put, List.setIfInBounds_toArray, List.set_cons_zero, List.set_cons_succ]
      refine wpAnyH_take (i := 18) (oi := ⟨some 71, _, _, _, _, _⟩) (v := undef) rfl (by kernel_rfl) (by kernel_rfl) (by kernel_rfl) (fun _ _ _ h => h) (Or.inr ⟨by rfl, rfl⟩) (by assumption) ?_
      try simp only [Act.put, List.setIfInBounds_toArray, List.set_cons_zero, List.set_cons_succ]
      refine wpAnyH_take (i := 19) (oi := ⟨some 72, _, _, _, _, _⟩) (v := undef) rfl (by kernel_rfl) (by kernel_rfl) (by kernel_rfl) (fun _ _ _ h => h) (Or.inr ⟨by rfl, rfl⟩) (by assumption) ?_
      try simp only [Act.put, List.setIfInBounds_toArray, List.set_cons_zero, List.set_cons_succ]
      refine wpAnyH_take (i := 20) (oi := ⟨some 73, _, _, _, _, _⟩) (v := undef) rfl (by kernel_rfl) (by kernel_rfl) (by kernel_rfl) (fun _ _ _ h => h) (Or.inr ⟨by rfl, rfl⟩) (by assumption) ?_
      try simp only [Act.put, List.setIfInBounds_toArray, List.set_cons_zero, List.set_cons_succ]
      refine wpAnyH_take (i := 21) (oi := ⟨some 74, _, _, _, _, _⟩) (v := undef) rfl (by kernel_rfl) (by kernel_rfl) (by kernel_rfl) (fun _ _ _ h => h) (Or.inr ⟨by rfl, rfl⟩) (by assumption) ?_
      try simp only [Act.put, List.setIfInBounds_toArray, List.set_cons_zero, List.set_cons_succ]
      refine wpAnyH_take (i := 22) (oi := ⟨some 75, _, _, _, _, _⟩) (v := undef) rfl (by kernel_rfl) (by kernel_rfl) (by kernel_rfl) (fun _ _ _ h => h) (Or.inr ⟨by rfl, rfl⟩) (by assumption) ?_
      try simp only [Act.put, List.setIfInBounds_toArray, List.set_cons_zero, List.set_cons_succ]
      refine wpAnyH_take (i := 23) (oi := ⟨some 76, _, _, _, _, _⟩) (v := undef) rfl (by kernel_rfl) (by kernel_rfl) (by kernel_rfl) (fun _ _ _ h => h) (Or.inr ⟨by rfl, rfl⟩) (by assumption) ?_
      try simp only [Act.put, List.setIfInBounds_toArray, List.set_cons_zero, List.set_cons_succ]
      refine wpAnyH_take (i := 24) (oi := ⟨some 77, _, _, _, _, _⟩) (v := undef) rfl (by kernel_rfl) (by kernel_rfl) (by kernel_rfl) (fun _ _ _ h => h) (Or.inr ⟨by rfl, rfl⟩) (by assumption) ?_
      try simp only [Act.put, List.setIfInBounds_toArray, List.set_cons_zero, List.set_cons_succ]
      refine wpAnyH_take (i := 25) (oi := ⟨some 78, _, _, _, _, _⟩) (v := undef) rfl (by kernel_rfl) (by kernel_rfl) (by kernel_rfl) (fun _ _ _ h => h) (Or.inr ⟨by rfl, rfl⟩) (by assumption) ?_
      try simp only [Act.put, List.setIfInBounds_toArray, List.set_cons_zero, List.set_cons_succ]
      refine wpAnyH_take (i := 26) (oi := ⟨some 79, _, _, _, _, _⟩) (v := undef) rfl (by kernel_rfl) (by kernel_rfl) (by kernel_rfl) (fun _ _ _ h => h) (Or.inr ⟨by rfl, rfl⟩) (by assumption) ?_
      try simp only [Act.put, List.setIfInBounds_toArray, List.set_cons_zero, List.set_cons_succ]
      refine wpAnyH_take (i := 27) (oi := ⟨some 80, _, _, _, _, _⟩) (v := undef) rfl (by kernel_rfl) (by kernel_rfl) (by kernel_rfl) (fun _ _ _ h => h) (Or.inr ⟨by rfl, rfl⟩) (by assumption) ?_
      try simp only [Act.put, List.setIfInBounds_toArray, List.set_cons_zero, List.set_cons_succ]
      refine wpAnyH_take (i := 28) (oi := ⟨some 81, _, _, _, _, _⟩) (v := undef) rfl (by kernel_rfl) (by kernel_rfl) (by kernel_rfl) (fun _ _ _ h => h) (Or.inr ⟨by rfl, rfl⟩) (by assumption) ?_
      try simp only [Act.put, List.setIfInBounds_toArray, List.set_cons_zero, List.set_cons_succ]
      refine wpAnyH_take (i := 29) (oi := ⟨some 82, _, _, _, _, _⟩) (v := ?_) rfl (by kernel_rfl) (by kernel_rfl) (by kernel_rfl) (fun _ _ _ h => h) (Or.inl ⟨by rfl, ?_⟩) (by assumption) ?_
      rotate_left 1
      · intro w hSw
        try dsimp only at hSw
        go_simp <;> with_reducible rfl
      try simp only [Act.put, List.setIfInBounds_toArray, List.set_cons_zero, List.set_cons_succ]
      refine wpAnyH_take (i := 30) (oi := ⟨some 10, _, _, _, _, _⟩) (v := ?_) rfl (by kernel_rfl) (by kernel_rfl) (by kernel_rfl) (fun _ _ _ h => h) (Or.inl ⟨by rfl, ?_⟩) (by assumption) ?_
      rotate_left 1
      · intro w hSw
        try dsimp only at hSw
        go_simp <;> with_reducible rfl
      try simp only [Act.put, List.setIfInBounds_toArray, List.set_cons_zero, List.set_cons_succ]
      refine wpAnyH_done (by kernel_rfl) ?_ _
      go_wp2_with fail
      go_ret
      exact ⟨by rw [HR.out] <;> rfl, Hst5.out.later.trans (by repeat (first | exact Later.rfl | exact hwq | refine Later.drew ?_))⟩
    exact AllReadyH.nil
end Go.Proofs.YtdfegpohmaideaaGreat
/- gameref.Shows where the other one moves, walked -/
namespace Go.Proofs.YtdfegpohmaideaaGreat
open Go.RowKit

set_option maxHeartbeats 16000000 in
set_option maxRecDepth 100000 in
theorem shows_other (r : RulesD) (A : Option Addr) (cp : Nat) (wn : Int) (d : Nat) (hd : d < 9) (p : Pos) (s : Bool) (m : Mv) (ks : List CertD) (Ak : Option Addr) (ck : Nat) (W : World) (R : Bool) (L : List Mv) (hL : movesL r p = L) (hP : PiecesAt W W.heap.size A r.pieces) (hok : OfOk r p) (hop : endsN r p = 0) (htn : p.turn ≠ wn)
    (hkid : ∀ i (h : i < ks.length), ∃ bk ok Ad cd, Ak = some ⟨bk, ok, none⟩ ∧ (∀ w', Later W w' → (w'.cell? ⟨bk, ok + i * 5, none⟩ = some (.bool ks[i].s) ∧ w'.cell? ⟨bk, ok + i * 5 + 1, none⟩ = some (.int .i64 ks[i].m.f) ∧ w'.cell? ⟨bk, ok + i * 5 + 2, none⟩ = some (.int .i64 ks[i].m.t) ∧ w'.cell? ⟨bk, ok + i * 5 + 3, none⟩ = some (.int .u8 (ks[i].m.c : Int)) ∧ w'.cell? ⟨bk, ok + i * 5 + 4, none⟩ = some (.slice Ad ks[i].kids.length cd))) ∧
      ∀ q, OfOk r q → ∀ w, Later W w → Calls Tryz.prog 23 #[.agg #[.int .i64 r.start.w, .int .i64 r.start.h, .string r.start.cells, .int .i64 r.start.turn, .string r.start.h0, .string r.start.h1, .slice A r.pieces.length cp, .bool r.drops, .int .u8 r.lose, .int .i64 r.line, .int .u8 r.reach, .bool r.stuck, .int .i64 r.plies], .agg #[.int .i64 q.w, .int .i64 q.h, .string q.cells, .int .i64 q.turn, .string q.h0, .string q.h1], .int .i64 (d : Int), .int .i64 wn, .agg #[.bool ks[i].s, .int .i64 ks[i].m.f, .int .i64 ks[i].m.t, .int .u8 (ks[i].m.c : Int), .slice Ad ks[i].kids.length cd]] w fun e w' => e = .returned (.bool (showsB r wn d q ks[i])) ∧ Later w w')
    (hbad : (s = true ∨ m ≠ ⟨0, 0, 0⟩ ∨ ks.length ≠ L.length) → R = false)
    (hno : ∀ i (h : i < ks.length) (h2 : i < L.length), showsB r wn d (madeP r p L[i]) ks[i] = false → R = false)
    (hyes : s = false → m = ⟨0, 0, 0⟩ → ks.length = L.length → (∀ i (h : i < ks.length) (h2 : i < L.length), showsB r wn d (madeP r p L[i]) ks[i] = true) → R = true) :
    Calls Tryz.prog 23 #[.agg #[.int .i64 r.start.w, .int .i64 r.start.h, .string r.start.cells, .int .i64 r.start.turn, .string r.start.h0, .string r.start.h1, .slice A r.pieces.length cp, .bool r.drops, .int .u8 r.lose, .int .i64 r.line, .int .u8 r.reach, .bool r.stuck, .int .i64 r.plies], .agg #[.int .i64 p.w, .int .i64 p.h, .string p.cells, .int .i64 p.turn, .string p.h0, .string p.h1], .int .i64 ((d : Int) + 1), .int .i64 wn, .agg #[.bool s, .int .i64 m.f, .int .i64 m.t, .int .u8 (m.c : Int), .slice Ak ks.length ck]] W fun e w' => e = .returned (.bool R) ∧ Later W w' := by
  have Hst := hide (ShSt.first (W := W) (R := #[.int .i64 r.start.w, .int .i64 r.start.h, .string r.start.cells, .int .i64 r.start.turn, .string r.start.h0, .string r.start.h1, .slice A r.pieces.length cp, .bool r.drops, .int .u8 r.lose, .int .i64 r.line, .int .u8 r.reach, .bool r.stuck, .int .i64 r.plies]) (P := #[.int .i64 p.w, .int .i64 p.h, .string p.cells, .int .i64 p.turn, .string p.h0, .string p.h1]) (C := #[.bool s, .int .i64 m.f, .int .i64 m.t, .int .u8 (m.c : Int), .slice Ak ks.length ck]))
  have Hen := hide (fun w (hw : Later W w) => ends_any r A cp p w ((hok.pre hP).on hw))
  have Hmv := hide (fun w (hw : Later W w) => moves_any r A cp p w ((hok.pre hP).on hw))
  simp only [hop] at Hen
  have hll : (movesL r p).length ≤ 10000 := movesL_len hok.pos
  have heq := fun w => eqM.1 m ⟨0, 0, 0⟩ w
  have hgd := fun op a b w => eqM.2 op a b m ⟨0, 0, 0⟩ w
  simp [encM] at heq hgd
  obtain ⟨u, hu⟩ : ∃ u, decide (m = ⟨0, 0, 0⟩) = u := ⟨_, rfl⟩
  simp only [hu] at heq
  have Hu := hide hu
  have t3 : (p.turn == wn) = false := by rw [beq_dec]; exact decide_eq_false htn
  have tz : (((d : Int) + 1) == 0) = false := by simp; omega
  have tw : IntKind.i64.wrap ((d : Int) + 1 - 1) = (d : Int) := by rw [show (d : Int) + 1 - 1 = d by omega]; exact IntWalk.i64_in _ (by omega)
  have tw2 : IntKind.i64.wrap (d : Int) = (d : Int) := IntWalk.i64_in _ (by omega)
  have Hkid := hide hkid
  have Hmd := hide (fun y (hy : y ∈ movesL r p) => show ∃ q, madeP r p y = q ∧ OfOk r q ∧ ∀ w, Calls Tryz.prog 16 #[.agg #[.int .i64 r.start.w, .int .i64 r.start.h, .string r.start.cells, .int .i64 r.start.turn, .string r.start.h0, .string r.start.h1, .slice A r.pieces.length cp, .bool r.drops, .int .u8 r.lose, .int .i64 r.line, .int .u8 r.reach, .bool r.stuck, .int .i64 r.plies], .agg #[.int .i64 p.w, .int .i64 p.h, .string p.cells, .int .i64 p.turn, .string p.h0, .string p.h1], .agg #[.int .i64 y.f, .int .i64 y.t, .int .u8 y.c]] w fun e w' => e = .returned (.agg #[.int .i64 q.w, .int .i64 q.h, .string q.cells, .int .i64 q.turn, .string q.h0, .string q.h1]) ∧ Later w w' from ⟨_, rfl, (every_made hok (moves_every hy)).2, fun w => made_any r A cp p y _ w hok (moves_every hy) rfl⟩)
  have Hbad := hide hbad
  have Hno := hide hno
  have Hyes := hide hyes
  simp only [hL] at Hmv hll Hmd
  clear hP hok hop htn hno hyes hbad hkid hL hu
  go_enter Tryz.func23, Tryz.ntmps23
  go_upto_region 1 with (fail)
  obtain ⟨w0, hw0⟩ : ∃ w0, (((W.alloc (.cells #[.int .i64 r.start.w, .int .i64 r.start.h, .string r.start.cells, .int .i64 r.start.turn, .string r.start.h0, .string r.start.h1, .slice A r.pieces.length cp, .bool r.drops, .int .u8 r.lose, .int .i64 r.line, .int .u8 r.reach, .bool r.stuck, .int .i64 r.plies] 27)).alloc (.cells #[.int .i64 p.w, .int .i64 p.h, .string p.cells, .int .i64 p.turn, .string p.h0, .string p.h1] 24)).alloc (.cells #[.bool s, .int .i64 m.f, .int .i64 m.t, .int .u8 (m.c : Int), .slice Ak ks.length ck] 58)) = w0 := ⟨_, rfl⟩
  rw [hw0] at Hst ⊢
  clear hw0
  obtain ⟨x0, x1, x2, x3, x4, x5, x6, x7, x8, x9, x10, x11, x12⟩ := Hst.out.r.rules
  obtain ⟨p0, p1, p2, p3, p4, p5⟩ := Hst.out.p.pos6
  go_upto_region 2 with (go_at_call 13; refine (Hen.out _ Hst.out.later).mono ?_; rintro e w2 ⟨rfl, hw2⟩)
  have Hst2 := hide (Hst.out.later_ hw2)
  clear hw2 Hst x0 x1 x2 x3 x4 x5 x6 x7 x8 x9 x10 x11 x12 p0 p1 p2 p3 p4 p5
  obtain ⟨x0, x1, x2, x3, x4, x5, x6, x7, x8, x9, x10, x11, x12⟩ := Hst2.out.r.rules
  obtain ⟨p0, p1, p2, p3, p4, p5⟩ := Hst2.out.p.pos6
  obtain ⟨c0, c1, c2, c3, c4⟩ := Hst2.out.c.five
  have hbs : s = true ∨ (s = false ∧ u = false) ∨ (s = false ∧ u = true) := by cases s <;> cases u <;> simp
  rcases hbs with rfl | ⟨rfl, rfl⟩ | ⟨rfl, rfl⟩
  · have HR := hide (Hbad.out (.inl rfl))
    go_wp2_with (go_at_call 12; refine (Hmv.out _ Hst2.out.later).mono ?_; rintro e w5 ⟨A5, c5, rfl, -, hc5, -, hw5⟩; obtain ⟨q0, q1, q2, q3, q4, q5⟩ := (hw5.blk Hst2.out.p).pos6; obtain ⟨v0, v1, v2, v3, v4⟩ := (hw5.blk Hst2.out.c).five)
    go_ret
    exact ⟨by rw [HR.out] <;> rfl, Hst2.out.later.trans hw5⟩
  · have HR := hide (Hbad.out (.inr (.inl (of_decide_eq_false Hu.out))))
    go_wp2_with (go_at_call 12; refine (Hmv.out _ Hst2.out.later).mono ?_; rintro e w5 ⟨A5, c5, rfl, -, hc5, -, hw5⟩; obtain ⟨q0, q1, q2, q3, q4, q5⟩ := (hw5.blk Hst2.out.p).pos6; obtain ⟨v0, v1, v2, v3, v4⟩ := (hw5.blk Hst2.out.c).five)
    go_ret
    exact ⟨by rw [HR.out] <;> rfl, Hst2.out.later.trans hw5⟩
  · by_cases hlen : ks.length = L.length
    · have tl : ((ks.length : Int) != (L.length : Int)) = false := by rw [hlen]; simp
      have Hlen := hide hlen
      have HY := hide (Hyes.out rfl (of_decide_eq_true Hu.out) hlen)
      clear hlen
      go_upto_region 10 with (go_at_call 12; refine (Hmv.out _ Hst2.out.later).mono ?_; rintro e w5 ⟨A5, c5, rfl, -, hc5, -, hw5⟩; obtain ⟨q0, q1, q2, q3, q4, q5⟩ := (hw5.blk Hst2.out.p).pos6; obtain ⟨v0, v1, v2, v3, v4⟩ := (hw5.blk Hst2.out.c).five)
      have Hst5 := hide (Hst2.out.later_ hw5)
      have Hc5 := hide hc5
      clear hw5 hc5 Hst2 tz t3 tl heq hgd q0 q1 q2 q3 q4 q5 v0 v1 v2 v3 v4 x0 x1 x2 x3 x4 x5 x6 x7 x8 x9 x10 x11 x12 p0 p1 p2 p3 p4 p5 c0 c1 c2 c3 c4
      go_wp2_with fail
      go_loopw [14] (fun kv wr => ∃ k : Nat, k ≤ L.length ∧ kv = .int .i64 (k : Int) ∧ (∀ i (h : i < ks.length) (h2 : i < L.length), i < k → showsB r wn d (madeP r p L[i]) ks[i] = true) ∧ Later w5 wr) (fun kv _ => L.length - (intOf kv).toNat)
      case atStart => exact ⟨0, by omega, rfl, fun i _ _ h => by omega, Later.rfl⟩
      case round =>
        rename World => wr
        obtain ⟨k, hk, rfl, hall, hw⟩ := hrel
        have Hall := hide hall
        have Hstr := hide (Hst5.out.later_ hw)
        have Hcr := hide ((Hc5.out.below hw).more hw.size)
        have Hwr := hide hw
        clear hall hw
        by_cases hlt : k < L.length
        · have t1 : decide ((k : Int) < (L.length : Int)) = true := by simp; omega
          have t1n : decide (k < L.length) = true := by simp; omega
          have hlt2 : k < ks.length := by rw [Hlen.out]; exact hlt
          have hk3 : (k : Int) < (ks.length : Int) := by omega
          obtain ⟨bk, ok, Ad, cd, rfl, hcl, hsh⟩ := Hkid.out k hlt2
          obtain ⟨bm, om, rfl, hbm, y0, y1, y2⟩ := mv_at Hcr.out hlt
          have hk1 : (0 : Int) ≤ (k : Int) := by omega
          have hk2 : (k : Int) < (L.length : Int) := by omega
          have HnoK := hide (Hno.out k hlt2 hlt)
          have HallN := hide (show showsB r wn d (madeP r p L[k]) ks[k] = true → ∀ i (h : i < ks.length) (h2 : i < L.length), i < k + 1 → showsB r wn d (madeP r p L[i]) ks[i] = true from fun h0 i h h2 hi => by
            by_cases e : i = k
            · subst e; exact h0
            · exact Hall.out i h h2 (by omega))
          obtain ⟨q, hq, hqo, hmd⟩ := Hmd.out L[k] (List.getElem_mem hlt)
          rw [hq] at HnoK
          simp only [hq] at HallN
          have hshq := fun w hw => hsh q hqo w hw
          obtain ⟨y, hy⟩ : ∃ y, L[k] = y := ⟨_, rfl⟩
          rw [hy] at y0 y1 y2
          simp only [hy] at hmd
          obtain ⟨kd, hkd⟩ : ∃ kd, ks[k] = kd := ⟨_, rfl⟩
          rw [hkd] at HnoK
          simp only [hkd] at hshq hcl HallN
          obtain ⟨v, hv⟩ : ∃ v, showsB r wn d q kd = v := ⟨_, rfl⟩
          rw [hv] at HnoK
          simp only [hv] at hshq HallN
          have HmdQ := hide hmd
          have HshQ := hide hshq
          have Hcl := hide hcl
          have HS := hide (show ∀ w' : World, Later wr w' → (w'.cell? ⟨W.heap.size, 0, none⟩ = some (.int .i64 r.start.w) ∧ w'.cell? ⟨W.heap.size, 1, none⟩ = some (.int .i64 r.start.h) ∧ w'.cell? ⟨W.heap.size, 2, none⟩ = some (.string r.start.cells) ∧ w'.cell? ⟨W.heap.size, 3, none⟩ = some (.int .i64 r.start.turn) ∧ w'.cell? ⟨W.heap.size, 4, none⟩ = some (.string r.start.h0) ∧ w'.cell? ⟨W.heap.size, 5, none⟩ = some (.string r.start.h1) ∧ w'.cell? ⟨W.heap.size, 6, none⟩ = some (.slice A r.pieces.length cp) ∧ w'.cell? ⟨W.heap.size, 7, none⟩ = some (.bool r.drops) ∧ w'.cell? ⟨W.heap.size, 8, none⟩ = some (.int .u8 r.lose) ∧ w'.cell? ⟨W.heap.size, 9, none⟩ = some (.int .i64 r.line) ∧ w'.cell? ⟨W.heap.size, 10, none⟩ = some (.int .u8 r.reach) ∧ w'.cell? ⟨W.heap.size, 11, none⟩ = some (.bool r.stuck) ∧ w'.cell? ⟨W.heap.size, 12, none⟩ = some (.int .i64 r.plies) ∧ w'.cell? ⟨W.heap.size + 1, 0, none⟩ = some (.int .i64 p.w) ∧ w'.cell? ⟨W.heap.size + 1, 1, none⟩ = some (.int .i64 p.h) ∧ w'.cell? ⟨W.heap.size + 1, 2, none⟩ = some (.string p.cells) ∧ w'.cell? ⟨W.heap.size + 1, 3, none⟩ = some (.int .i64 p.turn) ∧ w'.cell? ⟨W.heap.size + 1, 4, none⟩ = some (.string p.h0) ∧ w'.cell? ⟨W.heap.size + 1, 5, none⟩ = some (.string p.h1) ∧ w'.cell? ⟨W.heap.size + 1 + 1, 0, none⟩ = some (.bool false) ∧ w'.cell? ⟨W.heap.size + 1 + 1, 1, none⟩ = some (.int .i64 m.f) ∧ w'.cell? ⟨W.heap.size + 1 + 1, 2, none⟩ = some (.int .i64 m.t) ∧ w'.cell? ⟨W.heap.size + 1 + 1, 3, none⟩ = some (.int .u8 (m.c : Int)) ∧ w'.cell? ⟨W.heap.size + 1 + 1, 4, none⟩ = some (.slice (some ⟨bk, ok, none⟩) ks.length ck) ∧ w'.cell? ⟨bm, om + k * 3, none⟩ = some (.int .i64 y.f) ∧ w'.cell? ⟨bm, om + k * 3 + 1, none⟩ = some (.int .i64 y.t) ∧ w'.cell? ⟨bm, om + k * 3 + 2, none⟩ = some (.int .u8 y.c) ∧ w'.cell? ⟨bk, ok + k * 5, none⟩ = some (.bool kd.s) ∧ w'.cell? ⟨bk, ok + k * 5 + 1, none⟩ = some (.int .i64 kd.m.f) ∧ w'.cell? ⟨bk, ok + k * 5 + 2, none⟩ = some (.int .i64 kd.m.t) ∧ w'.cell? ⟨bk, ok + k * 5 + 3, none⟩ = some (.int .u8 (kd.m.c : Int)) ∧ w'.cell? ⟨bk, ok + k * 5 + 4, none⟩ = some (.slice Ad kd.kids.length cd)) from fun w' hw => by
            obtain ⟨x0, x1, x2, x3, x4, x5, x6, x7, x8, x9, x10, x11, x12⟩ := (hw.blk Hstr.out.r).rules
            obtain ⟨p0, p1, p2, p3, p4, p5⟩ := (hw.blk Hstr.out.p).pos6
            obtain ⟨c0, c1, c2, c3, c4⟩ := (hw.blk Hstr.out.c).five
            obtain ⟨k0, k1, k2, k3, k4⟩ := Hcl.out w' (Hstr.out.later.trans hw)
            obtain ⟨b', o', hbb, -, z0, z1, z2⟩ := mv_at ((Hcr.out.below hw).more hw.size) hlt
            injection hbb with hbb
            injection hbb with hbb1 hbb2
            subst hbb1
            subst hbb2
            rw [hy] at z0 z1 z2
            exact ⟨x0, x1, x2, x3, x4, x5, x6, x7, x8, x9, x10, x11, x12, p0, p1, p2, p3, p4, p5, c0, c1, c2, c3, c4, z0, z1, z2, k0, k1, k2, k3, k4⟩)
          clear hq hqo hmd hsh hshq hcl hy hkd hv y0 y1 y2 hlt2
          go_upto_region 13 with (fail)
          go_cut [116] from 93 to 116 (fun nv w' => nv = .bool (!v) ∧ Later wr w')
          case first =>
            clear t1 t1n
            refine wp_region_held_drew (S := fun w' : World => (w'.cell? ⟨W.heap.size, 0, none⟩ = some (.int .i64 r.start.w) ∧ w'.cell? ⟨W.heap.size, 1, none⟩ = some (.int .i64 r.start.h) ∧ w'.cell? ⟨W.heap.size, 2, none⟩ = some (.string r.start.cells) ∧ w'.cell? ⟨W.heap.size, 3, none⟩ = some (.int .i64 r.start.turn) ∧ w'.cell? ⟨W.heap.size, 4, none⟩ = some (.string r.start.h0) ∧ w'.cell? ⟨W.heap.size, 5, none⟩ = some (.string r.start.h1) ∧ w'.cell? ⟨W.heap.size, 6, none⟩ = some (.slice A r.pieces.length cp) ∧ w'.cell? ⟨W.heap.size, 7, none⟩ = some (.bool r.drops) ∧ w'.cell? ⟨W.heap.size, 8, none⟩ = some (.int .u8 r.lose) ∧ w'.cell? ⟨W.heap.size, 9, none⟩ = some (.int .i64 r.line) ∧ w'.cell? ⟨W.heap.size, 10, none⟩ = some (.int .u8 r.reach) ∧ w'.cell? ⟨W.heap.size, 11, none⟩ = some (.bool r.stuck) ∧ w'.cell? ⟨W.heap.size, 12, none⟩ = some (.int .i64 r.plies) ∧ w'.cell? ⟨W.heap.size + 1, 0, none⟩ = some (.int .i64 p.w) ∧ w'.cell? ⟨W.heap.size + 1, 1, none⟩ = some (.int .i64 p.h) ∧ w'.cell? ⟨W.heap.size + 1, 2, none⟩ = some (.string p.cells) ∧ w'.cell? ⟨W.heap.size + 1, 3, none⟩ = some (.int .i64 p.turn) ∧ w'.cell? ⟨W.heap.size + 1, 4, none⟩ = some (.string p.h0) ∧ w'.cell? ⟨W.heap.size + 1, 5, none⟩ = some (.string p.h1) ∧ w'.cell? ⟨W.heap.size + 1 + 1, 0, none⟩ = some (.bool false) ∧ w'.cell? ⟨W.heap.size + 1 + 1, 1, none⟩ = some (.int .i64 m.f) ∧ w'.cell? ⟨W.heap.size + 1 + 1, 2, none⟩ = some (.int .i64 m.t) ∧ w'.cell? ⟨W.heap.size + 1 + 1, 3, none⟩ = some (.int .u8 (m.c : Int)) ∧ w'.cell? ⟨W.heap.size + 1 + 1, 4, none⟩ = some (.slice (some ⟨bk, ok, none⟩) ks.length ck) ∧ w'.cell? ⟨bm, om + k * 3, none⟩ = some (.int .i64 y.f) ∧ w'.cell? ⟨bm, om + k * 3 + 1, none⟩ = some (.int .i64 y.t) ∧ w'.cell? ⟨bm, om + k * 3 + 2, none⟩ = some (.int .u8 y.c) ∧ w'.cell? ⟨bk, ok + k * 5, none⟩ = some (.bool kd.s) ∧ w'.cell? ⟨bk, ok + k * 5 + 1, none⟩ = some (.int .i64 kd.m.f) ∧ w'.cell? ⟨bk, ok + k * 5 + 2, none⟩ = some (.int .i64 kd.m.t) ∧ w'.cell? ⟨bk, ok + k * 5 + 3, none⟩ = some (.int .u8 (kd.m.c : Int)) ∧ w'.cell? ⟨bk, ok + k * 5 + 4, none⟩ = some (.slice Ad kd.kids.length cd))) (by kernel_rfl) (HS.out _ Later.rfl.drew) (fun hHeld => ?_)
            refine wpAnyH_take (i := 0) (oi := ⟨some 99, _, _, _, _, _⟩) (v := ?_) rfl (by kernel_rfl) (by kernel_rfl) (by kernel_rfl) (fun _ _ _ h => h) (Or.inl ⟨by rfl, ?_⟩) (by assumption) ?_
            rotate_left 1
            · intro w hSw
              try dsimp only at hSw
              go_simp <;> with_reducible rfl
            try simp only [Act.put, List.setIfInBounds_toArray, List.set_cons_zero, List.set_cons_succ]
            refine wpAnyH_take (i := 1) (oi := ⟨some 100, _, _, _, _, _⟩) (v := ?_) rfl (by kernel_rfl) (by kernel_rfl) (by kernel_rfl) (fun _ _ _ h => h) (Or.inl ⟨by rfl, ?_⟩) (by assumption) ?_
            rotate_left 1
            · intro w hSw
              try dsimp only at hSw
              go_simp <;> with_reducible rfl
            try simp only [Act.put, List.setIfInBounds_toArray, List.set_cons_zero, List.set_cons_succ]
            refine wpAnyH_take (i := 2) (oi := ⟨some 101, _, _, _, _, _⟩) (v := ?_) rfl (by kernel_rfl) (by kernel_rfl) (by kernel_rfl) (fun _ _ _ h => h) (Or.inl ⟨by rfl, ?_⟩) (by assumption) ?_
            rotate_left 1
            · intro w hSw
              try dsimp only at hSw
              go_simp <;> with_reducible rfl
            try simp only [Act.put, List.setIfInBounds_toArray, List.set_cons_zero, List.set_cons_succ]
            refine wpAnyH_take (i := 3) (oi := ⟨some 102, _, _, _, _, _⟩) (v := ?_) rfl (by kernel_rfl) (by kernel_rfl) (by kernel_rfl) (fun _ _ _ h => h) (Or.inl ⟨by rfl, ?_⟩) (by assumption) ?_
            rotate_left 1
            · intro w hSw
              try dsimp only at hSw
              go_simp <;> with_reducible rfl
            try simp only [Act.put, List.setIfInBounds_toArray, List.set_cons_zero, List.set_cons_succ]
            refine wpAnyH_take (i := 4) (oi := ⟨some 103, _, _, _, _, _⟩) (v := ?_) rfl (by kernel_rfl) (by kernel_rfl) (by kernel_rfl) (fun _ _ _ h => h) (Or.inl ⟨by rfl, ?_⟩) (by assumption) ?_
            rotate_left 1
            · intro w hSw
              try dsimp only at hSw
              go_simp <;> with_reducible rfl
            try simp only [Act.put, List.setIfInBounds_toArray, List.set_cons_zero, List.set_cons_succ]
            refine wpAnyH_take (i := 5) (oi := ⟨some 104, _, _, _, _, _⟩) (v := ?_) rfl (by kernel_rfl) (by kernel_rfl) (by kernel_rfl) (fun _ _ _ h => h) (Or.inl ⟨by rfl, ?_⟩) (by assumption) ?_
            rotate_left 1
            · intro w hSw
              try dsimp only at hSw
              go_simp <;> with_reducible rfl
            try simp only [Act.put, List.setIfInBounds_toArray, List.set_cons_zero, List.set_cons_succ]
            refine wpAnyH_take (i := 6) (oi := ⟨some 105, _, _, _, _, _⟩) (v := ?_) rfl (by kernel_rfl) (by kernel_rfl) (by kernel_rfl) (fun _ _ _ h => h) (Or.inl ⟨by rfl, ?_⟩) (by assumption) ?_
            rotate_left 1
            · intro w hSw
              try dsimp only at hSw
              go_simp <;> with_reducible rfl
            try simp only [Act.put, List.setIfInBounds_toArray, List.set_cons_zero, List.set_cons_succ]
            refine wpAnyH_take (i := 8) (oi := ⟨some 107, _, _, _, _, _⟩) (v := ?_) rfl (by kernel_rfl) (by kernel_rfl) (by kernel_rfl) (fun _ _ _ h => h) (Or.inl ⟨by rfl, ?_⟩) (by assumption) ?_
            rotate_left 1
            · intro w hSw
              try dsimp only at hSw
              go_simp <;> with_reducible rfl
            try simp only [Act.put, List.setIfInBounds_toArray, List.set_cons_zero, List.set_cons_succ]
            refine wpAnyH_take (i := 9) (oi := ⟨some 108, _, _, _, _, _⟩) (v := ?_) rfl (by kernel_rfl) (by kernel_rfl) (by kernel_rfl) (fun _ _ _ h => h) (Or.inl ⟨by rfl, ?_⟩) (by assumption) ?_
            rotate_left 1
            · intro w hSw
              try dsimp only at hSw
              go_simp <;> with_reducible rfl
            try simp only [Act.put, List.setIfInBounds_toArray, List.set_cons_zero, List.set_cons_succ]
            refine wpAnyH_take (i := 10) (oi := ⟨some 109, _, _, _, _, _⟩) (v := ?_) rfl (by kernel_rfl) (by kernel_rfl) (by kernel_rfl) (fun _ _ _ h => h) (Or.inl ⟨by rfl, ?_⟩) (by assumption) ?_
            rotate_left 1
            · intro w hSw
              try dsimp only at hSw
              go_simp <;> with_reducible rfl
            try simp only [Act.put, List.setIfInBounds_toArray, List.set_cons_zero, List.set_cons_succ]
            refine wpAnyH_take (i := 11) (oi := ⟨some 110, _, _, _, _, _⟩) (v := ?_) rfl (by kernel_rfl) (by kernel_rfl) (by kernel_rfl) (fun _ _ _ h => h) (Or.inl ⟨by rfl, ?_⟩) (by assumption) ?_
            rotate_left 1
            · intro w hSw
              try dsimp only at hSw
              go_simp <;> with_reducible rfl
            try simp only [Act.put, List.setIfInBounds_toArray, List.set_cons_zero, List.set_cons_succ]
            refine wpAnyH_take (i := 12) (oi := ⟨some 111, _, _, _, _, _⟩) (v := ?_) rfl (by kernel_rfl) (by kernel_rfl) (by kernel_rfl) (fun _ _ _ h => h) (Or.inl ⟨by rfl, ?_⟩) (by assumption) ?_
            rotate_left 1
            · intro w hSw
              try dsimp only at hSw
              go_simp <;> with_reducible rfl
            try simp only [Act.put, List.setIfInBounds_toArray, List.set_cons_zero, List.set_cons_succ]
            refine wpAnyH_take (i := 13) (oi := ⟨some 112, _, _, _, _, _⟩) (v := ?_) rfl (by kernel_rfl) (by kernel_rfl) (by kernel_rfl) (fun _ _ _ h => h) (Or.inl ⟨by rfl, ?_⟩) (by assumption) ?_
            rotate_left 1
            · intro w hSw
              try dsimp only at hSw
              go_simp <;> with_reducible rfl
            try simp only [Act.put, List.setIfInBounds_toArray, List.set_cons_zero, List.set_cons_succ]
            refine wpAnyH_take (i := 14) (oi := ⟨some 113, _, _, _, _, _⟩) (v := ?_) rfl (by kernel_rfl) (by kernel_rfl) (by kernel_rfl) (fun _ _ _ h => h) (Or.inl ⟨by rfl, ?_⟩) (by assumption) ?_
            rotate_left 1
            · intro w hSw
              try dsimp only at hSw
              go_simp <;> with_reducible rfl
            try simp only [Act.put, List.setIfInBounds_toArray, List.set_cons_zero, List.set_cons_succ]
            refine wpAnyH_take (i := 15) (oi := ⟨some 114, _, _, _, _, _⟩) (v := ?_) rfl (by kernel_rfl) (by kernel_rfl) (by kernel_rfl) (fun _ _ _ h => h) (Or.inl ⟨by rfl, ?_⟩) (by assumption) ?_
            rotate_left 1
            · intro w hSw
              try dsimp only at hSw
              go_simp <;> with_reducible rfl
            try simp only [Act.put, List.setIfInBounds_toArray, List.set_cons_zero, List.set_cons_succ]
            refine wpAnyH_ready (rs := [7]) (by kernel_rfl) (by simp) ?_
            refine AllReadyH.cons (o := ⟨some 106, _, _, _, _, _⟩) rfl (fun K hK => ?_) ?_
            · clear hHeld
              go_simp
              go_at_call 16
              refine (HmdQ.out _).mono ?_
              rintro e wm ⟨rfl, hwx⟩
              have hwq : Later wr wm := Later.trans (by repeat (first | exact Later.rfl | refine Later.drew ?_)) hwx
              try go_wp2_with fail
              refine hK.out _ _ (by refine HS.out _ ?_; repeat (first | exact Later.rfl | exact hwq | refine Later.drew ?_)) (fun hHeld => ?_)
              clear hK K
              try simp only [Act.put, List.setIfInBounds_toArray, List.set_cons_zero, List.set_cons_succ]
              refine wpAnyH_ready (rs := [16]) (by kernel_rfl) (by simp) ?_
              refine AllReadyH.cons (o := ⟨some 115, _, _, _, _, _⟩) rfl (fun K hK => ?_) ?_
              · clear hHeld
                go_simp
                go_at_call 23
                refine (HshQ.out _ (Hstr.out.later.trans hwq)).mono ?_
                rintro e wt ⟨rfl, hwx⟩
                have hwq : Later wr wt := Later.trans hwq hwx
                try go_wp2_with fail
                refine hK.out _ _ (by refine HS.out _ ?_; repeat (first | exact Later.rfl | exact hwq | refine Later.drew ?_)) (fun hHeld => ?_)
                clear hK K
                try simp only [Act.put, List.setIfInBounds_toArray, List.set_cons_zero, List.set_cons_succ]
                refine wpAnyH_take (i := 17) (oi := ⟨some 116, _, _, _, _, _⟩) (v := ?_) rfl (by kernel_rfl) (by kernel_rfl) (by kernel_rfl) (fun _ _ _ h => h) (Or.inl ⟨by rfl, ?_⟩) (by assumption) ?_
                rotate_left 1
                · intro w hSw
                  try dsimp only at hSw
                  go_simp <;> with_reducible rfl
                try simp only [Act.put, List.setIfInBounds_toArray, List.set_cons_zero, List.set_cons_succ]
                refine wpAnyH_done (by kernel_rfl) ?_ _
                go_wp2_with fail
                go_meet
                case rel => exact ⟨rfl, hwq⟩
              exact AllReadyH.nil
            exact AllReadyH.nil
          case rest =>
            obtain ⟨rfl, hw8⟩ := hcut
            rename World => w8
            have Hw8 := hide (Hwr.out.trans hw8)
            have HL8 := hide (Hstr.out.later.trans hw8)
            clear hw8 tw tw2
            cases v
            · have HR := hide (HnoK.out rfl)
              go_wp2_with fail
              go_ret
              exact ⟨by rw [HR.out] <;> rfl, HL8.out⟩
            · have HN := hide (HallN.out rfl)
              go_wp2_with fail
              go_roundw
              case rel => exact ⟨k + 1, by omega, by go_num, HN.out, Hw8.out⟩
              case measure => simp [intOf]; omega
        · obtain rfl : L.length = k := by omega
          have t1 : decide ((L.length : Int) < (L.length : Int)) = false := by simp
          have t1n : decide (L.length < L.length) = false := by simp
          have HR := hide (HY.out (fun i h h2 => Hall.out i h h2 h2))
          go_wp2_with fail
          go_ret
          exact ⟨by rw [HR.out] <;> rfl, Hstr.out.later⟩
    · have tl : ((ks.length : Int) != (L.length : Int)) = true := by simp; omega
      have HR := hide (Hbad.out (.inr (.inr hlen)))
      clear hlen
      go_wp2_with (go_at_call 12; refine (Hmv.out _ Hst2.out.later).mono ?_; rintro e w5 ⟨A5, c5, rfl, -, hc5, -, hw5⟩; obtain ⟨q0, q1, q2, q3, q4, q5⟩ := (hw5.blk Hst2.out.p).pos6; obtain ⟨v0, v1, v2, v3, v4⟩ := (hw5.blk Hst2.out.c).five)
      go_ret
      exact ⟨by rw [HR.out] <;> rfl, Hst2.out.later.trans hw5⟩
end Go.Proofs.YtdfegpohmaideaaGreat
/- gameref.Shows answers what a cert shows. -/
namespace Go.Proofs.YtdfegpohmaideaaGreat
open Go.RowKit

theorem showsB_end {r : RulesD} {wn : Int} {d : Nat} {p : Pos} {c : CertD} (h : endsN r p ≠ 0 ∨ d = 0) : showsB r wn d p c = (endsN r p == wn + 1 && (noneB c && (c.kids.length == 0))) := by
  rw [Bool.eq_iff_iff]
  unfold showsB noneB
  simp only [decide_eq_true_eq, Bool.and_eq_true, beq_iff_eq]
  cases d with
  | zero => exact Iff.rfl
  | succ d =>
    have h0 : endsN r p ≠ 0 := h.resolve_right (by omega)
    unfold ShowsN
    constructor
    · rintro (⟨_, h1⟩ | ⟨h1, _⟩ | ⟨h1, _⟩)
      · exact h1
      · exact absurd h1 h0
      · exact absurd h1 h0
    · exact fun h1 => .inl ⟨h0, h1⟩
theorem showsB_own {r : RulesD} {wn : Int} {d : Nat} {p : Pos} {s : Bool} {m : Mv} {ks : List CertD} (h : endsN r p = 0) (ht : p.turn = wn) :
    showsB r wn (d + 1) p (.mk s m ks) = true ↔ s = true ∧ m ∈ movesL r p ∧ ∃ k, ks = [k] ∧ showsB r wn d (madeP r p m) k = true := by
  unfold showsB
  simp only [decide_eq_true_eq]
  conv => lhs; unfold ShowsN
  constructor
  · rintro (⟨h1, _⟩ | ⟨_, _, h3⟩ | ⟨_, h1, _⟩)
    · exact absurd h h1
    · exact h3
    · exact absurd ht h1
  · exact fun h3 => .inr (.inl ⟨h, ht, h3⟩)
theorem showsB_other {r : RulesD} {wn : Int} {d : Nat} {p : Pos} {s : Bool} {m : Mv} {ks : List CertD} (h : endsN r p = 0) (ht : p.turn ≠ wn) :
    showsB r wn (d + 1) p (.mk s m ks) = true ↔ (s = false ∧ m = ⟨0, 0, 0⟩) ∧ ks.length = (nextL r p).length ∧ ∀ (i : Nat) (h : i < (nextL r p).length) (k : CertD), ks[i]? = some k → showsB r wn d ((nextL r p)[i]) k = true := by
  unfold showsB
  simp only [decide_eq_true_eq]
  conv => lhs; unfold ShowsN
  constructor
  · rintro (⟨h1, _⟩ | ⟨_, h1, _⟩ | ⟨_, _, h3⟩)
    · exact absurd h h1
    · exact absurd h1 ht
    · exact h3
  · exact fun h3 => .inr (.inr ⟨h, ht, h3⟩)
theorem cell_later {W w' : World} (hw : Later W w') {b : Nat} (hb : b < W.heap.size) (o : Nat) : w'.cell? ⟨b, o, none⟩ = W.cell? ⟨b, o, none⟩ := by
  unfold World.cell?
  rw [show w'.heap[b]? = W.heap[b]? from Below.block hw b hb]
theorem shows_any (r : RulesD) (A : Option Addr) (cp : Nat) (wn : Int) (h0 : 0 ≤ wn) (h1 : wn ≤ 1) : ∀ (d : Nat), d ≤ 9 → ∀ (p : Pos), OfOk r p → ∀ (c : CertD) (Ak : Option Addr) (ck : Nat) (W : World), PiecesAt W W.heap.size A r.pieces → CertAt W W.heap.size d c Ak →
    Calls Tryz.prog 23 #[.agg #[.int .i64 r.start.w, .int .i64 r.start.h, .string r.start.cells, .int .i64 r.start.turn, .string r.start.h0, .string r.start.h1, .slice A r.pieces.length cp, .bool r.drops, .int .u8 r.lose, .int .i64 r.line, .int .u8 r.reach, .bool r.stuck, .int .i64 r.plies], .agg #[.int .i64 p.w, .int .i64 p.h, .string p.cells, .int .i64 p.turn, .string p.h0, .string p.h1], .int .i64 (d : Int), .int .i64 wn, .agg #[.bool c.s, .int .i64 c.m.f, .int .i64 c.m.t, .int .u8 (c.m.c : Int), .slice Ak c.kids.length ck]] W fun e w' => e = .returned (.bool (showsB r wn d p c)) ∧ Later W w'
  | 0, _, p, hok, c, Ak, ck, W, hP, _ => shows_end r A cp wn 0 p c Ak ck W h0 h1 hP hok (.inr rfl) (showsB_end (.inr rfl))
  | d + 1, hd, p, hok, ⟨s, m, ks⟩, Ak, ck, W, hP, hC => by
    by_cases hop : endsN r p = 0
    · have hkid : ∀ i (h : i < ks.length), ∃ bk ok Ad cd, Ak = some ⟨bk, ok, none⟩ ∧ (∀ w', Later W w' → (w'.cell? ⟨bk, ok + i * 5, none⟩ = some (.bool ks[i].s) ∧ w'.cell? ⟨bk, ok + i * 5 + 1, none⟩ = some (.int .i64 ks[i].m.f) ∧ w'.cell? ⟨bk, ok + i * 5 + 2, none⟩ = some (.int .i64 ks[i].m.t) ∧ w'.cell? ⟨bk, ok + i * 5 + 3, none⟩ = some (.int .u8 (ks[i].m.c : Int)) ∧ w'.cell? ⟨bk, ok + i * 5 + 4, none⟩ = some (.slice Ad ks[i].kids.length cd))) ∧
          ∀ q, OfOk r q → ∀ w, Later W w → Calls Tryz.prog 23 #[.agg #[.int .i64 r.start.w, .int .i64 r.start.h, .string r.start.cells, .int .i64 r.start.turn, .string r.start.h0, .string r.start.h1, .slice A r.pieces.length cp, .bool r.drops, .int .u8 r.lose, .int .i64 r.line, .int .u8 r.reach, .bool r.stuck, .int .i64 r.plies], .agg #[.int .i64 q.w, .int .i64 q.h, .string q.cells, .int .i64 q.turn, .string q.h0, .string q.h1], .int .i64 (d : Int), .int .i64 wn, .agg #[.bool ks[i].s, .int .i64 ks[i].m.f, .int .i64 ks[i].m.t, .int .u8 (ks[i].m.c : Int), .slice Ad ks[i].kids.length cd]] w fun e w' => e = .returned (.bool (showsB r wn d q ks[i])) ∧ Later w w' := fun i hi => by
        obtain ⟨b, off, Ad, cd, hA, hlt, _, ⟨y0, y1, y2, y3, y4⟩, hn⟩ := hC i hi
        refine ⟨b, off, Ad, cd, hA, fun w' hw => ?_, fun q hq w hw => ?_⟩
        · exact ⟨(cell_later hw hlt _).trans y0, (cell_later hw hlt _).trans y1, (cell_later hw hlt _).trans y2, (cell_later hw hlt _).trans y3, (cell_later hw hlt _).trans y4⟩
        · exact shows_any r A cp wn h0 h1 d (by omega) q hq _ Ad cd w ((hP.below hw).more hw.size) (CertAt.more hw.size _ _ _ (CertAt.below hw _ _ _ hn))
      rw [show ((d + 1 : Nat) : Int) = (d : Int) + 1 by omega]
      by_cases htn : p.turn = wn
      · have hown := showsB_own (d := d) (s := s) (m := m) (ks := ks) hop htn
        by_cases hb : s = true ∧ ks.length = 1
        · obtain ⟨rfl, hl⟩ := hb
          obtain ⟨kd, rfl⟩ := List.length_eq_one_iff.1 hl
          obtain ⟨bk, ok, Ad, cd, rfl, hcl, hsh⟩ := hkid 0 (by simp)
          simp only [Nat.zero_mul, Nat.add_zero] at hcl
          refine shows_own_one r A cp wn d (by omega) p m bk ok ck kd Ad cd W _ hP hok hop htn hcl (fun hm => ?_) (fun hm => ?_) hsh
          · cases hv : showsB r wn (d + 1) p (.mk true m [kd]) with
            | false => rfl
            | true => exact absurd (hown.1 hv).2.1 hm
          · rw [Bool.eq_iff_iff, hown]
            constructor
            · rintro ⟨_, _, k, hk, hs⟩
              simp only [List.cons.injEq, and_true] at hk
              subst hk
              exact hs
            · exact fun hs => ⟨rfl, hm, kd, rfl, hs⟩
        · refine shows_own_no r A cp wn d (by omega) p m s ks.length Ak ck W _ hP hok hop htn ?_ ?_
          · cases s
            · exact .inl rfl
            · exact .inr ⟨rfl, fun e => hb ⟨rfl, e⟩⟩
          · cases hv : showsB r wn (d + 1) p (.mk s m ks) with
            | false => rfl
            | true =>
              obtain ⟨hs, _, k, hk, _⟩ := hown.1 hv
              exact absurd ⟨hs, by rw [hk]; rfl⟩ hb
      · have hoth := showsB_other (d := d) (s := s) (m := m) (ks := ks) hop htn
        have hnl : (nextL r p).length = (movesL r p).length := by simp [nextL]
        have hng : ∀ i (h : i < (nextL r p).length) (h2 : i < (movesL r p).length), (nextL r p)[i] = madeP r p (movesL r p)[i] := fun i h h2 => by simp [nextL]
        refine shows_other r A cp wn d (by omega) p s m ks Ak ck W _ (movesL r p) rfl hP hok hop htn hkid (fun hb => ?_) (fun i h h2 hf => ?_) (fun hs hm hl hall => ?_)
        · cases hv : showsB r wn (d + 1) p (.mk s m ks) with
          | false => rfl
          | true =>
            obtain ⟨⟨e1, e2⟩, e3, _⟩ := hoth.1 hv
            rcases hb with h | h | h
            · rw [e1] at h; cases h
            · exact absurd e2 h
            · exact absurd (e3.trans hnl) h
        · cases hv : showsB r wn (d + 1) p (.mk s m ks) with
          | false => rfl
          | true =>
            have := (hoth.1 hv).2.2 i (by rw [hnl]; exact h2) ks[i] (List.getElem?_eq_getElem h)
            rw [hng i _ h2, hf] at this
            cases this
        · refine hoth.2 ⟨⟨hs, hm⟩, hl.trans hnl.symm, fun i h k hk => ?_⟩
          have h2 : i < (movesL r p).length := by rw [← hnl]; exact h
          have hi : i < ks.length := by rw [hl]; exact h2
          rw [List.getElem?_eq_getElem hi] at hk
          injection hk with hk
          rw [hng i h h2, ← hk]
          exact hall i hi h2
    · exact shows_end r A cp wn (d + 1) p ⟨s, m, ks⟩ Ak ck W h0 h1 hP hok (.inl hop) (showsB_end (.inl hop))
end Go.Proofs.YtdfegpohmaideaaGreat
