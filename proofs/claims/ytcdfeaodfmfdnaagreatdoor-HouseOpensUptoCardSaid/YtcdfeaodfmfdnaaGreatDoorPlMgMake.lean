/- Rows of bytes; a move made, by the program and by the document. -/
import Derived.Test.YtcdfeaodfmfdnaaGreatDoorPlMvLetM
import Derived.Test.YtcdfeaodfmfdnaaGreatDoorPlRuM
import Derived.Laws.IdiomCopy
import Derived.Shelf.SlicesE.Delete
import Derived.Test.YtcdfeaodfmfdnaaGreatDoorShelf
import Derived.BigRegion
import Derived.Test.YtcdfeaodfmfdnaaGreatDoorGen
import Derived.Shelf.SlicesE.Index
import Derived.StillTailTactics
import Derived.Deep.CutRange
/- Bytes in a row of a call's own, with room behind them; putting one in by swaps. -/
namespace Go.Proofs.YtcdfeaodfmfdnaaGreatDoor
open Go.RowKit

/-- bytes of a row, from its first cell on; no cell of it is shut -/
structure BR (w : World) (B : Nat) (T : TypeId) (g cap : Nat) (l : List UInt8) : Prop where
 base : B ≤ g
 len : l.length ≤ cap
 most : cap ≤ maxLen
 blk : ∃ cur fz, w.heap[g]? = some (.cells cur T fz) ∧ cur.size = cap ∧ (∀ i, i < cap → ¬ (fz.1 ≤ i ∧ i < fz.2)) ∧ ∀ j (h : j < l.length), cur[j]? = some (.int .u8 (l[j].toNat : Int))
section
variable {w w' : World} {B g cap : Nat} {T : TypeId} {l : List UInt8}
theorem BR.lt (h : BR w B T g cap l) : g < w.heap.size := by
 obtain ⟨cur, fz, hg, _⟩ := h.blk
 exact (Array.getElem?_eq_some_iff.1 hg).1
theorem BR.cell (h : BR w B T g cap l) {j : Nat} (hj : j < l.length) : w.cell? ⟨g, j, none⟩ = some (.int .u8 (l[j].toNat : Int)) := by
 obtain ⟨cur, fz, hg, _, _, hc⟩ := h.blk
 rw [← hc j hj]
 simp [World.cell?, hg]
theorem BR.free (h : BR w B T g cap l) {j : Nat} (hj : j < cap) : w.frozen? ⟨g, j, none⟩ = false := by
 obtain ⟨cur, fz, hg, _, hf, _⟩ := h.blk
 have := hf j hj
 simp [World.frozen?, hg]
 omega
theorem BR.some_ (h : BR w B T g cap l) {j : Nat} (hj : j < cap) : (w.cell? ⟨g, j, none⟩).isSome = true := by
 obtain ⟨cur, fz, hg, hs, _, _⟩ := h.blk
 have hj2 : j < cur.size := by omega
 simp [World.cell?, hg, hj2]
theorem BR.set_ (h : BR w B T g cap l) (i : Nat) (x : UInt8) : BR (w.setCell ⟨g, i, none⟩ (.int .u8 (x.toNat : Int))) B T g cap (l.set i x) := by
 obtain ⟨cur, fz, hg, hs, hf, hc⟩ := h.blk
 refine ⟨h.base, by rw [List.length_set]; exact h.len, h.most, cur.setIfInBounds i (.int .u8 (x.toNat : Int)), fz, ?_, by simpa using hs, hf, fun j hj => ?_⟩
 ·
  simp [World.setCell, Array.getElem?_modify, hg]
 ·
  have hj2 : j < l.length := by simpa using hj
  have := h.len
  rw [Array.getElem?_setIfInBounds, List.getElem_set]
  by_cases e : i = j
  ·
   subst e
   rw [if_pos rfl, if_pos (by omega), if_pos rfl]
  ·
   rw [if_neg e, if_neg e]; exact hc j hj2
theorem BR.only {S : Nat → Prop} (h : BR w B T g cap l) (hb : Only S w w') (hg : ¬ S g) : BR w' B T g cap l := by
 obtain ⟨cur, fz, hg', rest⟩ := h.blk
 exact ⟨h.base, h.len, h.most, cur, fz, (hb.block g h.lt hg).trans hg', rest⟩
theorem BR.drewN (h : BR w B T g cap l) (n : Nat) : BR (w.drewN n) B T g cap l := ⟨h.base, h.len, h.most, h.blk⟩
theorem BR.drew (h : BR w B T g cap l) : BR w.drew B T g cap l := ⟨h.base, h.len, h.most, h.blk⟩
theorem BR.alloc (h : BR w B T g cap l) (o : Obj) : BR (w.alloc o) B T g cap l := h.only ((Only.refl (fun _ => False) w).alloc o) id
theorem BR.set_other (h : BR w B T g cap l) {k i : Nat} (hk : k ≠ g) (v : Value) : BR (w.setCell ⟨k, i, none⟩ v) B T g cap l :=
 h.only ((Only.refl (fun b => b = k) w).setCell (p := ⟨k, i, none⟩) (.inl rfl) v) (fun e => hk e.symm)
/-- one byte behind the others -/
theorem BR.append {P : Program} (h : BR w B T g cap l) (t ty : TypeId) (i : TypeInfo) (ht : P.underlying t = some (.slice T)) (hi : P.info? T = some i) (hz : i.zero = some (.int .u8 0)) (hs : i.size = 1) (hby : i.bytes = 1)
  (hl : l.length ≤ 1000000) (hB : B ≤ w.heap.size) (g2 : Nat) (c : UInt8) (hx : w.cell? ⟨g2, 0, none⟩ = some (.int .u8 (c.toNat : Int))) :
  ∃ g' cap' w', (Builtin.append_ #[t, t] ty #[.slice (some ⟨g, 0, none⟩) l.length cap, .slice (some ⟨g2, 0, none⟩) 1 1]).run P w = .ok (.slice (some ⟨g', 0, none⟩) (l.length + 1) cap') w' ∧
   BR w' B T g' cap' (l ++ [c]) ∧ Only (fun k => k = g) w w' ∧ (g' = g ∨ g' = w.heap.size) := by
 have hnews : ∀ j u, [Value.int .u8 (c.toNat : Int)][j]? = some u → w.cell? ((⟨g2, 0, none⟩ : Addr).add j) = some u := by
  intro j u hu
  have hj : j = 0 := by
   have := (List.getElem?_eq_some_iff.1 hu).1
   simpa using this
  subst hj
  rw [Addr.add_lit, Nat.zero_add, hx]
  simpa using hu
 have hone : ∀ u ∈ [Value.int .u8 (c.toNat : Int)], u.oneCell' = true := fun u hu => by
  simp only [List.mem_cons, List.not_mem_nil, or_false] at hu
  subst hu; rfl
 obtain ⟨cur, fz, hg, hcs, hf, hc⟩ := h.blk
 by_cases hroom : l.length + 1 ≤ cap
 ·
  have hfc := run_firstCells_some (P := P) w i.size 1 ⟨g2, 0, none⟩ 1 1 [.int .u8 (c.toNat : Int)] (by simp [hs]) hnews
  have hst := run_storeCells_cells (P := P) g (l.length * i.size) [.int .u8 (c.toNat : Int)] 0 w
   (fun j hj => by simp only [List.length_cons, List.length_nil] at hj; exact h.some_ (by rw [hs]; omega))
   (fun j hj => by simp only [List.length_cons, List.length_nil] at hj; exact h.free (by rw [hs]; omega)) hone
  refine ⟨g, cap, w.setCell ⟨g, l.length, none⟩ (.int .u8 (c.toNat : Int)), ?_, ?_, (Only.refl (fun k => k = g) w).setCell (p := ⟨g, l.length, none⟩) (.inl rfl) _, .inl rfl⟩
  ·
   rw [hs] at hfc hst
   rw [Nat.mul_one, Nat.add_zero] at hst
   simp [Builtin.append_, run_underlying ht, sizeOf, typeInfo, hi, Builtin.lenOf, hroom, hfc, Addr.add_lit, hst, World.setCells, hs]
  ·
   refine ⟨h.base, by simpa using hroom, h.most, cur.setIfInBounds l.length (.int .u8 (c.toNat : Int)), fz, ?_, by simpa using hcs, hf, fun j hj => ?_⟩
   ·
    simp [World.setCell, Array.getElem?_modify, hg]
   ·
    have hj2 : j < l.length + 1 := by simpa using hj
    rw [Array.getElem?_setIfInBounds]
    by_cases e : l.length = j
    ·
     subst e
     rw [if_pos rfl, if_pos (by omega)]
     simp
    ·
     rw [if_neg e, List.getElem_append_left (by omega)]
     exact hc j (by omega)
 ·
  have hg2 : cap < l.length + 1 := by omega
  have hlc : l.length = cap := by have := h.len; omega
  have holds : ∀ j v, (l.map fun x => Value.int .u8 (x.toNat : Int))[j]? = some v → w.cell? ((⟨g, 0, none⟩ : Addr).add j) = some v := by
   intro j v hv
   obtain ⟨hj, hjv⟩ := List.getElem?_eq_some_iff.1 hv
   rw [List.length_map] at hj
   rw [List.getElem_map] at hjv
   rw [Addr.add_lit, Nat.zero_add, h.cell hj, hjv]
  have hr := run_append_grow (P := P) w t ty T i (.int .u8 0) ht hi hz ⟨g, 0, none⟩ l.length cap (l.map fun x => Value.int .u8 (x.toNat : Int)) (by simp [hs]) holds ⟨g2, 0, none⟩ 1 1 [.int .u8 (c.toNat : Int)] (by simp [hs]) hnews hg2 (by omega)
   (by rw [hby]; exact growslice_fits (by omega) (by omega))
  have hge := grownCap_ge w (l.length + 1) cap T
  refine ⟨w.heap.size, _, _, hr, ?_, ((Only.refl _ w).drew).alloc _, .inr rfl⟩
  refine ⟨hB, by simpa using hge, grownCap_le_maxLen w (l.length + 1) cap T (by unfold maxLen; omega), _, (0, 0), heap_alloc_new w.drew _, ?_, fun i _ hh => by omega, fun j hj => ?_⟩
  ·
   simp only [Array.size_append, List.size_toArray, size_zeroCells, List.length_map, List.length_cons, List.length_nil]
   have : (Value.int IntKind.u8 0).cells.size = 1 := rfl
   rw [this]
   omega
  ·
   have hj2 : j < l.length + 1 := by simpa using hj
   rw [Array.getElem?_append_left (by simp; omega)]
   by_cases e : j = l.length
   ·
    subst e
    simp
   ·
    have hj3 : j < l.length := by omega
    rw [Array.getElem?_append_left (by simpa using hj3), List.getElem_append_left hj3]
    simp [hj3]
theorem wpList_appendB {P : Program} {ops : Array Oper} {rest : List Oper} {o : Oper} {a : Act} {Q : Exit → Act → World → Prop} (w : World) (hgd : o.guard = none) (s x : Operand) (t : TypeId)
  (ho : o.op = .call { callee := .builtin .append, args := #[s, x], argTypes := #[t, t] })
  (T : TypeId) (i : TypeInfo) (ht : P.underlying t = some (.slice T)) (hi : P.info? T = some i) (hz : i.zero = some (.int .u8 0)) (hs : i.size = 1) (hby : i.bytes = 1)
  (B g cap : Nat) (l : List UInt8) (n : Nat) (hn : l.length = n) (hse : a.eval s = .slice (some ⟨g, 0, none⟩) n cap) (hrow : BR w B T g cap l) (hl : n ≤ 1000000) (hB : B ≤ w.heap.size)
  (g2 : Nat) (c : UInt8) (hx : a.eval x = .slice (some ⟨g2, 0, none⟩) 1 1) (hcell : w.cell? ⟨g2, 0, none⟩ = some (.int .u8 (c.toNat : Int)))
  (h : ∀ g' cap' w', BR w' B T g' cap' (l ++ [c]) → Only (fun k => k = g) w w' → (g' = g ∨ g' = w.heap.size) → wpList P ops Q rest (a.put o.dst (.slice (some ⟨g', 0, none⟩) (n + 1) cap')) w') : wpList P ops Q (o :: rest) a w := by
 refine wpList_plain hgd fun K hK => ?_
 subst hn
 obtain ⟨g', cap', w', hr, h2, h3, h4⟩ := hrow.append (P := P) t o.type i ht hi hz hs hby hl hB g2 c hcell
 unfold Oper.wp execOp
 simp only [ho, resolve, invoke, builtin, Sem.run_bind, Sem.run_pure, Result.andThen_ok, List.map_toArray, List.map_cons, List.map_nil, hse, hx, hr]
 exact hK _ _ (h g' cap' w' h2 h3 h4)
/-- the row as a text -/
theorem BR.text {P : Program} (h : BR w B T g cap l) (src dst : TypeId) (hs : P.underlying src = some (.slice T)) (he : P.underlying T = some (.int .u8)) (hd : P.underlying dst = some .string) :
  (convert src dst (.slice (some ⟨g, 0, none⟩) l.length cap)).run P w = .ok (.string (bytes l)) w :=
 run_convert_bytes_back (P := P) w src dst T ⟨g, 0, none⟩ cap l hs he hd (fun j hj => by
  rw [Addr.add_lit, Nat.zero_add]
  exact h.cell hj)
/-- '[]byte(s)' -/
theorem BR.of_text {P : Program} (w : World) (src dst : TypeId) (s : ByteArray) (hsm : s.size ≤ maxLen) (hs : P.underlying src = some .string) (hd : P.underlying dst = some (.slice T)) (he : P.underlying T = some (.int .u8)) :
  ∃ cap w', (convert src dst (.string s)).run P w = .ok (.slice (some ⟨w.heap.size, 0, none⟩) s.size cap) w' ∧ Only (fun _ => False) w w' ∧ w'.heap.size = w.heap.size + 1 ∧ BR w' w.heap.size T w.heap.size cap s.data.toList := by
 refine ⟨grownCap w s.size 0 T, _, run_bytes_of_string w src dst T s hs hd he, ((Only.refl _ w).drew).alloc _, by simp, Nat.le_refl _, grownCap_ge _ _ _ _, grownCap_le_maxLen _ _ _ _ hsm, _, _, heap_alloc_new w.drew _, ?_, fun i hi hh => ?_, fun j hj => ?_⟩
 ·
  simp only [bytesRow, Array.size_append, Array.size_map, Array.size_replicate]
  have := grownCap_ge w s.size 0 T
  have e : s.data.size = s.size := rfl
  omega
 ·
  have e : (bytesRow s (grownCap w s.size 0 T)).size = grownCap w s.size 0 T := by
   simp only [bytesRow, Array.size_append, Array.size_map, Array.size_replicate]
   have := grownCap_ge w s.size 0 T
   have e : s.data.size = s.size := rfl
   omega
  rw [e] at hh
  omega
 ·
  have hj2 : j < s.data.size := by simpa using hj
  simp only [bytesRow]
  rw [Array.getElem?_append_left (by simpa using hj2), Array.getElem?_map, Array.getElem?_eq_getElem hj2]
  rfl
/-- a row laid anew by the library -/
theorem BR.putRow (h : BR w B T g cap l) (q : Nat) (m rest : List UInt8) (hl : m.length + rest.length ≤ l.length) :
  BR (Go.Sort.putRow (fun x : UInt8 => Value.int .u8 (x.toNat : Int)) (Go.Sort.ahead w q) g 0 (m ++ rest).toArray) B T g cap m ∧ Only (fun k => k = g) w (Go.Sort.putRow (fun x : UInt8 => Value.int .u8 (x.toNat : Int)) (Go.Sort.ahead w q) g 0 (m ++ rest).toArray) := by
 obtain ⟨cur, fz, hg, hcs, hf, hc⟩ := h.blk
 constructor
 ·
  refine ⟨h.base, by have := h.len; omega, h.most, Go.Sort.putCells (fun x : UInt8 => Value.int .u8 (x.toNat : Int)) 0 (m ++ rest).toArray cur, fz, ?_, by simpa [Go.Sort.putCells] using hcs, hf, fun j hj => ?_⟩
  ·
   simp [Go.Sort.putRow, Go.Sort.mapBlock, Go.Sort.ahead, Array.getElem?_modify, hg, Go.Sort.onCells]
  ·
   have := h.len
   have hj2 : j < cur.size := by omega
   simp only [Go.Sort.putCells, Array.getElem?_mapIdx, Array.getElem?_eq_getElem hj2, Option.map_some]
   rw [if_pos ⟨by omega, by simp; omega⟩]
   congr 3
   rw [Nat.sub_zero, getElem!_pos _ j (by simp; omega)]
   simp [List.getElem_append_left hj]
 ·
  exact ⟨rfl, rfl, rfl, by simp [Go.Sort.putRow, Go.Sort.mapBlock, Go.Sort.ahead], fun k hk hne => by
   simp only [Go.Sort.putRow, Go.Sort.mapBlock, Go.Sort.ahead]
   rw [Array.getElem?_modify, if_neg (fun e => hne e.symm)]⟩
end

/-! putting one in -/
def insAt (c : UInt8) (S : List UInt8) (k : Nat) : List UInt8 := S.take k ++ c :: S.drop k
section
variable {c : UInt8} {S : List UInt8}
theorem insAt_len {k : Nat} (h : k ≤ S.length) : (insAt c S k).length = S.length + 1 := by simp [insAt]; omega
theorem insAt_perm (k : Nat) : (insAt c S k).Perm (c :: S) := by
 unfold insAt
 have h := List.perm_middle (a := c) (l₁ := S.take k) (l₂ := S.drop k)
 rwa [List.take_append_drop] at h
theorem insAt_at {k : Nat} (h : k ≤ S.length) (h2 : k < (insAt c S k).length) : (insAt c S k)[k] = c := by
 simp only [insAt]
 rw [List.getElem_append_right (by rw [List.length_take]; omega)]
 simp [Nat.min_eq_left h]
theorem insAt_before {k j : Nat} (h : k ≤ S.length) (hj : j < k) (h2 : j < (insAt c S k).length) : (insAt c S k)[j] = S[j]'(by omega) := by
 simp only [insAt]
 rw [List.getElem_append_left (by simp; omega)]
 simp
theorem insAt_end : insAt c S S.length = S ++ [c] := by simp [insAt]
theorem insAt_swap {k : Nat} (hk : k < S.length) : ((insAt c S (k + 1)).set (k + 1) S[k]).set k c = insAt c S k := by
 apply List.ext_getElem
 ·
  rw [List.length_set, List.length_set, insAt_len (by omega), insAt_len (by omega)]
 ·
  intro i h1 h2
  have hlen : (insAt c S (k + 1)).length = S.length + 1 := insAt_len (by omega)
  have hi : i < S.length + 1 := by simpa [hlen] using h1
  simp only [List.getElem_set, insAt, List.getElem_append, List.length_take, List.getElem_take, List.getElem_cons, List.getElem_drop]
  by_cases e1 : k = i
  ·
   subst e1
   rw [if_pos rfl, dif_neg (by omega), dif_pos (by omega)]
  ·
   rw [if_neg e1]
   by_cases e2 : k + 1 = i
   ·
    subst e2
    rw [if_pos rfl, dif_neg (by omega), dif_neg (by omega)]
    congr 1
    omega
   ·
    rw [if_neg e2]
    by_cases e3 : i < k
    ·
     rw [dif_pos (by omega), dif_pos (by omega)]
    ·
     rw [dif_neg (by omega), dif_neg (by omega), dif_neg (by omega), dif_neg (by omega)]
     congr 1
     omega
theorem insAt_sorted {k : Nat} (hS : S.Pairwise LeU) (hk : k ≤ S.length) (ha : ∀ j (h : j < S.length), k ≤ j → c.toNat ≤ S[j].toNat) (hb : k = 0 ∨ ∃ q, k = q + 1 ∧ ∃ h : q < S.length, S[q].toNat ≤ c.toNat) : (insAt c S k).Pairwise LeU := by
 unfold insAt
 have hle : ∀ i j (hi : i < S.length) (hj : j < S.length), i ≤ j → S[i].toNat ≤ S[j].toNat := by
  intro i j hi hj hij
  rcases Nat.lt_or_ge i j with h | h
  ·
   exact (List.pairwise_iff_getElem.1 hS) i j hi hj h
  ·
   have : i = j := by omega
   subst this; exact Nat.le_refl _
 have hbefore : ∀ x ∈ S.take k, x.toNat ≤ c.toNat := by
  intro x hx
  obtain ⟨i, hi, rfl⟩ := List.getElem_of_mem hx
  have hi2 : i < k ∧ i < S.length := by rw [List.length_take] at hi; omega
  rw [List.getElem_take]
  rcases hb with rfl | ⟨q, rfl, hq, hqc⟩
  ·
   omega
  ·
   exact Nat.le_trans (hle i q hi2.2 hq (by omega)) hqc
 have hafter : ∀ x ∈ S.drop k, c.toNat ≤ x.toNat := by
  intro x hx
  obtain ⟨i, hi, rfl⟩ := List.getElem_of_mem hx
  have hi2 : i < S.length - k := by simpa using hi
  rw [List.getElem_drop]
  exact ha _ (by omega) (by omega)
 rw [List.pairwise_append]
 refine ⟨hS.sublist (List.take_sublist _ _), ?_, ?_⟩
 ·
  rw [List.pairwise_cons]
  exact ⟨hafter, hS.sublist (List.drop_sublist _ _)⟩
 ·
  intro x hx y hy
  rcases List.mem_cons.1 hy with rfl | hy
  ·
   exact hbefore x hx
  ·
   exact Nat.le_trans (hbefore x hx) (hafter y hy)
/-- sorted once more with one put in -/
theorem insAt_putL {l : List UInt8} (hS : S.Pairwise LeU) (hp : l.Perm (S ++ [c])) (hl : l.Pairwise LeU) : l = putL c S :=
 sortedU_ext (hp.trans ((List.perm_append_comm).trans (putL_perm c S).symm)) hl (putL_sorted hS)
end
end Go.Proofs.YtcdfeaodfmfdnaaGreatDoor
/- slices.Sort of a few bytes -/
namespace Go.Proofs.YtcdfeaodfmfdnaaGreatDoor
open Go.RowKit

theorem isnan_any (a : Nat) (w : World) : Calls Tryz.prog 202 #[.int .u8 a] w fun e w' => e = .returned (.bool false) ∧ w' = w := by
 have d : ((a : Int) != (a : Int)) = false := by simp
 go_enter Tryz.func202, Tryz.ntmps202
 go_wp2_with fail
 go_ret
 exact ⟨rfl, rfl⟩
theorem lessB_any (a b : Nat) (w : World) : Calls Tryz.prog 191 #[.int .u8 a, .int .u8 b] w fun e w' => e = .returned (.bool (decide (a < b))) ∧ w' = w := by
 have H := hide (fun a w => isnan_any a w)
 obtain ⟨d, hd⟩ : ∃ d, decide (a < b) = d := ⟨_, rfl⟩
 have hd2 : decide ((a : Int) < (b : Int)) = d := by rw [← hd, Bool.eq_iff_iff]; simp
 have Hd := hide hd
 clear hd
 go_enter Tryz.func191, Tryz.ntmps191
 go_wp2_with (go_at_call 202; refine (H.out _ _).mono ?_; rintro e w' ⟨rfl, rfl⟩)
 go_ret
 exact ⟨by rw [Hd.out] <;> rfl, rfl⟩

theorem app_set {A B : List UInt8} {i : Nat} (h : i < A.length) (x : UInt8) : (A ++ B).set i x = A.set i x ++ B := by rw [List.set_append_left _ _ h]
theorem app_get {A B : List UInt8} {i : Nat} (h : i < A.length) (h2 : i < (A ++ B).length) : (A ++ B)[i] = A[i] := List.getElem_append_left h
theorem take_one_at {l : List UInt8} {i : Nat} (h : i < l.length) : l.drop i = l[i] :: l.drop (i + 1) := List.drop_eq_getElem_cons h
theorem take_perm {l S : List UInt8} {i : Nat} (h : i < l.length) (hp : S.Perm (l.take i)) (k : Nat) : (insAt l[i] S k).Perm (l.take (i + 1)) := by
 rw [List.take_succ_eq_append_getElem h]
 exact (insAt_perm k).trans ((List.Perm.cons _ hp).trans (List.perm_append_singleton _ _).symm)
/-- how far it has come -/
structure Part (l S : List UInt8) (i : Nat) : Prop where
 len : S.length = i
 perm : S.Perm (l.take i)
 sorted : S.Pairwise LeU
theorem Part.next {l S : List UInt8} {i k : Nat} (h : Part l S i) (hi : i < l.length) (hk : k ≤ S.length) (ha : ∀ j (h : j < S.length), k ≤ j → l[i].toNat ≤ S[j].toNat) (hb : k = 0 ∨ ∃ q, k = q + 1 ∧ ∃ h : q < S.length, S[q].toNat ≤ l[i].toNat) : Part l (insAt l[i] S k) (i + 1) :=
 ⟨by rw [insAt_len hk, h.len], take_perm hi h.perm k, insAt_sorted h.sorted hk ha hb⟩
theorem Part.first {l : List UInt8} (h : 0 < l.length) : Part l (l.take 1) 1 :=
 ⟨by rw [List.length_take]; omega, List.Perm.refl _, by
  rw [show l.take 1 = [l[0]] by rw [List.take_succ_eq_append_getElem h]; simp]
  simp⟩

set_option maxHeartbeats 8000000 in
set_option maxRecDepth 100000 in
theorem insB_any (B g cap : Nat) (l : List UInt8) (w : World) (hl : l.length ≤ 12) (h0 : 0 < l.length) (h : BR w B 5 g cap l) :
  Calls Tryz.prog 185 #[.slice (some ⟨g, 0, none⟩) l.length cap, .int .i64 0, .int .i64 l.length] w fun e w' => e = .returned (.tuple #[]) ∧ ∃ l', l'.Perm l ∧ l'.Pairwise LeU ∧ BR w' B 5 g cap l' ∧ Only (fun k => k = g) w w' := by
 have HL := hide (fun a b w => lessB_any a b w)
 have H0 := hide (Part.first h0)
 have Hst := hide (show BR w B 5 g cap (l.take 1 ++ l.drop 1) by rw [List.take_append_drop]; exact h)
 have hcap := h.len
 clear h
 go_enter Tryz.func185, Tryz.ntmps185
 go_wp2_with fail
 go_loopw [6] (fun iv wr => ∃ (i : Nat) (S : List UInt8), 1 ≤ i ∧ i ≤ l.length ∧ iv = .int .i64 i ∧ Part l S i ∧ BR wr B 5 g cap (S ++ l.drop i) ∧ Only (fun k => k = g) w wr) (fun iv _ => l.length - (intOf iv).toNat)
 case atStart => exact ⟨1, _, by omega, by omega, rfl, H0.out, Hst.out, Only.refl _ _⟩
 case round =>
  rename World => wr
  obtain ⟨i, S, hi1, hi, rfl, hpart, hrow, hO⟩ := hrel
  have Hpart := hide hpart
  have HO := hide hO
  have hSl := hpart.len
  clear hpart hO H0 Hst
  by_cases hlt : i < l.length
  ·
   have Hnext := hide (fun k (hk : k ≤ S.length) ha hb => Hpart.out.next hlt hk ha hb)
   have hrow2 : BR wr B 5 g cap (insAt l[i] S i ++ l.drop (i + 1)) := by
    rw [take_one_at hlt] at hrow
    have e : insAt l[i] S i = S ++ [l[i]] := by have := insAt_end (c := l[i]) (S := S); rw [hSl] at this; exact this
    rw [e, List.append_assoc]
    exact hrow
   obtain ⟨c, hc⟩ : ∃ c, l[i] = c := ⟨_, rfl⟩
   rw [hc] at hrow2 Hnext
   obtain ⟨R, hR⟩ : ∃ R, l.drop (i + 1) = R := ⟨_, rfl⟩
   rw [hR] at hrow2
   have Hrow := hide hrow2
   have HR := hide hR
   clear hrow hrow2 hc hR
   go_wp2_with fail
   go_loopw [7] (fun jv wj => ∃ j : Nat, j ≤ i ∧ jv = .int .i64 j ∧ BR wj B 5 g cap (insAt c S j ++ R) ∧ (∀ q (h : q < S.length), j ≤ q → c.toNat ≤ S[q].toNat) ∧ Only (fun k => k = g) w wj) (fun jv _ => (intOf jv).toNat)
   case atStart => exact ⟨i, Nat.le_refl _, rfl, Hrow.out, fun q h hq => by omega, HO.out⟩
   case round =>
    rename World => wj
    obtain ⟨j, hj, rfl, hrow, haft, hO⟩ := hrel
    have Hrow2 := hide hrow
    have Haft := hide haft
    have HO2 := hide hO
    have hlenj : (insAt c S j).length = i + 1 := by rw [insAt_len (by omega), hSl]
    clear hrow haft hO Hrow HO
    by_cases hj0 : j = 0
    ·
     subst hj0
     have Hp := hide (Hnext.out 0 (by omega) Haft.out (.inl rfl))
     have Hrow3 := hide (show BR wj B 5 g cap (insAt c S 0 ++ l.drop (i + 1)) by rw [HR.out]; exact Hrow2.out)
     go_wp2_with fail
     go_quiet (fail)
     go_wp2_with fail
     go_roundw
     case rel => exact ⟨i + 1, _, by omega, by omega, by go_num, Hp.out, Hrow3.out.drewN _, HO2.out.drewN _⟩
     case measure => simp [intOf]; omega
    ·
     obtain ⟨k, hk⟩ : ∃ k, j = k + 1 := ⟨j - 1, by omega⟩
     subst hk
     have ek : ((k + 1 : Nat) : Int) - 1 = (k : Int) := by omega
     have hkd : decide (0 < k + 1) = true := decide_eq_true (by omega)
     have hkS : k < S.length := by omega
     have c1 := Hrow2.out.cell (j := k + 1) (by rw [List.length_append]; omega)
     have c0 := Hrow2.out.cell (j := k) (by rw [List.length_append]; omega)
     rw [app_get (by omega), insAt_at (by omega)] at c1
     rw [app_get (by omega), insAt_before (by omega) (by omega)] at c0
     obtain ⟨x, hx⟩ : ∃ x, S[k] = x := ⟨_, rfl⟩
     rw [hx] at c0
     have f1 := Hrow2.out.free (j := k + 1) (by omega)
     have f0 := Hrow2.out.free (j := k) (by omega)
     have HL2 := hide (HL.out c.toNat x.toNat)
     by_cases hcx : c.toNat < x.toNat
     ·
      have Hsw := hide (show ∀ nq, BR (((wj.drewN nq).setCell ⟨g, k + 1, none⟩ (.int .u8 (x.toNat : Int))).setCell ⟨g, k, none⟩ (.int .u8 (c.toNat : Int))) B 5 g cap (insAt c S k ++ R) from fun nq => by
       have h1 := ((Hrow2.out.drewN nq).set_ (k + 1) x).set_ k c
       rw [app_set (by omega), app_set (by rw [List.length_set]; omega), ← hx, insAt_swap hkS] at h1
       rw [hx] at h1
       exact h1)
      have Haft2 := hide (show ∀ q (h : q < S.length), k ≤ q → c.toNat ≤ S[q].toNat from fun q h hq => by
       by_cases e : q = k
       ·
        subst e; rw [hx]; omega
       ·
        exact Haft.out q h (by omega))
      have hd : decide (c.toNat < x.toNat) = true := decide_eq_true hcx
      rw [hd] at HL2
      clear hcx hx hd
      go_wp2_with fail
      go_quiet ((go_at_call 191; exact Calls.quiet_of_same (HL2.out _)))
      go_wp2_with fail
      go_big_region
      go_wp2_with fail
      go_roundw
      case rel => exact ⟨k, by omega, by go_num, Hsw.out (nq + 1), Haft2.out, ((HO2.out.drewN (nq + 1)).setCell (p := ⟨g, k + 1, none⟩) (.inl rfl) _).setCell (p := ⟨g, k, none⟩) (.inl rfl) _⟩
      case measure => simp [intOf]
     ·
      have Hp := hide (Hnext.out (k + 1) (by omega) Haft.out (.inr ⟨k, rfl, hkS, by rw [hx]; omega⟩))
      have Hrow3 := hide (show BR wj B 5 g cap (insAt c S (k + 1) ++ l.drop (i + 1)) by rw [HR.out]; exact Hrow2.out)
      have hd : decide (c.toNat < x.toNat) = false := decide_eq_false hcx
      rw [hd] at HL2
      clear hcx hx hd
      go_wp2_with fail
      go_quiet ((go_at_call 191; exact Calls.quiet_of_same (HL2.out _)))
      go_wp2_with fail
      go_roundw
      case rel => exact ⟨i + 1, _, by omega, by omega, by go_num, Hp.out, Hrow3.out.drewN _, HO2.out.drewN _⟩
      case measure => simp [intOf]; omega
  ·
   obtain rfl : i = l.length := by omega
   have Hrow := hide (show BR wr B 5 g cap S by rw [List.drop_length, List.append_nil] at hrow; exact hrow)
   have Hp2 := hide (show S.Perm l by have := Hpart.out.perm; rw [List.take_length] at this; exact this)
   clear hrow
   go_wp2_with fail
   refine bodyPost_end (results_none rfl _ _ _) rfl ⟨rfl, _, Hp2.out, Hpart.out.sorted, Hrow.out, HO.out⟩

set_option maxHeartbeats 1000000 in
set_option maxRecDepth 100000 in
theorem pdqB_any (B g cap lim : Nat) (l : List UInt8) (w : World) (hl : l.length ≤ 12) (h0 : 0 < l.length) (h : BR w B 5 g cap l) :
  Calls Tryz.prog 162 #[.slice (some ⟨g, 0, none⟩) l.length cap, .int .i64 0, .int .i64 l.length, .int .i64 lim] w fun e w' => e = .returned (.tuple #[]) ∧ ∃ l', l'.Perm l ∧ l'.Pairwise LeU ∧ BR w' B 5 g cap l' ∧ Only (fun k => k = g) w w' := by
 have H := hide (insB_any B g cap l w hl h0 h)
 have d : decide ((l.length : Int) ≤ 12) = true := decide_eq_true (by omega)
 clear h
 go_enter Tryz.func162, Tryz.ntmps162
 go_wp2_with fail
 go_loopw [1, 2] (fun a b wr => a = .int .i64 0 ∧ b = .int .i64 (l.length : Int) ∧ wr = w) (fun _ _ _ => 0)
 case atStart => exact ⟨rfl, rfl, rfl⟩
 case round =>
  rename World => wr
  obtain ⟨rfl, rfl, rfl⟩ := hrel
  go_wp2_with (go_at_call 185; refine H.out.mono ?_; rintro e w2 ⟨rfl, h2⟩)
  refine bodyPost_ret (results_none rfl _ _ _) rfl ⟨rfl, h2⟩
set_option maxHeartbeats 1000000 in
theorem sortB_any (B g cap : Nat) (l : List UInt8) (w : World) (hl : l.length ≤ 12) (h0 : 0 < l.length) (h : BR w B 5 g cap l) :
  Calls Tryz.prog 130 #[.slice (some ⟨g, 0, none⟩) l.length cap] w fun e w' => e = .returned (.tuple #[]) ∧ ∃ l', l'.Perm l ∧ l'.Pairwise LeU ∧ BR w' B 5 g cap l' ∧ Only (fun k => k = g) w w' := by
 have H := hide (fun lim => pdqB_any B g cap lim l w hl h0 h)
 have HB := hide (fun x w h0 h1 => Tryz.bits_Len x w h0 h1)
 clear h
 go_enter Tryz.func130, Tryz.ntmps130
 go_wp2_with (first
  | (go_at_call 163; refine (HB.out _ _ (by omega) (by omega)).mono ?_; rintro e w2 ⟨rfl, rfl⟩)
  | (go_at_call 162; refine (H.out _).mono ?_; rintro e w2 ⟨rfl, h2⟩))
 refine bodyPost_end (results_none rfl _ _ _) rfl ⟨rfl, h2⟩
end Go.Proofs.YtcdfeaodfmfdnaaGreatDoor
/- slices.Index, slices.Delete of bytes; what a move's making asks of the letters -/
namespace Go.Proofs.YtcdfeaodfmfdnaaGreatDoor
open Go.RowKit Go.Shelf

theorem eqB (T : TypeId) : EqlAt Tryz.prog T (fun x : UInt8 => Value.int .u8 (x.toNat : Int)) (fun x y => x == y) := by
 refine ⟨fun x y w => ?_, fun op a b x y w => (EqlAt.int Tryz.prog T .u8).2 op a b _ _ w⟩
 rw [(EqlAt.int Tryz.prog T .u8).1 (x.toNat : Int) (y.toNat : Int) w]
 congr 2
 rw [Bool.eq_iff_iff]
 simp only [beq_iff_eq]
 constructor
 ·
  intro h; exact UInt8.toNat_inj.1 (by omega)
 ·
  intro h; rw [h]
/-- the first place of a byte -/
structure FirstAt (l : List UInt8) (x : UInt8) (k : Nat) : Prop where
 lt : k < l.length
 at_ : l[k] = x
 none_ : ∀ j (hj : j < l.length), j < k → l[j] ≠ x
 erase : l.erase x = l.eraseIdx k
theorem first_at {x : UInt8} : ∀ {l : List UInt8}, x ∈ l → ∃ k, FirstAt l x k
 | [], h => by simp at h
 | y :: l, h => by
  by_cases e : y = x
  ·
   subst e
   exact ⟨0, by simp, rfl, fun j _ h => by omega, by simp⟩
  ·
   obtain ⟨k, h1, h2, h3, h4⟩ := first_at (l := l) ((List.mem_cons.1 h).resolve_left (fun h => e h.symm))
   refine ⟨k + 1, by simpa using h1, by simpa using h2, fun j hj hjk => ?_, ?_⟩
   ·
    cases j with
    | zero => simpa using e
    | succ j => simpa using h3 j (by simpa using hj) (by omega)
   ·
    rw [List.eraseIdx_cons_succ, ← h4, List.erase_cons_tail (by simpa using e)]
theorem indexB_any {B g cap k : Nat} {l : List UInt8} {x : UInt8} {w : World} (hl : l.length ≤ 1000000) (hk : FirstAt l x k) (h : BR w B 5 g cap l) :
  Calls Tryz.prog 129 #[.slice (some ⟨g, 0, none⟩) l.length cap, .int .u8 (x.toNat : Int)] w fun e w' => e = .returned (.int .i64 k) ∧ w' = w := by
 have := AnyE.slices_Index Tryz.indexB (fun x : UInt8 => Value.int .u8 (x.toNat : Int)) (fun x y => x == y) (eqB _) g 0 l.length cap l x w (Nat.le_refl _) (by omega) (fun j hj => by
  rw [Nat.zero_add, h.cell hj, getElem!_pos l j hj])
 refine this.mono ?_
 rintro e w' ⟨rfl, rfl⟩
 refine ⟨?_, rfl⟩
 have hlt := hk.lt
 rw [Go.Lib.idxBy_hit (fun x y : UInt8 => x == y) l l.length k x hk.lt (Nat.le_refl _) (by rw [getElem!_pos l k hk.lt, hk.at_]; simp) (fun j hj => by
  rw [getElem!_pos l j (by omega)]
  have := hk.none_ j (by omega) hj
  simp only [beq_eq_false_iff_ne, ne_eq]
  exact fun e => this e.symm)]
theorem info_u8p : ∃ i, Tryz.prog.info? 5 = some i ∧ i.zero = some (.int .u8 0) ∧ i.size = 1 ∧ i.bytes = 1 := by
 have h : (Tryz.prog.info? 5).map (fun i => (i.zero, i.size, i.bytes)) = some (some (.int .u8 0), 1, 1) := by kernel_rfl
 cases hq : Tryz.prog.info? 5 with
 | none => rw [hq] at h; cases h
 | some i =>
  rw [hq] at h
  simp only [Option.map_some, Option.some.injEq, Prod.mk.injEq] at h
  exact ⟨i, rfl, h.1, h.2.1, h.2.2⟩
theorem deleteB_any {B g cap k : Nat} {l : List UInt8} {w : World} (hk : k < l.length) (h : BR w B 5 g cap l) :
  Calls Tryz.prog 128 #[.slice (some ⟨g, 0, none⟩) l.length cap, .int .i64 (k : Int), .int .i64 ((k : Int) + 1)] w fun e w' => e = .returned (.slice (some ⟨g, 0, none⟩) (l.length - 1) cap) ∧ BR w' B 5 g cap (l.eraseIdx k) ∧ Only (fun b => b = g) w w' := by
 obtain ⟨i0, hi0, iz0, iz1, iz2⟩ := info_u8p
 have hone : OneCell (fun x : UInt8 => Value.int .u8 (x.toNat : Int)) := fun x => rfl
 have hH : Go.Sort.Holds (fun x : UInt8 => Value.int .u8 (x.toNat : Int)) w g 0 l.toArray := by
  intro j hj
  have hj2 : j < l.length := by simpa using hj
  rw [Nat.zero_add, h.cell hj2, getElem!_pos l.toArray j hj]
  exact ⟨by simp, h.free (by have := h.len; omega)⟩
 have := AnyE.slices_Delete Tryz.deleteB (fun x : UInt8 => Value.int .u8 (x.toNat : Int)) hone 0 (fun w => Tryz.zeroValue5 w) i0 hi0 iz1 g 0 cap k (k + 1) l.toArray w hH (by simpa using h.len) (by have := h.most; simp only [maxLen] at this; omega) (by omega) (by simp; omega)
 refine this.mono ?_
 rintro e w' ⟨rfl, q, rfl⟩
 have e1 : l.toArray.size - (k + 1 - k) = l.length - 1 := by simp
 have e2 : (List.take k l.toArray.toList ++ List.drop (k + 1) l.toArray.toList ++ List.replicate (k + 1 - k) (0 : UInt8)).toArray = (l.eraseIdx k ++ [0]).toArray := by
  rw [List.eraseIdx_eq_take_drop_succ]
  simp [show k + 1 - k = 1 by omega]
 rw [e2]
 obtain ⟨h1, h2⟩ := h.putRow q (l.eraseIdx k) [0] (by rw [List.length_eraseIdx_of_lt hk]; simp; omega)
 exact ⟨by rw [e1], h1, h2⟩

/-! letters -/
/-- what is taken, as a letter of the hand -/
theorem letG_take {c : Nat} {t : Int} (ht : t = 0 ∨ t = 1) (hc : cellB c = true) (h46 : c ≠ 46) (hown : ownN c ≠ t) : letG c (1 - t) = capN c := by
 have hm : upB c = true ∨ lowB c = true := by
  have : c = 46 ∨ upB c = true ∨ lowB c = true := by simpa [cellB] using hc
  exact this.resolve_left h46
 unfold letG
 rcases ht with rfl | rfl
 ·
  rw [if_pos (by decide)]
  rcases hm with hu | hlo
  ·
   exact absurd (by unfold ownN; rw [if_pos hu]) hown
  ·
   have hn : upB c = false := by
    have := lowB_lt hlo
    simp only [lowB, decide_eq_true_eq] at hlo
    simp [upB]; omega
   unfold otherN capN
   rw [hlo, hn]
   simp
 ·
  rw [if_neg (by decide)]
  rcases hm with hu | hlo
  ·
   rw [capN_up hu]
  ·
   have hn : upB c = false := by
    simp only [lowB, decide_eq_true_eq] at hlo
    simp [upB]; omega
   exact absurd (by unfold ownN; rw [hn, hlo]; simp) hown
end Go.Proofs.YtcdfeaodfmfdnaaGreatDoor
/- moves.apply -/
namespace Go.Proofs.YtcdfeaodfmfdnaaGreatDoor
open Go.RowKit

/-- the four boxes of a call of apply -/
structure ApSt (W : World) (R P M Z : Array Value) (w : World) : Prop where
 r : Blk w W.heap.size 27 R
 p : Blk w (W.heap.size + 1) 24 P
 m : Blk w (W.heap.size + 1 + 1) 101 M
 z : Blk w (W.heap.size + 1 + 1 + 1) 24 Z
 later : Later W w
section
variable {W w w' : World} {R P M Z : Array Value}
theorem ApSt.lt (h : ApSt W R P M Z w) : W.heap.size + 4 ≤ w.heap.size := h.z.lt
theorem ApSt.only {S : Nat → Prop} (h : ApSt W R P M Z w) (ho : Only S w w') (hS : ∀ k, S k → W.heap.size + 4 ≤ k) : ApSt W R P M Z w' :=
 ⟨h.r.only ho (fun k => by have := hS _ k; omega), h.p.only ho (fun k => by have := hS _ k; omega), h.m.only ho (fun k => by have := hS _ k; omega), h.z.only ho (fun k => by have := hS _ k; omega),
  Below.trans h.later (ho.below_ (B := W.heap.size) (fun k hk => by have := hS k hk; omega) (by have := h.z.lt; omega))⟩
theorem ApSt.drewN (h : ApSt W R P M Z w) (n : Nat) : ApSt W R P M Z (w.drewN n) := ⟨h.r.drewN n, h.p.drewN n, h.m.drewN n, h.z.drewN n, h.later.drewN n⟩
theorem ApSt.drew (h : ApSt W R P M Z w) : ApSt W R P M Z w.drew := ⟨h.r.drewN 1, h.p.drewN 1, h.m.drewN 1, h.z.drewN 1, h.later.drew⟩
theorem ApSt.setp (h : ApSt W R P M Z w) (i : Nat) (v : Value) : ApSt W R (P.setIfInBounds i v) M Z (w.setCell ⟨W.heap.size + 1, i, none⟩ v) := by
 have ho := (Only.refl (fun b => b = W.heap.size + 1) w).setCell (p := ⟨W.heap.size + 1, i, none⟩) (.inl rfl) v
 exact ⟨h.r.only ho (by omega), h.p.set_ i v, h.m.only ho (by omega), h.z.only ho (by omega), h.later.set (by simp) v⟩
theorem ApSt.first : ApSt W R P M Z ((((W.alloc (.cells R 27)).alloc (.cells P 24)).alloc (.cells M 101)).alloc (.cells Z 24)) := by
 refine ⟨(((Blk.new W _ R).alloc _).alloc _).alloc _, ?_, ?_, ?_, (((Later.rfl.alloc _).alloc _).alloc _).alloc _⟩
 ·
  have := ((Blk.new (W.alloc (.cells R 27)) 24 P).alloc (.cells M 101)).alloc (.cells Z 24)
  rwa [World.size_alloc] at this
 ·
  have := (Blk.new ((W.alloc (.cells R 27)).alloc (.cells P 24)) 101 M).alloc (.cells Z 24)
  rwa [World.size_alloc, World.size_alloc] at this
 ·
  have := Blk.new (((W.alloc (.cells R 27)).alloc (.cells P 24)).alloc (.cells M 101)) 24 Z
  rwa [World.size_alloc, World.size_alloc, World.size_alloc] at this
end
theorem Blk.mv {w : World} {g : Nat} {t : TypeId} {a b c : Value} (h : Blk w g t #[a, b, c]) : (w.cell? ⟨g, 0, none⟩ = some a ∧ w.cell? ⟨g, 1, none⟩ = some b ∧ w.cell? ⟨g, 2, none⟩ = some c) ∧ w.frozen? ⟨g, 0, none⟩ = false :=
 ⟨⟨h.cellv rfl, h.cellv rfl, h.cellv rfl⟩, h.free _⟩
def apCells (L : List UInt8) (mf : Int) (mt : Nat) (c : UInt8) : List UInt8 := if mf < 0 then L.set mt c else (L.set mt c).set mf.toNat 46
def apLeft (HL : List UInt8) (mf : Int) (c : UInt8) : List UInt8 := if mf < 0 then HL.erase c else HL
def apHand (HL : List UInt8) (t8 : UInt8) (dr : Bool) : List UInt8 := if t8.toNat != 46 && dr && decide (HL.length < 8) then putL (u8 (capN t8.toNat)) HL else HL

set_option maxHeartbeats 8000000 in
set_option maxRecDepth 100000 in
theorem apply_core (r : RulesD) (A : Option Addr) (cp : Nat) (pw ph : Int) (C : ByteArray) (tn : Nat) (h0 h1 : ByteArray) (mf : Int) (mt : Nat) (c : UInt8) (W : World) (H : ByteArray)
  (htn : tn ≤ 1) (hHdef : H = if tn = 0 then h0 else h1) (hmt : mt < C.size) (hC : C.size ≤ 64) (hHs : H.size ≤ 8) (hsort : H.data.toList.Pairwise LeU)
  (hmf : (mf = -1 ∧ c ∈ H.data.toList) ∨ ∃ fn : Nat, mf = (fn : Int) ∧ fn < C.size) (hup : upB c.toNat = true) (t8 : UInt8) (ht8 : C.data.toList[mt]? = some t8) (htk : t8.toNat ≠ 46 → letG t8.toNat (1 - (tn : Int)) = capN t8.toNat) :
  Calls Tryz.prog 98 #[.agg #[.int .i64 r.start.w, .int .i64 r.start.h, .string r.start.cells, .int .i64 r.start.turn, .string r.start.h0, .string r.start.h1, .slice A r.pieces.length cp, .bool r.drops, .int .u8 r.lose, .int .i64 r.line, .int .u8 r.reach, .bool r.stuck, .int .i64 r.plies], .agg #[.int .i64 pw, .int .i64 ph, .string C, .int .i64 tn, .string h0, .string h1], .agg #[.int .i64 mf, .int .i64 mt, .int .u8 c.toNat]] W fun e w' =>
   e = .returned (.agg #[.int .i64 pw, .int .i64 ph, .string (bytes (apCells C.data.toList mf mt (u8 (letN c.toNat tn)))), .int .i64 (1 - (tn : Int)), .string (if tn = 0 then bytes (apHand (apLeft H.data.toList mf c) t8 r.drops) else h0), .string (if tn = 0 then h1 else bytes (apHand (apLeft H.data.toList mf c) t8 r.drops))]) ∧ Later W w' := by
 have Hst := hide (ApSt.first (W := W) (R := #[.int .i64 r.start.w, .int .i64 r.start.h, .string r.start.cells, .int .i64 r.start.turn, .string r.start.h0, .string r.start.h1, .slice A r.pieces.length cp, .bool r.drops, .int .u8 r.lose, .int .i64 r.line, .int .u8 r.reach, .bool r.stuck, .int .i64 r.plies]) (P := #[.int .i64 pw, .int .i64 ph, .string C, .int .i64 tn, .string h0, .string h1]) (M := #[.int .i64 mf, .int .i64 mt, .int .u8 c.toNat]) (Z := #[.int .i64 0, .int .i64 0, .string ⟨#[]⟩, .int .i64 0, .string ⟨#[]⟩, .string ⟨#[]⟩]))
 obtain ⟨d, hd⟩ : ∃ d, u8 (letN c.toNat tn) = d := ⟨_, rfl⟩
 have Hl1 := hide (fun w => show Calls Tryz.prog 127 #[.int .u8 c.toNat, .int .i64 tn] w (fun e w' => e = .returned (.int .u8 d.toNat) ∧ w' = w) from by
  rw [← hd, u8_nat (letN_lt hup _), ← letG_up hup]; exact mv_letter_any c.toNat tn w)
 have hcap : capN t8.toNat < 256 := by
  have := t8.toNat_lt
  unfold capN; split <;> omega
 obtain ⟨x, hx⟩ : ∃ x, u8 (capN t8.toNat) = x := ⟨_, rfl⟩
 have Hl2 := hide (fun (h : t8.toNat ≠ 46) w => show Calls Tryz.prog 127 #[.int .u8 t8.toNat, .int .i64 (1 - (tn : Int))] w (fun e w' => e = .returned (.int .u8 x.toNat) ∧ w' = w) from by
  rw [← hx, u8_nat hcap, ← htk h]; exact mv_letter_any t8.toNat (1 - (tn : Int)) w)
 have Hx := hide hx
 clear hx hcap
 obtain ⟨CC, hCC⟩ : ∃ CC, apCells C.data.toList mf mt d = CC := ⟨_, rfl⟩
 obtain ⟨LH, hLH⟩ : ∃ LH, apLeft H.data.toList mf c = LH := ⟨_, rfl⟩
 obtain ⟨HH, hHH⟩ : ∃ HH, apHand LH t8 r.drops = HH := ⟨_, rfl⟩
 have hL8 : LH.length ≤ 8 := by
  have : H.data.toList.length = H.size := rfl
  rw [← hLH]; unfold apLeft; split
  ·
   have := List.length_erase_le (a := c) (l := H.data.toList); omega
  ·
   omega
 have HLs := hide (show LH.Pairwise LeU by
  rw [← hLH]; unfold apLeft; split
  ·
   exact hsort.sublist List.erase_sublist
  ·
   exact hsort)
 obtain ⟨u0, hu0⟩ : ∃ u0, (if tn = 0 then bytes HH else h0) = u0 := ⟨_, rfl⟩
 obtain ⟨u1, hu1⟩ : ∃ u1, (if tn = 0 then h1 else bytes HH) = u1 := ⟨_, rfl⟩
 rw [hd, hCC, hLH, hHH, hu0, hu1]
 have Hu0 := hide hu0
 have Hu1 := hide hu1
 clear hu0 hu1
 have HCC := hide hCC
 have HLH := hide hLH
 have HHH := hide hHH
 clear hd htk hup hCC hLH hHH hsort
 go_enter Tryz.func98, Tryz.ntmps98
 go_upto_region 1 with (fail)
 obtain ⟨w0, hw0⟩ : ∃ w0, ((((W.alloc (.cells #[.int .i64 r.start.w, .int .i64 r.start.h, .string r.start.cells, .int .i64 r.start.turn, .string r.start.h0, .string r.start.h1, .slice A r.pieces.length cp, .bool r.drops, .int .u8 r.lose, .int .i64 r.line, .int .u8 r.reach, .bool r.stuck, .int .i64 r.plies] 27)).alloc (.cells #[.int .i64 pw, .int .i64 ph, .string C, .int .i64 tn, .string h0, .string h1] 24)).alloc (.cells #[.int .i64 mf, .int .i64 mt, .int .u8 c.toNat] 101)).alloc (.cells #[.int .i64 0, .int .i64 0, .string ⟨#[]⟩, .int .i64 0, .string ⟨#[]⟩, .string ⟨#[]⟩] 24)) = w0 := ⟨_, rfl⟩
 rw [hw0] at Hst ⊢
 clear hw0
 obtain ⟨p0, p1, p2, p3, p4, p5⟩ := Hst.out.p.pos6
 obtain ⟨⟨m0, m1, m2⟩, -⟩ := Hst.out.m.mv
 obtain ⟨cA, w1, hcv, hO1, hs1, hA1⟩ := BR.of_text (P := Tryz.prog) (T := 5) w0 9 96 C (by unfold maxLen; omega) Tryz.underlying9 Tryz.underlying96 Tryz.underlying5
 have Hst1 := hide (Hst.out.only hO1 (fun _ h => h.elim))
 have Hlt0 := hide Hst.out.lt
 have HA1 := hide hA1
 obtain ⟨gA, hgA⟩ : ∃ gA, w0.heap.size = gA := ⟨_, rfl⟩
 rw [hgA] at hcv HA1 Hlt0 hs1
 have Hs1 := hide hs1
 clear hgA hO1 hs1 hA1 Hst
 have hlen : C.data.toList.length = C.size := rfl
 have hx8 : C.data.toList[mt]'(by omega) = t8 := by
  rw [List.getElem?_eq_getElem (by omega)] at ht8
  injection ht8
 have k8 := HA1.out.cell (j := mt) (by omega)
 rw [hx8] at k8
 have f8 := HA1.out.free (j := mt) (by have := HA1.out.len; omega)
 have Hx8 := hide hx8
 clear hx8 ht8
 have j1 : (0 : Int) ≤ (mt : Int) := by omega
 have j2 : (mt : Int) < (C.size : Int) := by omega
 go_upto_region 2 with (fail)
 obtain ⟨q0, q1, q2, q3, q4, q5⟩ := Hst1.out.p.pos6
 obtain ⟨⟨n0, n1, n2⟩, -⟩ := Hst1.out.m.mv
 go_upto_region 3 with (fail)
 refine wp_region_still_tail 9 (by kernel_rfl) (by kernel_rfl) ?_
 simp only [List.take_succ_cons, List.take_zero, List.drop_succ_cons, List.drop_zero]
 repeat (first | still_step | still_call (Hl1.out _))
 refine wpStill_nil ?_
 have HA2 := hide HA1.out.drew
 have Hst2 := hide Hst1.out.drew
 have f9 := HA2.out.free (j := mt) (by have := HA2.out.len; omega)
 have k9 := HA2.out.cell (j := mt) (by omega)
 have Hs2 : Hid (w1.drew.heap.size = gA + 1) := Hs1.out
 clear f8 k8 q0 q1 q2 q3 q4 q5 n0 n1 n2 HA1 Hst1 Hs1 p0 p1 p2 p3 p4 p5 m0 m1 m2 hcv
 obtain ⟨w2, hw2⟩ : ∃ w2, w1.drew = w2 := ⟨_, rfl⟩
 change wpList _ _ _ _ _ w1.drew
 rw [hw2] at HA2 Hst2 f9 k9 Hs2 ⊢
 clear hw2
 go_upto_region 4 with (fail)
 have HA3 := hide (show BR (w2.setCell ⟨gA, mt, none⟩ (.int .u8 d.toNat)) gA 5 gA cA (C.data.toList.set mt d) from HA2.out.set_ mt d)
 have Hst3 := hide (Hst2.out.only ((Only.refl (fun b => b = gA) w2).setCell (p := ⟨gA, mt, none⟩) (.inl rfl) (.int .u8 d.toNat)) (fun k hk => by rw [hk]; exact Hlt0.out))
 have Hs3 : Hid ((w2.setCell ⟨gA, mt, none⟩ (.int .u8 d.toNat)).heap.size = gA + 1) := hide (by rw [← Hs2.out]; simp)
 clear HA2 Hst2 Hs2 f9 k9
 obtain ⟨w3, hw3⟩ : ∃ w3, w2.setCell ⟨gA, mt, none⟩ (.int .u8 d.toNat) = w3 := ⟨_, rfl⟩
 rw [hw3] at HA3 Hst3 Hs3 ⊢
 clear hw3
 have hHt : (#[Value.int .i64 pw, .int .i64 ph, .string C, .int .i64 tn, .string h0, .string h1])[4 + tn]? = some (.string H) := by
  have : tn = 0 ∨ tn = 1 := by omega
  rcases this with rfl | rfl <;> simp [hHdef]
 have HHt := hide hHt
 have HHdef := hide hHdef
 clear hHt hHdef
 obtain ⟨p0, p1, p2, p3, p4, p5⟩ := Hst3.out.p.pos6
 have pH := Hst3.out.p.cellv HHt.out
 have t0 : (0 : Int) ≤ (tn : Int) := by omega
 have t1 : (tn : Int) < 2 := by omega
 obtain ⟨cH, w4, hcv, hO4, hs4, hA4⟩ := BR.of_text (P := Tryz.prog) (T := 5) w3 9 96 H (by unfold maxLen; omega) Tryz.underlying9 Tryz.underlying96 Tryz.underlying5
 have HA4 := hide (HA3.out.only hO4 id)
 have Hst4 := hide (Hst3.out.only hO4 (fun _ h => h.elim))
 rw [Hs3.out] at hcv hA4 hs4
 have HB4 := hide hA4
 have Hs4 : Hid (w4.heap.size = gA + 1 + 1) := hide hs4
 clear hO4 hs4 hA4
 go_upto_region 5 with (fail)
 clear p0 p1 p2 p3 p4 p5 pH hcv
 obtain ⟨⟨m0, m1, m2⟩, -⟩ := Hst4.out.m.mv
 go_upto_if 35 with (fail)
 go_cut [9] (fun hv wx => hv = .slice (some ⟨gA + 1, 0, none⟩) LH.length cH ∧ BR wx gA 5 gA cA CC ∧ BR wx (gA + 1) 5 (gA + 1) cH LH ∧
  ApSt W #[.int .i64 r.start.w, .int .i64 r.start.h, .string r.start.cells, .int .i64 r.start.turn, .string r.start.h0, .string r.start.h1, .slice A r.pieces.length cp, .bool r.drops, .int .u8 r.lose, .int .i64 r.line, .int .u8 r.reach, .bool r.stuck, .int .i64 r.plies] #[.int .i64 pw, .int .i64 ph, .string C, .int .i64 tn, .string h0, .string h1] #[.int .i64 mf, .int .i64 mt, .int .u8 c.toNat] #[.int .i64 0, .int .i64 0, .string ⟨#[]⟩, .int .i64 0, .string ⟨#[]⟩, .string ⟨#[]⟩] wx)
 case first =>
  rcases hmf with ⟨hm1, hcin⟩ | ⟨fn, hm1, hfn⟩
  ·
   obtain ⟨k, hk⟩ := first_at hcin
   have hklt := hk.lt
   have hHl : H.data.toList.length = H.size := rfl
   have e1 : CC = C.data.toList.set mt d := by rw [← HCC.out]; unfold apCells; rw [if_pos (by omega)]
   have e2 : LH = H.data.toList.eraseIdx k := by rw [← HLH.out]; unfold apLeft; rw [if_pos (by omega), hk.erase]
   have e3 : (H.data.toList.eraseIdx k).length = H.size - 1 := by rw [List.length_eraseIdx_of_lt hk.lt]; rfl
   have E1 := hide e1
   have E2 := hide e2
   have E3 := hide e3
   have d1 : decide (mf ≥ 0) = false := decide_eq_false (by omega)
   have d2 : decide (0 ≤ mf) = false := d1
   have d3 : ¬ (0 ≤ mf) := by omega
   have Hix := hide (show Calls Tryz.prog 129 #[.slice (some ⟨gA + 1, 0, none⟩) H.size cH, .int .u8 c.toNat] w4.drew (fun e w' => e = .returned (.int .i64 (k : Int)) ∧ w' = w4.drew) from indexB_any (by omega) hk HB4.out.drew)
   have Hdl := hide (show Calls Tryz.prog 128 #[.slice (some ⟨gA + 1, 0, none⟩) H.size cH, .int .i64 (k : Int), .int .i64 ((k : Int) + 1)] w4.drew (fun e w' => e = .returned (.slice (some ⟨gA + 1, 0, none⟩) (H.size - 1) cH) ∧ BR w' (gA + 1) 5 (gA + 1) cH (H.data.toList.eraseIdx k) ∧ Only (fun b => b = gA + 1) w4.drew w') from deleteB_any hklt HB4.out.drew)
   clear e1 e2 e3 hcin hk hm1
   go_upto_region 7 with (fail)
   refine wp_region_still_tail 10 (by kernel_rfl) (by kernel_rfl) ?_
   simp only [List.take_succ_cons, List.take_zero, List.drop_succ_cons, List.drop_zero]
   repeat (first | still_step | still_call Hix.out)
   refine wpStill_nil ?_
   have Hst5 := hide Hst4.out.drew
   have HA5 := hide HA4.out.drew
   obtain ⟨w5, hw5⟩ : ∃ w5, w4.drew = w5 := ⟨_, rfl⟩
   change wpList _ _ _ _ _ w4.drew
   rw [hw5] at Hdl Hst5 HA5 ⊢
   clear hw5
   go_wp2_with (go_at_call 128; refine Hdl.out.mono ?_; rintro e w6 ⟨rfl, hb6, ho6⟩)
   go_meet
   case rel =>
    rw [E1.out, E2.out, E3.out]
    exact ⟨rfl, HA5.out.only ho6 (by omega), hb6, Hst5.out.only ho6 (fun k hk => by have := Hlt0.out; omega)⟩
  ·
   have e1 : CC = (C.data.toList.set mt d).set fn 46 := by rw [← HCC.out]; unfold apCells; rw [if_neg (by omega), hm1]; rfl
   have e2 : LH = H.data.toList := by rw [← HLH.out]; unfold apLeft; rw [if_neg (by omega)]
   have E1 := hide e1
   have E2 := hide e2
   have d1 : decide (mf ≥ 0) = true := decide_eq_true (by omega)
   clear e1 e2
   have hcl := HA4.out.len
   rw [List.length_set] at hcl
   have i1 : (0 : Int) ≤ (fn : Int) := by omega
   have i2 : (fn : Int) < (C.size : Int) := by omega
   have f1 := HA4.out.free (j := fn) (by omega)
   have k1 := HA4.out.cell (j := fn) (by rw [List.length_set]; omega)
   subst hm1
   go_wp2_with fail
   go_meet
   case rel =>
    rw [E1.out, E2.out]
    exact ⟨rfl, HA4.out.set_ fn 46, HB4.out.set_other (by omega) _, Hst4.out.only ((Only.refl (fun b => b = gA) w4).setCell (p := ⟨gA, fn, none⟩) (.inl rfl) _) (fun k hk => by have := Hlt0.out; omega)⟩
 case rest =>
  obtain ⟨rfl, hA, hB, hst⟩ := hcut
  rename World => w5
  have HA5 := hide hA
  have HB5 := hide hB
  have Hst5 := hide hst
  clear hA hB hst HA4 HB4 Hst4 hmf m0 m1 m2
  obtain ⟨x0, x1, x2, x3, x4, x5, x6, x7, x8, x9, x10, x11, x12⟩ := Hst5.out.r.rules
  obtain ⟨b, hb⟩ : ∃ b, (t8.toNat != 46 && r.drops && decide (LH.length < 8)) = b := ⟨_, rfl⟩
  have Hb := hide hb
  clear hb
  go_upto_region 8 with (fail)
  go_cut [61] (fun s wx => s = .bool b ∧ wx = w5)
  case first =>
   have hb := Hb.out
   obtain ⟨dr, hdr⟩ : ∃ dr, r.drops = dr := ⟨_, rfl⟩
   rw [hdr] at hb x7
   clear hdr
   by_cases h46 : t8.toNat = 46
   ·
    have d1 : ((t8.toNat : Int) != 46) = false := by simp; omega
    have hb2 : b = false := by rw [← hb, h46]; rfl
    clear hb h46
    subst hb2
    go_wp2_with fail
    go_meet
    case rel => exact ⟨rfl, rfl⟩
   ·
    have d1 : ((t8.toNat : Int) != 46) = true := by simp; omega
    have e46 : (t8.toNat != 46) = true := by simp only [bne_iff_ne, ne_eq]; exact h46
    have hb2 : (dr && decide (LH.length < 8)) = b := by rw [e46, Bool.true_and] at hb; exact hb
    clear e46
    have Hb2 := hide hb2
    clear hb h46 hb2
    have d2 : decide ((LH.length : Int) < 8) = decide (LH.length < 8) := by rw [Bool.eq_iff_iff]; simp; omega
    obtain ⟨q, hq⟩ : ∃ q, decide (LH.length < 8) = q := ⟨_, rfl⟩
    rw [hq] at d2 Hb2
    clear hq
    cases dr <;> cases q
    all_goals
     go_wp2_with fail
     go_meet
     case rel => exact ⟨by rw [← Hb2.out] <;> rfl, rfl⟩
  case rest =>
   obtain ⟨rfl, rfl⟩ := hcut
   rename World => w5
   clear x0 x1 x2 x3 x4 x5 x6 x7 x8 x9 x10 x11 x12
   go_upto_if 61 with (fail)
   go_cut [9] (fun hv wx => ∃ gh ch, hv = .slice (some ⟨gh, 0, none⟩) HH.length ch ∧ BR wx gA 5 gA cA CC ∧ BR wx (gA + 1) 5 gh ch HH ∧
    ApSt W #[.int .i64 r.start.w, .int .i64 r.start.h, .string r.start.cells, .int .i64 r.start.turn, .string r.start.h0, .string r.start.h1, .slice A r.pieces.length cp, .bool r.drops, .int .u8 r.lose, .int .i64 r.line, .int .u8 r.reach, .bool r.stuck, .int .i64 r.plies] #[.int .i64 pw, .int .i64 ph, .string C, .int .i64 tn, .string h0, .string h1] #[.int .i64 mf, .int .i64 mt, .int .u8 c.toNat] #[.int .i64 0, .int .i64 0, .string ⟨#[]⟩, .int .i64 0, .string ⟨#[]⟩, .string ⟨#[]⟩] wx)
   case first =>
    cases b
    ·
     have hh : HH = LH := by rw [← HHH.out]; unfold apHand; rw [Hb.out]; rfl
     have Hh := hide hh
     clear hh
     go_wp2_with fail
     go_meet
     case rel => exact ⟨gA + 1, cH, by rw [Hh.out] <;> rfl, HA5.out, by rw [Hh.out]; exact HB5.out, Hst5.out⟩
    ·
     have hh : HH = putL x LH := by rw [← HHH.out, ← Hx.out]; unfold apHand; rw [Hb.out]; rfl
     have h46 : t8.toNat ≠ 46 := fun e => by have := Hb.out; rw [e] at this; simp at this
     have Hh := hide hh
     have Hl3 := hide (Hl2.out h46)
     clear hh h46
     have s1 : IntKind.i64.wrap (1 - (tn : Int)) = 1 - (tn : Int) := IntWalk.i64_in _ (by omega)
     obtain ⟨p0, p1, p2, p3, p4, p5⟩ := Hst5.out.p.pos6
     obtain ⟨i0, hi0, iz0, iz1, iz2⟩ := info_u8p
     have Hi0 := hide hi0
     have Iz0 := hide iz0
     have Iz1 := hide iz1
     have Iz2 := hide iz2
     have Hlt5 := hide Hst5.out.lt
     have hgA5 := HB5.out.lt
     clear hi0 iz0 iz1 iz2
     go_wp2_with (first
      | (go_at_call 127; refine (Hl3.out _).mono ?_; rintro e w' ⟨rfl, hw'⟩; rw [hw']; clear hw')
      | (at_builtin; refine wpList_appendB _ rfl (.tmp 62) (.tmp 68) 96 rfl 5 i0 Tryz.underlying96 Hi0.out Iz0.out Iz1.out Iz2.out (gA + 1) (gA + 1) cH LH LH.length rfl rfl (HB5.out.alloc _) (by omega) ?_ w5.heap.size x rfl ((Blk.new w5 _ _).cellv rfl) ?_))
     ·
      rw [World.size_alloc]; omega
     intro g6 c6 w6 hB6 hO6 hg6
     have hO6a := ((Only.refl (fun k => k = gA + 1) w5).alloc (.cells #[.int .u8 x.toNat] 5)).trans hO6
     have HA6 := hide (HA5.out.only hO6a (by omega))
     have Hst6 := hide (Hst5.out.only hO6a (fun k hk => by have := Hlt0.out; omega))
     have hgA := HA5.out.lt
     have hng : gA ≠ g6 := by rcases hg6 with h | h <;> omega
     have hbase6 := hB6.base
     have Hsb := hide (sortB_any (gA + 1) g6 c6 (LH ++ [x]) w6 (by simp; omega) (by simp) hB6)
     have hlen6 : (LH ++ [x]).length = LH.length + 1 := by simp
     rw [hlen6] at Hsb
     clear hO6a hO6 hg6 hB6
     go_wp2_with (go_at_call 130; refine Hsb.out.mono ?_; rintro e w7 ⟨rfl, l', hl1, hl2, hl3, hl4⟩)
     go_meet
     case rel =>
      have hll := insAt_putL (c := x) HLs.out hl1 hl2
      rw [hll] at hl3
      refine ⟨g6, c6, by rw [Hh.out, putL_len] <;> rfl, HA6.out.only hl4 hng, by rw [Hh.out]; exact hl3, Hst6.out.only hl4 (fun k hk => by have := Hlt0.out; omega)⟩
   case rest =>
    obtain ⟨gh, ch, rfl, hA, hB, hst⟩ := hcut
    rename World => w6
    have HA6 := hide hA
    have HB6 := hide hB
    have Hst6 := hide hst
    have hgh := hB.base
    clear hA hB hst HA5 HB5 Hst5 hL8 HLs Hb Hl1 Hl2
    have htx := HB6.out.text (P := Tryz.prog) 96 9 Tryz.underlying96 Tryz.underlying5 Tryz.underlying9
    obtain ⟨p0, p1, p2, p3, p4, p5⟩ := Hst6.out.p.pos6
    have pH := Hst6.out.p.cellv HHt.out
    have f4 := Hst6.out.p.free (4 + tn)
    go_upto_region 12 with (fail)
    have HA7 := hide (HA6.out.set_other (k := W.heap.size + 1) (i := 4 + tn) (by have := Hlt0.out; omega) (.string (bytes HH)))
    have hP7 : (#[Value.int .i64 pw, .int .i64 ph, .string C, .int .i64 tn, .string h0, .string h1]).setIfInBounds (4 + tn) (.string (bytes HH)) = #[Value.int .i64 pw, .int .i64 ph, .string C, .int .i64 tn, .string u0, .string u1] := by
     have : tn = 0 ∨ tn = 1 := by omega
     rw [← Hu0.out, ← Hu1.out]
     rcases this with rfl | rfl <;> simp
    have hst7 := Hst6.out.setp (4 + tn) (.string (bytes HH))
    rw [hP7] at hst7
    have Hst7 := hide hst7
    obtain ⟨w7, hw7⟩ : ∃ w7, w6.setCell ⟨W.heap.size + 1, 4 + tn, none⟩ (.string (bytes HH)) = w7 := ⟨_, rfl⟩
    rw [hw7] at HA7 Hst7 ⊢
    clear hw7 hst7 hP7 HA6 HB6 Hst6 p0 p1 p2 p3 p4 p5 pH f4 htx
    have hlen7 : CC.length = C.size := by
     have : C.data.toList.length = C.size := rfl
     rw [← HCC.out]; unfold apCells; split <;> simp [this]
    have htx := HA7.out.text (P := Tryz.prog) 96 9 Tryz.underlying96 Tryz.underlying5 Tryz.underlying9
    rw [hlen7] at htx
    obtain ⟨p0, p1, p2, p3, p4, p5⟩ := Hst7.out.p.pos6
    have f2 := Hst7.out.p.free 2
    have f3 := Hst7.out.p.free 3
    have s1 : IntKind.i64.wrap (1 - (tn : Int)) = 1 - (tn : Int) := IntWalk.i64_in _ (by omega)
    go_upto_region 13 with (fail)
    have Hst8 := hide (show ApSt W #[.int .i64 r.start.w, .int .i64 r.start.h, .string r.start.cells, .int .i64 r.start.turn, .string r.start.h0, .string r.start.h1, .slice A r.pieces.length cp, .bool r.drops, .int .u8 r.lose, .int .i64 r.line, .int .u8 r.reach, .bool r.stuck, .int .i64 r.plies] #[.int .i64 pw, .int .i64 ph, .string (bytes CC), .int .i64 (1 - (tn : Int)), .string u0, .string u1] #[.int .i64 mf, .int .i64 mt, .int .u8 c.toNat] #[.int .i64 0, .int .i64 0, .string ⟨#[]⟩, .int .i64 0, .string ⟨#[]⟩, .string ⟨#[]⟩] ((w7.setCell ⟨W.heap.size + 1, 2, none⟩ (.string (bytes CC))).setCell ⟨W.heap.size + 1, 3, none⟩ (.int .i64 (1 - (tn : Int)))) from (Hst7.out.setp 2 (.string (bytes CC))).setp 3 (.int .i64 (1 - (tn : Int))))
    obtain ⟨w8, hw8⟩ : ∃ w8, (w7.setCell ⟨W.heap.size + 1, 2, none⟩ (.string (bytes CC))).setCell ⟨W.heap.size + 1, 3, none⟩ (.int .i64 (1 - (tn : Int))) = w8 := ⟨_, rfl⟩
    rw [hw8] at Hst8 ⊢
    clear hw8 HA7 Hst7 p0 p1 p2 p3 p4 p5 f2 f3 htx
    obtain ⟨p0, p1, p2, p3, p4, p5⟩ := Hst8.out.p.pos6
    refine wp_region_lit ?_
    refine wpList_plain rfl (fun K hK => ?_)
    go_simp
    refine hK _ _ ?_
    clear hK K
    refine wpList_plain rfl (fun K hK => ?_)
    refine wp_store_row 24 (.tmp 6) (.tmp 85) rfl (W.heap.size + 1 + 1 + 1) #[.int .i64 pw, .int .i64 ph, .string (bytes CC), .int .i64 (1 - (tn : Int)), .string u0, .string u1] rfl rfl 24 _ Hst8.out.z (by kernel_rfl) (by simp) (by simp [Value.oneCell']) ?_
    refine hK _ _ ?_
    clear hK K
    have hz9 : Blk (w8.setRow (W.heap.size + 1 + 1 + 1) #[.int .i64 pw, .int .i64 ph, .string (bytes CC), .int .i64 (1 - (tn : Int)), .string u0, .string u1]) (W.heap.size + 1 + 1 + 1) 24 #[.int .i64 pw, .int .i64 ph, .string (bytes CC), .int .i64 (1 - (tn : Int)), .string u0, .string u1] := setRow_heap _ _ _ _ _ _ Hst8.out.z
    have HL9 := hide (show Later W (w8.setRow (W.heap.size + 1 + 1 + 1) #[.int .i64 pw, .int .i64 ph, .string (bytes CC), .int .i64 (1 - (tn : Int)), .string u0, .string u1]) from Below.trans Hst8.out.later ⟨rfl, rfl, rfl, by simp [World.setRow], fun k hk => setRow_other _ _ _ _ (by omega)⟩)
    obtain ⟨w9, hw9⟩ : ∃ w9, w8.setRow (W.heap.size + 1 + 1 + 1) #[.int .i64 pw, .int .i64 ph, .string (bytes CC), .int .i64 (1 - (tn : Int)), .string u0, .string u1] = w9 := ⟨_, rfl⟩
    rw [hw9] at hz9 HL9 ⊢
    clear hw9 Hst8 p0 p1 p2 p3 p4 p5
    obtain ⟨z0, z1, z2, z3, z4, z5⟩ := hz9.pos6
    go_wp2_with fail
    refine bodyPost_ret (v := .agg #[.int .i64 pw, .int .i64 ph, .string (bytes CC), .int .i64 (1 - (tn : Int)), .string u0, .string u1]) (by simp [results, Tryz.results98, go_sem, z0, z1, z2, z3, z4, z5]) rfl ⟨rfl, HL9.out⟩
end Go.Proofs.YtcdfeaodfmfdnaaGreatDoor
/- What gameref.Made builds, byte for byte. -/
namespace Go.Proofs.YtcdfeaodfmfdnaaGreatDoor
open Go.RowKit

theorem indexByte_first {x : UInt8} : ∀ {l : List UInt8} {k : Nat}, FirstAt l x k → Lib.indexByte l x = (k : Int)
 | [], k, h => absurd h.lt (by simp)
 | y :: l, 0, h => by
  have := h.at_
  simp only [List.getElem_cons_zero] at this
  subst this
  simp [Lib.indexByte]
 | y :: l, k + 1, h => by
  have h0 := h.none_ 0 (by simp) (by omega)
  simp only [List.getElem_cons_zero] at h0
  have hk : k < l.length := by simpa using h.lt
  have hr : FirstAt l x k := by
   refine ⟨hk, by simpa using h.at_, fun j hj hjk => h.none_ (j + 1) (Nat.succ_lt_succ hj) (by omega), ?_⟩
   have := h.erase
   rw [List.erase_cons_tail (by simpa using h0), List.eraseIdx_cons_succ] at this
   injection this
  have ih := indexByte_first hr
  unfold Lib.indexByte
  have h1 : (y == x) = false := by simpa using h0
  have h2 : ((k : Int) == -1) = false := by simp
  rw [h1, ih, h2]
  simp
theorem putL_at {c : UInt8} : ∀ {S : List UInt8} {k : Nat}, k ≤ S.length → (∀ j (h : j < S.length), j < k → S[j].toNat < c.toNat) → (k = S.length ∨ ∃ h : k < S.length, ¬ S[k].toNat < c.toNat) → putL c S = insAt c S k
 | [], k, hk, _, _ => by
  have : k = 0 := by simpa using hk
  subst this
  simp [putL, insAt]
 | x :: S, 0, _, _, h2 => by
  rcases h2 with h2 | ⟨_, h2⟩
  ·
   simp at h2
  ·
   simp only [List.getElem_cons_zero] at h2
   unfold putL
   rw [if_neg h2]
   rfl
 | x :: S, k + 1, hk, h1, h2 => by
  have hx := h1 0 (by simp) (by omega)
  simp only [List.getElem_cons_zero] at hx
  unfold putL
  rw [if_pos hx, putL_at (k := k) (by simpa using hk) (fun j hj hjk => h1 (j + 1) (Nat.succ_lt_succ hj) (by omega)) (by
   rcases h2 with h2 | ⟨h, h2⟩
   ·
    left; simpa using h2
   ·
    right; exact ⟨by simpa using h, by simpa using h2⟩)]
  rfl
theorem apCells_len {L : List UInt8} {mf : Int} {mt : Nat} {d : UInt8} : (apCells L mf mt d).length = L.length := by unfold apCells; split <;> simp
theorem apCells_get {L : List UInt8} {mf : Int} {mt : Nat} {d : UInt8} {i : Nat} (hi : i < L.length) :
  (apCells L mf mt d)[i]? = some (if (i : Int) = mf then 46 else if i = mt then d else L[i]) := by
 unfold apCells
 by_cases h : mf < 0
 ·
  rw [if_pos h, if_neg (show ¬ (i : Int) = mf by omega), List.getElem?_set]
  by_cases e : mt = i
  ·
   subst e; rw [if_pos rfl, if_pos hi, if_pos rfl]
  ·
   rw [if_neg e, if_neg (fun h => e h.symm), List.getElem?_eq_getElem hi]
 ·
  rw [if_neg h, List.getElem?_set, List.getElem?_set, List.length_set]
  by_cases e : mf.toNat = i
  ·
   rw [if_pos e, if_pos (by omega), if_pos (by omega)]
  ·
   rw [if_neg e, if_neg (show ¬ (i : Int) = mf by omega)]
   by_cases e2 : mt = i
   ·
    subst e2; rw [if_pos rfl, if_pos hi, if_pos rfl]
   ·
    rw [if_neg e2, if_neg (fun h => e2 h.symm), List.getElem?_eq_getElem hi]
/-- the text so far, and one byte more -/
theorem take_more {CC : List UInt8} {i : Nat} {v : UInt8} (h : CC[i]? = some v) : bytes (CC.take i) ++ bytes [v] = bytes (CC.take (i + 1)) := by
 obtain ⟨hi, rfl⟩ := List.getElem?_eq_some_iff.1 h
 rw [List.take_succ_eq_append_getElem hi]
 apply bytes_eq
 show (bytes (CC.take i) ++ bytes [CC[i]]).data.toList = _
 simp [bytes]
theorem dot_bytes : (⟨#[46]⟩ : ByteArray) = bytes [46] := rfl
theorem one_of {C : ByteArray} {i : Nat} (hi : i < C.data.toList.length) : C.extract i (i + 1) = bytes [C.data.toList[i]] := by
 apply bytes_eq
 rw [extract_list, bytes_list, List.drop_eq_getElem_cons hi]
 simp
/-- the hand without what is at k -/
theorem left_bytes {H : ByteArray} {k : Nat} : H.extract 0 k ++ H.extract (k + 1) H.size = bytes (H.data.toList.eraseIdx k) := by
 have hl : H.data.toList.length = H.size := rfl
 apply bytes_eq
 show (H.extract 0 k ++ H.extract (k + 1) H.size).data.toList = _
 rw [ByteArray.data_append, Array.toList_append, extract_list, extract_list, bytes_list, List.eraseIdx_eq_take_drop_succ]
 rw [List.drop_zero, Nat.sub_zero, List.take_of_length_le (l := H.data.toList.drop (k + 1)) (by rw [List.length_drop]; omega)]
/-- the hand with c put at k -/
theorem put_bytes {S : List UInt8} {c : UInt8} {k : Nat} : (bytes S).extract 0 k ++ bytes [c] ++ (bytes S).extract k (bytes S).size = bytes (insAt c S k) := by
 apply bytes_eq
 show ((bytes S).extract 0 k ++ bytes [c] ++ (bytes S).extract k (bytes S).size).data.toList = _
 rw [ByteArray.data_append, Array.toList_append, ByteArray.data_append, Array.toList_append, extract_list, extract_list, bytes_list, bytes_list, bytes_list, bytes_size]
 unfold insAt
 have h1 : (S.drop k).take (S.length - k) = S.drop k := List.take_of_length_le (by rw [List.length_drop]; omega)
 rw [h1]
 simp
end Go.Proofs.YtcdfeaodfmfdnaaGreatDoor
/- gameref.Made -/
namespace Go.Proofs.YtcdfeaodfmfdnaaGreatDoor
open Go.RowKit

theorem conv_drew (x : UInt8) (w : World) : (convert 96 9 (.slice (some ⟨w.heap.size, 0, none⟩) 1 1)).run Tryz.prog (w.alloc (.cells #[.int .u8 (x.toNat : Int)] 5)).drew = .ok (.string (bytes [x])) (w.alloc (.cells #[.int .u8 (x.toNat : Int)] 5)).drew := by
 have h := run_convert_bytes_back (P := Tryz.prog) (w.alloc (.cells #[.int .u8 (x.toNat : Int)] 5)).drew 96 9 5 ⟨w.heap.size, 0, none⟩ 1 [x] Tryz.underlying96 Tryz.underlying5 Tryz.underlying9 (fun j hj => by
  have hj0 : j = 0 := by simpa using hj
  subst hj0
  rw [Addr.add_lit]
  exact (Blk.new w 5 #[.int .u8 (x.toNat : Int)]).cellv rfl)
 exact h
theorem capN_46 {c : Nat} : (capN c != 46) = (c != 46) := by
 rw [Bool.eq_iff_iff]
 simp only [bne_iff_ne, ne_eq]
 unfold capN
 split
 ·
  rename_i h
  have := lowB_lt h
  have h1 : 97 ≤ c ∧ c ≤ 122 := by simpa [lowB] using h
  omega
 ·
  exact Iff.rfl
theorem ApSt.later_ {W w w' : World} {R P M Z : Array Value} (h : ApSt W R P M Z w) (hw : Later w w') : ApSt W R P M Z w' :=
 ⟨hw.blk h.r, hw.blk h.p, hw.blk h.m, hw.blk h.z, h.later.trans hw⟩
set_option maxHeartbeats 8000000 in
set_option maxRecDepth 100000 in
theorem made_core (r : RulesD) (A : Option Addr) (cp : Nat) (pw ph : Int) (C : ByteArray) (tn : Nat) (h0 h1 : ByteArray) (mf : Int) (mt : Nat) (c : UInt8) (W : World) (H : ByteArray)
  (htn : tn ≤ 1) (hHdef : H = if tn = 0 then h0 else h1) (hmt : mt < C.size) (hC : C.size ≤ 64) (hHs : H.size ≤ 8)
  (hmf : (mf = -1 ∧ c ∈ H.data.toList) ∨ ∃ fn : Nat, mf = (fn : Int) ∧ fn < C.size ∧ fn ≠ mt) (hup : upB c.toNat = true) (t8 : UInt8) (ht8 : C.data.toList[mt]? = some t8) :
  Calls Tryz.prog 57 #[.agg #[.int .i64 r.start.w, .int .i64 r.start.h, .string r.start.cells, .int .i64 r.start.turn, .string r.start.h0, .string r.start.h1, .slice A r.pieces.length cp, .bool r.drops, .int .u8 r.lose, .int .i64 r.line, .int .u8 r.reach, .bool r.stuck, .int .i64 r.plies], .agg #[.int .i64 pw, .int .i64 ph, .string C, .int .i64 tn, .string h0, .string h1], .agg #[.int .i64 mf, .int .i64 mt, .int .u8 c.toNat]] W fun e w' =>
   e = .returned (.agg #[.int .i64 pw, .int .i64 ph, .string (bytes (apCells C.data.toList mf mt (u8 (letN c.toNat tn)))), .int .i64 (1 - (tn : Int)), .string (if tn = 0 then bytes (apHand (apLeft H.data.toList mf c) t8 r.drops) else h0), .string (if tn = 0 then h1 else bytes (apHand (apLeft H.data.toList mf c) t8 r.drops))]) ∧ Later W w' := by
 have Hst := hide (ApSt.first (W := W) (R := #[.int .i64 r.start.w, .int .i64 r.start.h, .string r.start.cells, .int .i64 r.start.turn, .string r.start.h0, .string r.start.h1, .slice A r.pieces.length cp, .bool r.drops, .int .u8 r.lose, .int .i64 r.line, .int .u8 r.reach, .bool r.stuck, .int .i64 r.plies]) (P := #[.int .i64 pw, .int .i64 ph, .string C, .int .i64 tn, .string h0, .string h1]) (M := #[.int .i64 mf, .int .i64 mt, .int .u8 c.toNat]) (Z := #[.int .i64 0, .int .i64 0, .string ⟨#[]⟩, .int .i64 0, .string ⟨#[]⟩, .string ⟨#[]⟩]))
 have hlen : C.data.toList.length = C.size := rfl
 obtain ⟨d, hd⟩ : ∃ d, u8 (letN c.toNat tn) = d := ⟨_, rfl⟩
 have Hmk := hide (fun w => hd ▸ mark_any c.toNat tn hup w)
 have Hsm := hide (fun w => small_any t8.toNat w)
 obtain ⟨CC, hCC⟩ : ∃ CC, apCells C.data.toList mf mt d = CC := ⟨_, rfl⟩
 obtain ⟨LH, hLH⟩ : ∃ LH, apLeft H.data.toList mf c = LH := ⟨_, rfl⟩
 obtain ⟨HH, hHH⟩ : ∃ HH, apHand LH t8 r.drops = HH := ⟨_, rfl⟩
 obtain ⟨u0, hu0⟩ : ∃ u0, (if tn = 0 then bytes HH else h0) = u0 := ⟨_, rfl⟩
 obtain ⟨u1, hu1⟩ : ∃ u1, (if tn = 0 then h1 else bytes HH) = u1 := ⟨_, rfl⟩
 have hL8 : LH.length ≤ 8 := by
  have : H.data.toList.length = H.size := rfl
  rw [← hLH]; unfold apLeft; split
  ·
   have := List.length_erase_le (a := c) (l := H.data.toList); omega
  ·
   omega
 have HCg := hide (fun i (hi : i < C.size) => show CC[i]? = some (if (i : Int) = mf then 46 else if i = mt then d else C.data.toList[i]'hi) from hCC ▸ apCells_get (L := C.data.toList) hi)
 rw [hd, hCC, hLH, hHH, hu0, hu1]
 have Hu0 := hide hu0
 have Hu1 := hide hu1
 have HLH := hide hLH
 have HHH := hide hHH
 have HCl := hide (show CC.length = C.size by rw [← hCC, apCells_len]; rfl)
 have hHt : (#[Value.int .i64 pw, .int .i64 ph, .string C, .int .i64 tn, .string h0, .string h1])[4 + tn]? = some (.string H) := by
  have : tn = 0 ∨ tn = 1 := by omega
  rcases this with rfl | rfl <;> simp [hHdef]
 have HHt := hide hHt
 have HHt2 := hide (fun a b => show (#[Value.int .i64 pw, .int .i64 ph, a, b, .string h0, .string h1])[4 + tn]? = some (.string H) from by
  have : tn = 0 ∨ tn = 1 := by omega
  rcases this with rfl | rfl <;> simp [hHdef])
 clear hHt hHdef hu0 hu1 hd hup hCC hLH hHH
 have Ht8 := hide ht8
 clear ht8
 have t0 : (0 : Int) ≤ (tn : Int) := by omega
 have t1 : (tn : Int) < 2 := by omega
 go_enter Tryz.func57, Tryz.ntmps57
 go_upto_region 1 with (fail)
 obtain ⟨w0, hw0⟩ : ∃ w0, ((((W.alloc (.cells #[.int .i64 r.start.w, .int .i64 r.start.h, .string r.start.cells, .int .i64 r.start.turn, .string r.start.h0, .string r.start.h1, .slice A r.pieces.length cp, .bool r.drops, .int .u8 r.lose, .int .i64 r.line, .int .u8 r.reach, .bool r.stuck, .int .i64 r.plies] 27)).alloc (.cells #[.int .i64 pw, .int .i64 ph, .string C, .int .i64 tn, .string h0, .string h1] 24)).alloc (.cells #[.int .i64 mf, .int .i64 mt, .int .u8 c.toNat] 101)).alloc (.cells #[.int .i64 0, .int .i64 0, .string ⟨#[]⟩, .int .i64 0, .string ⟨#[]⟩, .string ⟨#[]⟩] 24)) = w0 := ⟨_, rfl⟩
 rw [hw0] at Hst ⊢
 have Hsz : Hid (w0.heap.size = W.heap.size + 1 + 1 + 1 + 1) := hide (by rw [← hw0]; simp)
 clear hw0
 obtain ⟨p0, p1, p2, p3, p4, p5⟩ := Hst.out.p.pos6
 go_upto_region 2 with (fail)
 have Hq := hide (Blk.new w0 24 #[.int .i64 pw, .int .i64 ph, .string C, .int .i64 tn, .string h0, .string h1])
 have Hst1 := hide (Hst.out.only ((Only.refl (fun _ => False) w0).alloc (.cells #[.int .i64 pw, .int .i64 ph, .string C, .int .i64 tn, .string h0, .string h1] 24)) (fun _ h => h.elim))
 obtain ⟨gq, hgq⟩ : ∃ gq, w0.heap.size = gq := ⟨_, rfl⟩
 obtain ⟨w1, hw1⟩ : ∃ w1, w0.alloc (.cells #[.int .i64 pw, .int .i64 ph, .string C, .int .i64 tn, .string h0, .string h1] 24) = w1 := ⟨_, rfl⟩
 rw [hw1] at Hq Hst1 ⊢
 rw [hgq] at Hq Hsz ⊢
 clear hgq hw1 Hst p0 p1 p2 p3 p4 p5
 obtain ⟨p0, p1, p2, p3, p4, p5⟩ := Hst1.out.p.pos6
 have pH := Hst1.out.p.cellv HHt.out
 go_quiet (fail)
 have Hst2 := hide (Hst1.out.drewN nq)
 have Hq2 := hide (Hq.out.drewN nq)
 obtain ⟨w2, hw2⟩ : ∃ w2, w1.drewN nq = w2 := ⟨_, rfl⟩
 rw [hw2] at Hst2 Hq2 ⊢
 clear hw2 Hst1 Hq p0 p1 p2 p3 p4 p5 pH
 obtain ⟨⟨m0, m1, m2⟩, -⟩ := Hst2.out.m.mv
 go_upto_if 22 with (fail)
 go_cut [9] (fun hv wx => hv = .string (bytes LH) ∧ ApSt W #[.int .i64 r.start.w, .int .i64 r.start.h, .string r.start.cells, .int .i64 r.start.turn, .string r.start.h0, .string r.start.h1, .slice A r.pieces.length cp, .bool r.drops, .int .u8 r.lose, .int .i64 r.line, .int .u8 r.reach, .bool r.stuck, .int .i64 r.plies] #[.int .i64 pw, .int .i64 ph, .string C, .int .i64 tn, .string h0, .string h1] #[.int .i64 mf, .int .i64 mt, .int .u8 c.toNat] #[.int .i64 0, .int .i64 0, .string ⟨#[]⟩, .int .i64 0, .string ⟨#[]⟩, .string ⟨#[]⟩] wx ∧ Blk wx gq 24 #[.int .i64 pw, .int .i64 ph, .string C, .int .i64 tn, .string h0, .string h1])
 case first =>
  rcases hmf with ⟨hm1, hcin⟩ | ⟨fn, hm1, hfn, hne⟩
  ·
   obtain ⟨k, hk⟩ := first_at hcin
   have hklt : k < H.size := hk.lt
   have hix := indexByte_first hk
   have hcall := fun w => Tryz.strings_IndexByte H (c.toNat : Int) w
   have hcu : (c.toNat : Int).toNat.toUInt8 = c := by simp
   simp only [hcu, hix] at hcall
   have Hcall := hide hcall
   have Hfin := hide (show H.extract 0 k ++ H.extract (k + 1) H.size = bytes LH by
    rw [left_bytes, ← HLH.out]; unfold apLeft; rw [if_pos (by omega), hk.erase])
   have d1 : decide (mf < 0) = true := decide_eq_true (by omega)
   have d3 : mf < 0 := by omega
   have e1 : (H.extract 0 k).size ≤ 8 := by simp; omega
   have e2 : (H.extract (k + 1) H.size).size ≤ 8 := by simp; omega
   have k0 : (0 : Int) ≤ (k : Int) := by omega
   have k1 : (k : Int) ≤ (H.size : Int) := by omega
   have k2 : (k : Int) + 1 ≤ (H.size : Int) := by omega
   have hH9 : (H.size : Int) ≤ 8 := by omega
   clear hcin hk hix hcall hcu hm1
   go_wp2_with (go_at_call 37; refine (Hcall.out _).mono ?_; rintro e w' ⟨rfl, hw'⟩; rw [hw']; clear hw')
   go_quiet (fail)
   go_wp2_with fail
   go_meet
   case rel => exact ⟨by rw [← Hfin.out], Hst2.out.drewN _, Hq2.out.drewN _⟩
  ·
   have d1 : decide (mf < 0) = false := decide_eq_false (by omega)
   have d3 : ¬ mf < 0 := by omega
   have Hfin := hide (show H = bytes LH by
    rw [← HLH.out]; unfold apLeft; rw [if_neg (by omega)]; rfl)
   clear hm1
   go_wp2_with fail
   go_meet
   case rel => exact ⟨by rw [← Hfin.out], Hst2.out, Hq2.out⟩
 case rest =>
  obtain ⟨rfl, hst, hq⟩ := hcut
  rename World => w3
  have Hst3 := hide hst
  have Hq3 := hide hq
  clear hst hq Hst2 Hq2 m0 m1 m2
  have HX0 := hide (show (⟨#[]⟩ : ByteArray) = bytes (CC.take 0) by simp [bytes])
  have HY0 := hide (show LH = if mt < 0 then HH else LH by rw [if_neg (by omega)])
  go_upto_region 7 with (fail)
  have hne : ¬ mf = (mt : Int) := by rcases hmf with ⟨h, _⟩ | ⟨fn, h, _, h2⟩ <;> omega
  have Hne := hide hne
  clear hmf hne
  go_loopw [8, 9, 11] (fun xv yv iv wr => ∃ i : Nat, i ≤ C.size ∧ iv = .int .i64 (i : Int) ∧ xv = .string (bytes (CC.take i)) ∧ yv = .string (bytes (if mt < i then HH else LH)) ∧
   ApSt W #[.int .i64 r.start.w, .int .i64 r.start.h, .string r.start.cells, .int .i64 r.start.turn, .string r.start.h0, .string r.start.h1, .slice A r.pieces.length cp, .bool r.drops, .int .u8 r.lose, .int .i64 r.line, .int .u8 r.reach, .bool r.stuck, .int .i64 r.plies] #[.int .i64 pw, .int .i64 ph, .string C, .int .i64 tn, .string h0, .string h1] #[.int .i64 mf, .int .i64 mt, .int .u8 c.toNat] #[.int .i64 0, .int .i64 0, .string ⟨#[]⟩, .int .i64 0, .string ⟨#[]⟩, .string ⟨#[]⟩] wr ∧ Blk wr gq 24 #[.int .i64 pw, .int .i64 ph, .string C, .int .i64 tn, .string h0, .string h1]) (fun _ _ iv _ => C.size - (intOf iv).toNat)
  case atStart => exact ⟨0, by omega, rfl, by rw [← HX0.out], by rw [if_neg (by omega)], Hst3.out, Hq3.out⟩
  case round =>
   rename World => wr
   obtain ⟨i, hi, rfl, rfl, rfl, hst, hq⟩ := hrel
   have Hst := hide hst
   have Hq := hide hq
   clear hst hq Hst3 Hq3 HX0 HY0
   obtain ⟨p0, p1, p2, p3, p4, p5⟩ := Hst.out.p.pos6
   obtain ⟨⟨m0, m1, m2⟩, -⟩ := Hst.out.m.mv
   by_cases hlt : i < C.size
   ·
    have hg := HCg.out i hlt
    have hXs : (bytes (CC.take i)).size ≤ 64 := by rw [bytes_size, List.length_take]; omega
    obtain ⟨X, hX⟩ : ∃ X, bytes (CC.take i) = X := ⟨_, rfl⟩
    rw [hX] at hXs ⊢
    have j1 : (0 : Int) ≤ (i : Int) := by omega
    have j2 : (i : Int) < (C.size : Int) := by omega
    by_cases hf : (i : Int) = mf
    ·
     rw [if_pos hf] at hg
     have d1 : ((i : Int) == mf) = true := by simpa using hf
     have Hnx := hide (show X ++ ⟨#[46]⟩ = bytes (CC.take (i + 1)) by rw [← hX, dot_bytes, take_more hg])
     have Hy := hide (show (if mt < i then HH else LH) = if mt < i + 1 then HH else LH by
      have := Hne.out
      by_cases e : mt < i
      ·
       rw [if_pos e, if_pos (by omega)]
      ·
       rw [if_neg e, if_neg (by omega)])
     obtain ⟨Y, hY⟩ : ∃ Y, bytes (if mt < i then HH else LH) = Y := ⟨_, rfl⟩
     have HY := hide hY
     rw [hY]
     clear hf hg hX hY
     go_wp2_with fail
     go_roundw
     case rel => exact ⟨i + 1, by omega, by go_num, by rw [← Hnx.out], by rw [← HY.out, Hy.out], Hst.out, Hq.out⟩
     case measure => simp [intOf]; omega
    rw [if_neg hf] at hg
    have d1 : ((i : Int) == mf) = false := by simpa using hf
    by_cases ht : i = mt
    ·
     rw [if_pos ht] at hg
     have d2 : ((i : Int) == (mt : Int)) = true := by simp; omega
     have ht8 : C.data.toList[i]'hlt = t8 := by
      have := Ht8.out
      rw [← ht, List.getElem?_eq_getElem hlt] at this
      injection this
     have Hnx := hide (show X ++ bytes [d] = bytes (CC.take (i + 1)) by rw [← hX, take_more hg])
     have Hnlt := hide (show ¬ mt < i by omega)
     have Hmt := hide (show mt < i + 1 by omega)
     have hYs : (bytes LH).size ≤ 8 := by rw [bytes_size]; exact hL8
     rw [if_neg Hnlt.out]
     obtain ⟨Y, hY⟩ : ∃ Y, bytes LH = Y := ⟨_, rfl⟩
     have HY := hide hY
     rw [hY] at hYs ⊢
     obtain ⟨D, hD⟩ : ∃ D, bytes [d] = D := ⟨_, rfl⟩
     have hDs : D.size ≤ 1 := by rw [← hD, bytes_size]; simp
     have Hmk2 := Hmk
     rw [hD] at Hmk2 Hnx
     obtain ⟨cc, hcc⟩ : ∃ cc : UInt8, C[i]'hlt = cc := ⟨_, rfl⟩
     have hcc2 : cc = t8 := by rw [← ht8, ← hcc]; rfl
     subst hcc2
     clear hf hg hX hY hD ht ht8 hi
     go_upto_region 15 with (go_at_call 105; refine (Hmk2.out _).mono ?_; rintro e w4 ⟨rfl, hw4⟩)
     have Hst4 := hide (Hst.out.later_ hw4)
     have Hq4 := hide (hw4.blk Hq.out)
     clear hw4 Hst Hq p0 p1 p2 p3 p4 p5 m0 m1 m2 d1 d2
     obtain ⟨p0, p1, p2, p3, p4, p5⟩ := Hst4.out.p.pos6
     obtain ⟨sl, hsl⟩ : ∃ sl, lowB cc.toNat = sl := ⟨_, rfl⟩
     rw [hsl] at Hsm
     obtain ⟨x, hx⟩ : ∃ x, u8 (capN cc.toNat) = x := ⟨_, rfl⟩
     have hxn : x.toNat = capN cc.toNat := by
      rw [← hx, u8_nat]
      have := cc.toNat_lt
      unfold capN; split <;> omega
     go_upto_if 73 with (go_at_call 85; refine (Hsm.out _).mono ?_; rintro e w' ⟨rfl, hw'⟩; rw [hw']; clear hw')
     go_cut [12] from 35 to 110 (fun cv wx => cv = .int .u8 (x.toNat : Int) ∧ wx = w4)
     case first =>
      cases sl
      ·
       have e : x.toNat = cc.toNat := by rw [hxn, capN_not hsl]
       have E := hide e
       clear e hxn hx hsl
       go_wp2_with fail
       go_meet
       case rel => exact ⟨by rw [E.out], rfl⟩
      ·
       have hlb := lowB_lt hsl
       have e : (cc.toNat : Int) - 32 = (x.toNat : Int) := by rw [hxn, capN_low hsl]; omega
       have e2 : IntKind.u8.wrap ((cc.toNat : Int) - 32) = (x.toNat : Int) := by rw [e]; exact IntWalk.u8_in _ (by have := x.toNat_lt; omega)
       clear hxn hx hsl hlb
       go_wp2_with fail
       go_meet
       case rel => exact ⟨by congr 1; have := x.toNat_lt; omega, rfl⟩
     case rest =>
      obtain ⟨rfl, rfl⟩ := hcut
      rename World => w4
      go_upto_region 18 with (fail)
      obtain ⟨x0, x1, x2, x3, x4, x5, x6, x7, x8, x9, x10, x11, x12⟩ := Hst4.out.r.rules
      have Hx := hide hx
      have hYl : Y.size = LH.length := by rw [← HY.out, bytes_size]
      obtain ⟨b, hb⟩ : ∃ b, (cc.toNat != 46 && r.drops && decide (LH.length < 8)) = b := ⟨_, rfl⟩
      have Hb := hide hb
      have Hx46 := hide (show (x.toNat != 46) = (cc.toNat != 46) by rw [hxn]; exact capN_46)
      clear hb hx hxn hsl p0 p1 p2 p4 p5
      go_cut [86] from 35 to 110 (fun s wx => s = .bool b ∧ wx = w4)
      case first =>
       have hb := Hb.out
       obtain ⟨dr, hdr⟩ : ∃ dr, r.drops = dr := ⟨_, rfl⟩
       rw [hdr] at hb x7
       obtain ⟨q1, hq1⟩ : ∃ q1, (cc.toNat != 46) = q1 := ⟨_, rfl⟩
       have d1 : ((x.toNat : Int) != 46) = q1 := by
        rw [← hq1, ← Hx46.out, Bool.eq_iff_iff]; simp only [bne_iff_ne, ne_eq]; omega
       obtain ⟨q2, hq2⟩ : ∃ q2, decide (LH.length < 8) = q2 := ⟨_, rfl⟩
       have d2 : decide ((Y.size : Int) < 8) = q2 := by rw [← hq2, hYl, Bool.eq_iff_iff]; simp; omega
       rw [hq1, hq2] at hb
       have Hb2 := hide hb
       clear hdr hq1 hq2 hb hYl hYs
       cases q1 <;> cases dr <;> cases q2
       all_goals
        go_wp2_with fail
        go_meet
        case rel => exact ⟨by rw [← Hb2.out] <;> rfl, rfl⟩
      case rest =>
       obtain ⟨rfl, rfl⟩ := hcut
       rename World => w4
       clear x0 x1 x2 x3 x4 x5 x6 x7 x8 x9 x10 x11 x12
       cases b
       ·
        have hh : HH = LH := by rw [← HHH.out]; unfold apHand; rw [Hb.out]; rfl
        have Hh := hide hh
        clear hh
        go_wp2_with fail
        go_roundw
        case rel => exact ⟨i + 1, by omega, by go_num, by rw [← Hnx.out], by rw [if_pos Hmt.out, Hh.out, HY.out], Hst4.out, Hq4.out⟩
        case measure => simp [intOf]; omega
       ·
        have hh : HH = putL x LH := by rw [← HHH.out, ← Hx.out]; unfold apHand; rw [Hb.out]; rfl
        have Hh := hide hh
        clear hh
        go_wp2_with fail
        go_loopw [13] (fun kv wk => ∃ k : Nat, k ≤ LH.length ∧ kv = .int .i64 (k : Int) ∧ (∀ j (h : j < LH.length), j < k → LH[j].toNat < x.toNat) ∧ wk = w4) (fun kv _ => LH.length - (intOf kv).toNat)
        case atStart => exact ⟨0, by omega, rfl, fun j _ h => by omega, rfl⟩
        case round =>
         obtain ⟨k, hk, rfl, hall, rfl⟩ := hrel
         rename World => w4
         have Hall := hide hall
         clear hall
         have hYl : Y.size = LH.length := by rw [← HY.out, bytes_size]
         by_cases hlk : k < LH.length
         ·
          have hkY : k < Y.size := by omega
          have k1 : (0 : Int) ≤ (k : Int) := by omega
          have k2 : (k : Int) < (Y.size : Int) := by omega
          have hy := hide (show Y[k]'hkY = LH[k] by
           have hYY := HY.out
           subst hYY
           rfl)
          obtain ⟨y, hyy⟩ : ∃ y : UInt8, Y[k]'hkY = y := ⟨_, rfl⟩
          have hyl : LH[k] = y := by rw [← hyy]; exact hy.out.symm
          have Hyl := hide hyl
          clear hyl hy
          by_cases hyx : y.toNat < x.toNat
          ·
           have d3 : decide ((y.toNat : Int) < (x.toNat : Int)) = true := decide_eq_true (by omega)
           have hyx2 : (y.toNat : Int) < (x.toNat : Int) := by omega
           have Hn := hide (show ∀ j (h : j < LH.length), j < k + 1 → LH[j].toNat < x.toNat from fun j h hj => by
            by_cases e : j = k
            ·
             subst e; rw [Hyl.out]; exact hyx
            ·
             exact Hall.out j h (by omega))
           clear hyx
           go_wp2_with fail
           go_roundw
           case rel => exact ⟨k + 1, by omega, by go_num, Hn.out, trivial⟩
           case measure => simp [intOf]; omega
          ·
           have d3 : decide ((y.toNat : Int) < (x.toNat : Int)) = false := decide_eq_false (by omega)
           have hyx2 : ¬ (y.toNat : Int) < (x.toNat : Int) := by omega
           have Hput := hide (show putL x LH = insAt x LH k from putL_at hk Hall.out (.inr ⟨hlk, by rw [Hyl.out]; exact hyx⟩))
           clear hyx
           go_upto_region 22 with (fail)
           have Hpb := hide (show Y.extract 0 k ++ bytes [x] ++ Y.extract k Y.size = bytes HH by
            rw [Hh.out, Hput.out, ← HY.out]; exact put_bytes)
           obtain ⟨Bx, hBx⟩ : ∃ Bx, bytes [x] = Bx := ⟨_, rfl⟩
           have hcv := conv_drew x w4
           rw [hBx] at hcv
           have hBs : Bx.size ≤ 1 := by rw [← hBx, bytes_size]; simp
           rw [hBx] at Hpb
           have e1 : (Y.extract 0 k).size ≤ 8 := by simp; omega
           have e2 : (Y.extract k Y.size).size ≤ 8 := by simp; omega
           have z0 : (0 : Int) ≤ (k : Int) := by omega
           have z1 : (k : Int) ≤ (Y.size : Int) := by omega
           clear hBx
           go_big_region
           go_wp2_with fail
           go_roundw
           case rel => exact ⟨i + 1, by omega, by go_num, by rw [← Hnx.out], by rw [← hYl, Hpb.out, if_pos Hmt.out], (Hst4.out.only ((Only.refl (fun _ => False) w4).alloc (.cells #[.int .u8 (x.toNat : Int)] 5)) (fun _ h => h.elim)).drew, (Hq4.out.alloc (.cells #[.int .u8 (x.toNat : Int)] 5)).drewN 1⟩
           case measure => simp [intOf]; omega
         ·
          have hk2 : k = LH.length := by omega
          have Hput := hide (show putL x LH = insAt x LH k from putL_at hk Hall.out (.inl hk2))
          have k2 : ¬ (k : Int) < (Y.size : Int) := by omega
          clear hk2
          go_upto_region 22 with (fail)
          have Hpb := hide (show Y.extract 0 k ++ bytes [x] ++ Y.extract k Y.size = bytes HH by
           rw [Hh.out, Hput.out, ← HY.out]; exact put_bytes)
          obtain ⟨Bx, hBx⟩ : ∃ Bx, bytes [x] = Bx := ⟨_, rfl⟩
          have hcv := conv_drew x w4
          rw [hBx] at hcv
          have hBs : Bx.size ≤ 1 := by rw [← hBx, bytes_size]; simp
          rw [hBx] at Hpb
          have e1 : (Y.extract 0 k).size ≤ 8 := by simp; omega
          have e2 : (Y.extract k Y.size).size ≤ 8 := by simp; omega
          have z0 : (0 : Int) ≤ (k : Int) := by omega
          have z1 : (k : Int) ≤ (Y.size : Int) := by omega
          clear hBx
          go_big_region
          go_wp2_with fail
          go_roundw
          case rel => exact ⟨i + 1, by omega, by go_num, by rw [← Hnx.out], by rw [← hYl, Hpb.out, if_pos Hmt.out], (Hst4.out.only ((Only.refl (fun _ => False) w4).alloc (.cells #[.int .u8 (x.toNat : Int)] 5)) (fun _ h => h.elim)).drew, (Hq4.out.alloc (.cells #[.int .u8 (x.toNat : Int)] 5)).drewN 1⟩
          case measure => simp [intOf]; omega
    ·
     rw [if_neg ht] at hg
     have d2 : ((i : Int) == (mt : Int)) = false := by simp; omega
     have hex : C.extract i (i + 1) = bytes [C.data.toList[i]'hlt] := one_of hlt
     have Hnx := hide (show X ++ C.extract i (i + 1) = bytes (CC.take (i + 1)) by rw [hex, ← hX, take_more hg])
     have Hy := hide (show (if mt < i then HH else LH) = if mt < i + 1 then HH else LH by
      by_cases e : mt < i
      ·
       rw [if_pos e, if_pos (by omega)]
      ·
       rw [if_neg e, if_neg (by omega)])
     obtain ⟨Y, hY⟩ : ∃ Y, bytes (if mt < i then HH else LH) = Y := ⟨_, rfl⟩
     have HY := hide hY
     rw [hY]
     have e1 : (C.extract i (i + 1)).size ≤ 1 := by rw [hex, bytes_size]; simp
     have j3 : (i : Int) + 1 ≤ (C.size : Int) := by omega
     clear hf hg hX hY ht hex
     go_wp2_with fail
     go_roundw
     case rel => exact ⟨i + 1, by omega, by go_num, by rw [← Hnx.out], by rw [← HY.out, Hy.out], Hst.out, Hq.out⟩
     case measure => simp [intOf]; omega
   ·
    obtain rfl : i = C.size := by omega
    have HCCl := HCl.out
    rw [if_pos hmt, show CC.take C.size = CC from List.take_of_length_le (by omega)]
    obtain ⟨X, hX⟩ : ∃ X, bytes CC = X := ⟨_, rfl⟩
    rw [hX]
    have HX := hide hX
    clear hX HCCl
    have Hgq := hide (show W.heap.size + 1 + 1 + 1 + 1 = gq from Hsz.out.symm)
    have f2 := Hq.out.free 2
    have f3 := Hq.out.free 3
    obtain ⟨q0, q1, q2, q3, q4, q5⟩ := Hq.out.pos6
    have s1 : IntKind.i64.wrap (1 - (tn : Int)) = 1 - (tn : Int) := IntWalk.i64_in _ (by omega)
    go_upto_region 23 with (fail)
    go_big_region
    go_upto_region 24 with (fail)
    have Hst5 := hide (Hst.out.only ((((Only.refl (fun b => b = gq) wr).setCell (p := ⟨gq, 2, none⟩) (.inl rfl) (.string X)).setCell (p := ⟨gq, 3, none⟩) (.inl rfl) (.int .i64 (1 - (tn : Int)))).drew) (fun k hk => by have := Hgq.out; omega))
    have Hq5 := hide (show Blk ((wr.setCell ⟨gq, 2, none⟩ (.string X)).setCell ⟨gq, 3, none⟩ (.int .i64 (1 - (tn : Int)))).drew gq 24 #[.int .i64 pw, .int .i64 ph, .string X, .int .i64 (1 - (tn : Int)), .string h0, .string h1] from (Hq.out.set_ 2 (.string X)).set_ 3 (.int .i64 (1 - (tn : Int))))
    obtain ⟨w5, hw5⟩ : ∃ w5, ((wr.setCell ⟨gq, 2, none⟩ (.string X)).setCell ⟨gq, 3, none⟩ (.int .i64 (1 - (tn : Int)))).drew = w5 := ⟨_, rfl⟩
    rw [hw5] at Hst5 Hq5 ⊢
    clear hw5 Hst Hq p0 p1 p2 p3 p4 p5 q0 q1 q2 q3 q4 q5 f2 f3 m0 m1 m2
    obtain ⟨p0, p1, p2, p3, p4, p5⟩ := Hst5.out.p.pos6
    have f4 := Hq5.out.free (4 + tn)
    have q4 := Hq5.out.cellv (HHt2.out (.string X) (.int .i64 (1 - (tn : Int))))
    go_upto_region 25 with (fail)
    have hP6 : (#[Value.int .i64 pw, .int .i64 ph, .string X, .int .i64 (1 - (tn : Int)), .string h0, .string h1]).setIfInBounds (4 + tn) (.string (bytes HH)) = #[Value.int .i64 pw, .int .i64 ph, .string X, .int .i64 (1 - (tn : Int)), .string u0, .string u1] := by
     have : tn = 0 ∨ tn = 1 := by omega
     rw [← Hu0.out, ← Hu1.out]
     rcases this with rfl | rfl <;> simp
    have hq6 := Hq5.out.set_ (4 + tn) (.string (bytes HH))
    rw [hP6] at hq6
    have Hq6 := hide hq6
    have Hst6 := hide (Hst5.out.only ((Only.refl (fun b => b = gq) w5).setCell (p := ⟨gq, 4 + tn, none⟩) (.inl rfl) (.string (bytes HH))) (fun k hk => by have := Hgq.out; omega))
    obtain ⟨w6, hw6⟩ : ∃ w6, w5.setCell ⟨gq, 4 + tn, none⟩ (.string (bytes HH)) = w6 := ⟨_, rfl⟩
    rw [hw6] at Hq6 Hst6 ⊢
    clear hw6 hq6 hP6 Hst5 Hq5 p0 p1 p2 p3 p4 p5 f4 q4
    obtain ⟨q0, q1, q2, q3, q4, q5⟩ := Hq6.out.pos6
    refine wp_region_lit ?_
    refine wpList_plain rfl (fun K hK => ?_)
    go_simp
    refine hK _ _ ?_
    clear hK K
    refine wpList_plain rfl (fun K hK => ?_)
    refine wp_store_row 24 (.tmp 6) (.tmp 122) rfl (W.heap.size + 1 + 1 + 1) #[.int .i64 pw, .int .i64 ph, .string X, .int .i64 (1 - (tn : Int)), .string u0, .string u1] rfl rfl 24 _ Hst6.out.z (by kernel_rfl) (by simp) (by simp [Value.oneCell']) ?_
    refine hK _ _ ?_
    clear hK K
    have hz9 : Blk (w6.setRow (W.heap.size + 1 + 1 + 1) #[.int .i64 pw, .int .i64 ph, .string X, .int .i64 (1 - (tn : Int)), .string u0, .string u1]) (W.heap.size + 1 + 1 + 1) 24 #[.int .i64 pw, .int .i64 ph, .string X, .int .i64 (1 - (tn : Int)), .string u0, .string u1] := setRow_heap _ _ _ _ _ _ Hst6.out.z
    have HL9 := hide (show Later W (w6.setRow (W.heap.size + 1 + 1 + 1) #[.int .i64 pw, .int .i64 ph, .string X, .int .i64 (1 - (tn : Int)), .string u0, .string u1]) from Below.trans Hst6.out.later ⟨rfl, rfl, rfl, by simp [World.setRow], fun k hk => setRow_other _ _ _ _ (by omega)⟩)
    obtain ⟨w9, hw9⟩ : ∃ w9, w6.setRow (W.heap.size + 1 + 1 + 1) #[.int .i64 pw, .int .i64 ph, .string X, .int .i64 (1 - (tn : Int)), .string u0, .string u1] = w9 := ⟨_, rfl⟩
    rw [hw9] at hz9 HL9 ⊢
    clear hw9 Hst6 Hq6 q0 q1 q2 q3 q4 q5
    obtain ⟨z0, z1, z2, z3, z4, z5⟩ := hz9.pos6
    go_wp2_with fail
    refine bodyPost_ret (v := .agg #[.int .i64 pw, .int .i64 ph, .string X, .int .i64 (1 - (tn : Int)), .string u0, .string u1]) (by simp [results, Tryz.results57, go_sem, z0, z1, z2, z3, z4, z5]) rfl ⟨by rw [HX.out], HL9.out⟩
end Go.Proofs.YtcdfeaodfmfdnaaGreatDoor
