/- Pieces that a call has made, in memory, for houses: a row of its own, each piece's ways a row of its own. (Not to be imported beside RxMem.) -/
import Derived.Test.YtcdfeaodfmfdnaaGreatDoorPlRuM
import Derived.Test.YtcdfeaodfmfdnaaGreatDoorPlApM
import Derived.Test.YtcdfeaodfmfdnaaGreatDoorPlBxM
namespace Go.Proofs.YtcdfeaodfmfdnaaGreatDoor
open Go.RowKit

theorem Blk.three_ {w : World} {g : Nat} {t : TypeId} {a b c : Value} (h : Blk w g t #[a, b, c]) :
    w.cell? ⟨g, 0, none⟩ = some a ∧ w.cell? ⟨g, 1, none⟩ = some b ∧ w.cell? ⟨g, 2, none⟩ = some c ∧ ∀ i, w.frozen? ⟨g, i, none⟩ = false :=
  ⟨h.cellv rfl, h.cellv rfl, h.cellv rfl, h.free⟩
theorem info_way : (Tryz.prog.info? 80).map (fun i => (i.zero, i.size, i.bytes)) = some (some (.agg #[.int .i64 0, .int .i64 0, .int .i64 0, .int .i64 0]), 4, 32) := by kernel_rfl
theorem info_piece : (Tryz.prog.info? 77).map (fun i => (i.zero, i.size, i.bytes)) = some (some (.agg #[.int .u8 0, .int .i64 0, .slice none 0 0]), 3, 40) := by kernel_rfl
theorem own_lit {w : World} {base size : Nat} {e : TypeId} {v : Value} {n : Nat} {xs : List Value} (h : w.ownsRow base e size v n xs) : ∃ A c, v = .slice A n c := by
  rcases h.2 with ⟨h1, h2⟩ | ⟨g, cap, cur, h1, _⟩
  · subst h2; exact ⟨_, _, h1⟩
  · exact ⟨_, _, h1⟩
/-- pieces in a row of the call's own, apart from the box bx -/
def PcsOwn (w : World) (base bx : Nat) (v : Value) (ps : List PieceD) (hs : List (Option Addr × Nat)) : Prop :=
  ∃ e : hs.length = ps.length, w.ownsRow base 77 3 v ps.length (cellsP ps hs) ∧
    ∀ k (h : k < ps.length), ps[k].ways.length ≤ (hs[k]'(by omega)).2 ∧ WaysAt w w.heap.size (hs[k]'(by omega)).1 ps[k].ways ∧ (0 < ps[k].ways.length → ∀ a, (hs[k]'(by omega)).1 = some a → v.ownBlock ≠ some a.block ∧ bx < a.block)
theorem PcsOwn.nil (w : World) (base bx : Nat) : PcsOwn w base bx (.slice none 0 0) [] [] := ⟨rfl, World.ownsRow_nil _ _ _ _, fun k h => by simp at h⟩
theorem flatW_pos {ws : List WayD} (h : 0 < (ints (flatW ws)).length) : 0 < ws.length := by
  rw [ints_length, flatW_len] at h
  omega
theorem PcsOwn.only {S : Nat → Prop} {w w' : World} {base bx : Nat} {v : Value} {ps : List PieceD} {hs : List (Option Addr × Nat)} (h : PcsOwn w base bx v ps hs) (ho : Only S w w') (hS : ∀ k, S k → k ≤ bx) (hb : bx < base) : PcsOwn w' base bx v ps hs := by
  obtain ⟨e, h1, h2⟩ := h
  refine ⟨e, ownsRow_only h1 ho (fun g hg hs => by have := (h1.lt g hg).1; have := hS g hs; omega), fun k hk => ?_⟩
  obtain ⟨a1, a2, a3⟩ := h2 k hk
  exact ⟨a1, Cells.only a2 ho (fun hl a ha hs => by have h8 := (a3 (flatW_pos hl) a ha).2; have h9 := hS _ hs; omega), a3⟩
theorem cellsP_app : ∀ (ps : List PieceD) (hs : List (Option Addr × Nat)) (p : PieceD) (h : Option Addr × Nat), hs.length = ps.length → cellsP (ps ++ [p]) (hs ++ [h]) = cellsP ps hs ++ [.int .u8 p.letter, .int .i64 p.worth, .slice h.1 p.ways.length h.2]
  | [], [], _, _, _ => rfl
  | q :: ps, g :: hs, p, h, e => by
    have := cellsP_app ps hs p h (by simpa using e)
    simp [cellsP, this]
  | [], _ :: _, _, _, e => by simp at e
  | _ :: _, [], _, _, e => by simp at e
theorem PcsOwn.push {W w' : World} {B b : Nat} {v v' wv : Value} {ps : List PieceD} {hs : List (Option Addr × Nat)} {p : PieceD} (h : PcsOwn W B b v ps hs) (hbB : b < B) (hBW : B ≤ W.heap.size)
    (hown : w'.ownsRow B 77 3 v' (ps.length + 1) (cellsP ps hs ++ [.int .u8 (p.letter : Int), .int .i64 p.worth, wv])) (hw : w'.ownsRow W.heap.size 80 4 wv p.ways.length (ints (flatW p.ways)))
    (hg : v'.ownBlock = v.ownBlock ∨ ∃ g, v'.ownBlock = some g ∧ W.heap.size ≤ g ∧ ∀ k, wv.ownBlock = some k → k < g) (ho : Only (fun x => x = b ∨ v.ownBlock = some x) W w') : ∃ hs', PcsOwn w' B b v' (ps ++ [p]) hs' := by
  obtain ⟨e, h1, h2⟩ := h
  obtain ⟨Aw, cw, rfl, hc, _, hcell⟩ := Cells.of_ownK hw
  refine ⟨hs ++ [(Aw, cw)], by simp [e], ?_, fun k hk => ?_⟩
  · rw [List.length_append, List.length_singleton, cellsP_app ps hs p (Aw, cw) e]
    exact hown
  · by_cases hkl : k < ps.length
    · obtain ⟨a1, a2, a3⟩ := h2 k hkl
      rw [List.getElem_append_left hkl]
      rw [List.getElem_append_left (show k < hs.length by omega)]
      refine ⟨a1, Cells.only a2 ho (fun hl a ha hs => ?_), fun hl a ha => ⟨fun h3 => ?_, (a3 hl a ha).2⟩⟩
      · obtain ⟨n1, n2⟩ := a3 (flatW_pos hl) a ha
        rcases hs with hs | hs
        · exact absurd hs (Nat.ne_of_gt n2)
        · exact n1 hs
      · rcases hg with hg | ⟨g, hg, hge, _⟩
        · rw [hg] at h3; exact (a3 hl a ha).1 h3
        · rw [hg] at h3
          injection h3 with h3
          obtain ⟨bb, off, hA, hbb, _⟩ := a2 (by rw [ints_length, flatW_len]; omega)
          rw [hA] at ha
          injection ha with ha
          rw [← ha] at h3
          simp only at h3
          omega
    · have hk2 : k = ps.length := by simp at hk; omega
      subst hk2
      rw [List.getElem_append_right (Nat.le_refl _), List.getElem_append_right (by omega)]
      simp only [e, Nat.sub_self, List.getElem_cons_zero]
      refine ⟨hc, hcell, fun _ a ha => ?_⟩
      have hob : (Value.slice Aw p.ways.length cw).ownBlock = some a.block := by rw [ha]; rfl
      have hlt := hw.lt a.block hob
      refine ⟨fun h3 => ?_, by omega⟩
      rcases hg with hg | ⟨g, hg, _, hgk⟩
      · rw [hg] at h3
        have := (h1.lt _ h3).2
        omega
      · rw [hg] at h3
        injection h3 with h3
        have := hgk _ hob
        omega
/-- as the reader of rules wants them -/
theorem PcsOwn.pieces {w : World} {base bx : Nat} {v : Value} {ps : List PieceD} {hs : List (Option Addr × Nat)} (h : PcsOwn w base bx v ps hs) : ∃ A c, v = .slice A ps.length c ∧ ps.length ≤ c ∧ PiecesAt w w.heap.size A ps := by
  obtain ⟨e, h1, h2⟩ := h
  obtain ⟨A, c, rfl, hc, _, hcell⟩ := Cells.of_ownK h1
  exact ⟨A, c, rfl, hc, hs, e, hcell, fun k hk => ⟨(h2 k hk).1, (h2 k hk).2.1⟩⟩
/-- pieces that stay readable as long as the blocks of Q stay -/
def PAt (w : World) (Q : Nat → Prop) (A : Option Addr) (ps : List PieceD) : Prop := ∀ w', Only (fun x => ¬ Q x) w w' → PiecesAt w' w'.heap.size A ps
theorem PAt.at_ {w : World} {Q : Nat → Prop} {A : Option Addr} {ps : List PieceD} (h : PAt w Q A ps) : PiecesAt w w.heap.size A ps := h w (Only.refl _ _)
theorem PAt.only {w w' : World} {S Q : Nat → Prop} {A : Option Addr} {ps : List PieceD} (h : PAt w Q A ps) (ho : Only S w w') (hS : ∀ k, S k → ¬ Q k) : PAt w' Q A ps := fun w2 h2 => h w2 ((ho.mono (fun k _ hk => hS k hk)).trans h2)
theorem PcsOwn.pat {w : World} {base bx : Nat} {A : Option Addr} {n c : Nat} {ps : List PieceD} {hs : List (Option Addr × Nat)} (h : PcsOwn w base bx (.slice A n c) ps hs) (hb : bx < base) : PAt w (fun x => bx < x ∧ x < w.heap.size) A ps := by
  intro w' ho
  have h2 := PcsOwn.only h (ho.mono (S' := fun x => x ≤ bx) (fun k hk hn => by omega)) (fun _ h => h) hb
  obtain ⟨A', c', e, _, hp⟩ := h2.pieces
  injection e with e _ _
  rw [e]
  exact hp
theorem run_appendsK {P : Program} (w : World) (base : Nat) (t ty e : TypeId) (i : TypeInfo) (z : Value) (size bytes : Nat) (ht : P.underlying t = some (.slice e)) (hi : P.info? e = some i) (hz : i.zero = some z)
    (hsize : i.size = size) (hby : i.bytes = bytes) (hzs : z.cells.size = size) (h0 : 0 < size) (v : Value) (n : Nat) (ys : List Value) (hown : w.ownsRow base e size v n ys)
    (B : Nat) (A : Option Addr) (c m : Nat) (xs : List Value) (hm : xs.length = m * size) (hx : Cells w B A xs) (h1 : ∀ u ∈ xs, u.oneCell' = true)
    (h63 : n + m ≤ maxLen) (hbytes : (n + m) * bytes ≤ 140737488355328) (hbase : base ≤ w.heap.size) :
    ∃ v' w', (Builtin.append_ #[t, t] ty #[v, .slice A m c]).run P w = .ok v' w' ∧ w'.ownsRow base e size v' (n + m) (ys ++ xs) ∧ Only (fun k => v.ownBlock = some k) w w' ∧ (v'.ownBlock = v.ownBlock ∨ v'.ownBlock = some w.heap.size) := by
  cases A with
  | none =>
    have hxs : xs = [] := by
      cases xs with
      | nil => rfl
      | cons u r => obtain ⟨b, off, ha, _⟩ := hx (by simp); cases ha
    subst hxs
    have hm0 : m = 0 := by
      rcases Nat.eq_zero_or_pos m with h | h
      · exact h
      · have := Nat.mul_pos h h0; simp at hm; omega
    subst hm0
    refine ⟨v, w, ?_, by simpa using hown, Only.refl _ _, .inl rfl⟩
    rcases hown.2 with ⟨rfl, rfl⟩ | ⟨g, cap, cur, rfl, hbg, hg, hnc, hcm, hcs, htake⟩
    · simp [Builtin.append_, run_underlying ht, sizeOf, typeInfo, hi, Builtin.lenOf, Builtin.firstCells]
    · simp [Builtin.append_, run_underlying ht, sizeOf, typeInfo, hi, Builtin.lenOf, Builtin.firstCells, hnc, storeCells]
  | some ad =>
    have hcell : ∀ j u, xs[j]? = some u → w.cell? (ad.add j) = some u := by
      intro j u hu
      obtain ⟨hj, hju⟩ := List.getElem?_eq_some_iff.1 hu
      obtain ⟨b, off, ha, _, hc⟩ := hx (by omega)
      injection ha with ha
      subst ha
      rw [Addr.add_lit, hc j hj, hju]
    obtain ⟨v', w', hr, h2, h3, _, h5⟩ := run_append_own_at (P := P) w base t ty e i z size bytes ht hi hz hsize hby hzs h0 v n ys hown ad m c xs hm hcell h1 h63 hbytes hbase
    exact ⟨v', w', hr, h2, (Only.refl _ w).grown h3 (fun k hk => .inl hk), h5⟩
theorem wpList_appendsK {P : Program} {ops : Array Oper} {rest : List Oper} {o : Oper} {a : Act} {Q : Exit → Act → World → Prop} (w : World) (hgd : o.guard = none) (s x : Operand) (t : TypeId)
    (ho : o.op = .call { callee := .builtin .append, args := #[s, x], argTypes := #[t, t] })
    (base : Nat) (e : TypeId) (i : TypeInfo) (z : Value) (size bytes : Nat) (ht : P.underlying t = some (.slice e)) (hi : P.info? e = some i) (hz : i.zero = some z)
    (hsize : i.size = size) (hby : i.bytes = bytes) (hzs : z.cells.size = size) (h0 : 0 < size) (v : Value) (n : Nat) (ys : List Value) (hs : a.eval s = v) (hown : w.ownsRow base e size v n ys)
    (B : Nat) (A : Option Addr) (c m : Nat) (xs : List Value) (hm : xs.length = m * size) (hxe : a.eval x = .slice A m c) (hx : Cells w B A xs) (h1 : ∀ u ∈ xs, u.oneCell' = true)
    (h63 : n + m ≤ maxLen) (hbytes : (n + m) * bytes ≤ 140737488355328) (hbase : base ≤ w.heap.size)
    (h : ∀ v' w', w'.ownsRow base e size v' (n + m) (ys ++ xs) → Only (fun k => v.ownBlock = some k) w w' → (v'.ownBlock = v.ownBlock ∨ v'.ownBlock = some w.heap.size) → wpList P ops Q rest (a.put o.dst v') w') : wpList P ops Q (o :: rest) a w := by
  refine wpList_plain hgd fun K hK => ?_
  obtain ⟨v', w', hr, h2, h3, h4⟩ := run_appendsK (P := P) w base t o.type e i z size bytes ht hi hz hsize hby hzs h0 v n ys hown B A c m xs hm hx h1 h63 hbytes hbase
  unfold Oper.wp execOp
  simp only [ho, resolve, invoke, builtin, Sem.run_bind, Sem.run_pure, Result.andThen_ok, List.map_toArray, List.map_cons, List.map_nil, hs, hxe, hr]
  exact hK _ _ (h v' w' h2 h3 h4)
end Go.Proofs.YtcdfeaodfmfdnaaGreatDoor
