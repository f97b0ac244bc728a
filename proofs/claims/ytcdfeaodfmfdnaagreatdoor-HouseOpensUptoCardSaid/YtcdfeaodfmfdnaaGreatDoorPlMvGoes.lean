/- moves.goes, with the closure of moves.all -/
import Derived.Test.YtcdfeaodfmfdnaaGreatDoorPlMvDirs
import Derived.Test.YtcdfeaodfmfdnaaGreatDoorPlMvSt
import Derived.ScopeJumps
namespace Go.Proofs.YtcdfeaodfmfdnaaGreatDoor
open Go.RowKit

/-- the moves by a way -/
def toM (p : Pos) (w : WayD) (a c : Nat) : List Mv := (toL p w a).map fun (t : Nat) => ⟨a, t, c⟩
def rayM (p : Pos) (w : WayD) (a c : Nat) (dx dy : Int) (f : Nat) (x y : Int) : List Mv := (rayL p w dx dy f x y).map fun (t : Nat) => ⟨a, t, c⟩
def RayS (gl base : Nat) (w1 : World) (v : Value) (L M : List Mv) (wr : World) : Prop := ∃ u, MvSt wr gl base u (L ++ M) ∧ Grew gl w1 wr v u
def raysM (p : Pos) (w : WayD) (a c : Nat) (ds : List (Int × Int)) : List Mv := ds.flatMap fun d => rayM p w a c d.1 d.2 8 ((a % p.w.toNat : Nat) : Int) ((a / p.w.toNat : Nat) : Int)
theorem raysM_eq (p : Pos) (w : WayD) (a c : Nat) : raysM p w a c (dirsL w p.turn) = toM p w a c := by
  unfold raysM toM toL rayM
  rw [List.map_flatMap]
theorem rayM_len (p : Pos) (w : WayD) (a c : Nat) (dx dy : Int) : ∀ (f : Nat) (x y : Int), (rayM p w a c dx dy f x y).length ≤ f
  | 0, _, _ => by simp [rayM, rayL]
  | f + 1, x, y => by
    have ih := rayM_len p w a c dx dy f (x + dx) (y + dy)
    unfold rayM at ih ⊢
    rw [List.length_map] at ih ⊢
    unfold rayL
    split
    · rw [List.length_append]
      have h1 : (if fitsT p.turn w.take (cellN p (idxN p.w (x + dx) (y + dy))) = true then [idxN p.w (x + dx) (y + dy)] else []).length ≤ 1 := by split <;> simp
      have h2 : (if w.kind = 2 ∧ cellN p (idxN p.w (x + dx) (y + dy)) = 46 then rayL p w dx dy f (x + dx) (y + dy) else []).length ≤ f := by
        split
        · exact ih
        · simp
      omega
    · simp
theorem raysM_len (p : Pos) (w : WayD) (a c : Nat) : ∀ ds : List (Int × Int), (raysM p w a c ds).length ≤ 8 * ds.length
  | [] => by simp [raysM]
  | d :: ds => by
    have ih := raysM_len p w a c ds
    have h := rayM_len p w a c d.1 d.2 8 ((a % p.w.toNat : Nat) : Int) ((a / p.w.toNat : Nat) : Int)
    have e : raysM p w a c (d :: ds) = rayM p w a c d.1 d.2 8 ((a % p.w.toNat : Nat) : Int) ((a / p.w.toNat : Nat) : Int) ++ raysM p w a c ds := by simp [raysM]
    rw [e, List.length_append, List.length_cons]
    omega
theorem dirsL_len (w : WayD) (t : Int) : (dirsL w t).length ≤ 8 := by
  unfold dirsL; split <;> simp
theorem Blk.four' {w : World} {g : Nat} {t : TypeId} {v0 v1 v2 v3 : Value} (h : Blk w g t #[v0, v1, v2, v3]) : w.cell? ⟨g, 0, none⟩ = some v0 ∧ w.cell? ⟨g, 1, none⟩ = some v1 ∧ w.cell? ⟨g, 2, none⟩ = some v2 ∧ w.cell? ⟨g, 3, none⟩ = some v3 := ⟨h.cellv rfl, h.cellv rfl, h.cellv rfl, h.cellv rfl⟩
theorem rayM_succ (p : Pos) (wy : WayD) (a c : Nat) (dx dy : Int) (f : Nat) (x y : Int) : rayM p wy a c dx dy (f + 1) x y = if onB p.w p.h (x + dx) (y + dy) = true then (if fitsT p.turn wy.take (cellN p (idxN p.w (x + dx) (y + dy))) = true then [⟨a, (idxN p.w (x + dx) (y + dy) : Nat), c⟩] else []) ++ (if wy.kind = 2 ∧ cellN p (idxN p.w (x + dx) (y + dy)) = 46 then rayM p wy a c dx dy f (x + dx) (y + dy) else []) else [] := by
  unfold rayM
  rw [rayL]
  split
  · rw [List.map_append]
    congr 1
    · split <;> rfl
    · split <;> rfl
  · rfl
/-- a frame's slots -/
def slotsOf (a : Act) (k : Nat) : Value := a.tmps.toList.getD k undef
def RayE (gl base : Nat) (wd : World) (u : Value) (K M : List Mv) (w' : World) : Prop := ∃ u', MvSt w' gl base u' (K ++ M) ∧ Grew gl wd w' u u'
/-- t steps on: what is behind, what is to come -/
def RayT (p : Pos) (wy : WayD) (a c gl base : Nat) (wd : World) (u : Value) (K : List Mv) (dx dy xx yy : Int) (t : Nat) (w' : World) : Prop :=
  t ≤ 7 ∧ ∃ M, M.length ≤ t ∧ RayE gl base wd u K M w' ∧ M ++ rayM p wy a c dx dy (8 - t) (stepI xx dx t) (stepI yy dy t) = rayM p wy a c dx dy 8 xx yy
theorem rayT_zero {p : Pos} {wy : WayD} {a c gl base : Nat} {wd w' : World} {u : Value} {K : List Mv} {dx dy xx yy : Int} (h : MvSt w' gl base u K) (k : Grew gl wd w' u u) : RayT p wy a c gl base wd u K dx dy xx yy 0 w' :=
  ⟨by omega, [], by simp, ⟨u, by simpa using h, k⟩, by rw [stepI_zero, stepI_zero]; rfl⟩
/-- how many steps lead from (xx, yy) to (x, y) -/
def stepsOf (xx yy dx dy x y : Int) : Nat := if dx ≠ 0 then ((x - xx).tdiv dx).toNat else ((y - yy).tdiv dy).toNat
theorem stepsOf_eq {xx yy dx dy : Int} (h : dx ≠ 0 ∨ dy ≠ 0) (t : Nat) : stepsOf xx yy dx dy (stepI xx dx t) (stepI yy dy t) = t := by
  unfold stepsOf stepI
  split
  · rename_i h0
    rw [show xx + (t : Int) * dx - xx = (t : Int) * dx by omega, Int.mul_tdiv_cancel _ h0]
    exact Int.toNat_natCast t
  · rename_i h0
    have h1 : dy ≠ 0 := by rcases h with h | h
                           · exact absurd h h0
                           · exact h
    rw [show yy + (t : Int) * dy - yy = (t : Int) * dy by omega, Int.mul_tdiv_cancel _ h1]
    exact Int.toNat_natCast t
theorem dir_in {w : WayD} {turn dx dy : Int} (hw : WayOk w) (h : DirR w turn dx dy) (ht : turn = 0 ∨ turn = 1) : -7 ≤ dx ∧ dx ≤ 7 ∧ -7 ≤ dy ∧ dy ≤ 7 := by
  obtain ⟨_, _, x0, x7, y0, y7, _, _, _, _⟩ := hw
  unfold DirR at h
  split at h
  · obtain ⟨h1, h2⟩ := h
    rcases absI_eq h1 with h1 | h1 <;> rcases ht with rfl | rfl <;> omega
  · rcases h with ⟨h1, h2⟩ | ⟨h1, h2⟩ <;> rcases absI_eq h1 with h1 | h1 <;> rcases absI_eq h2 with h2 | h2 <;> omega
section
variable {P : Program} {a : Act} {w : World} {Q : Exit → Act → World → Prop}
/-- a scope in which the run jumps back to its one label -/
theorem wp_scope_goto {X B : Code} (l : Nat) (J : Act → World → Prop) (μ : Act → World → Nat) (hX : findLabel X l = none)
    (first : X.wp P (Exit.then J (Exit.jump l J Q)) a w)
    (pass : ∀ a w, J a w → B.wp P (Exit.jump l (fun a' w' => J a' w' ∧ μ a' w' < μ a w) Q) a w) : (Code.scope (X.seq ((Code.label l).seq B))).wp P Q a w := by
  have weak : ∀ a w, J a w → B.wp P (Exit.jump l J Q) a w := fun a w h => wp_mono (pass a w h) (by
    intro e a' w' hq
    cases e <;> first | exact hq | exact ⟨hq.1, hq.2.1⟩)
  refine wp_scope_jumps (rest := .seq .skip B) l J μ (by simp [findLabel, hX]) ?_ ?_
  · refine wp_seq (wp_mono first ?_)
    intro e a' w' hq
    cases e with
    | normal => exact wp_seq (wp_label (weak _ _ hq))
    | _ => exact hq
  · intro a w h
    exact wp_seq (wp_skip (pass a w h))
end
set_option maxHeartbeats 4000000 in
set_option maxRecDepth 100000 in
theorem goes_any (p : Pos) (wy : WayD) (a c : Nat) (wo : Int) (As : Option Addr) (ns cs : Nat) (gl ga gp base : Nat) (v : Value) (L : List Mv) (W : World) (hp : PosOk p) (hwy : WayOk wy) (ha : a < p.cells.size)
    (hs : MvSt W gl base v L) (hL : L.length < 900000) (hga : Blk W ga 3 #[.int .i64 a]) (hgp : Blk W gp 77 #[.int .u8 c, .int .i64 wo, .slice As ns cs]) :
    Calls Tryz.prog 177 #[.agg #[.int .i64 p.w, .int .i64 p.h, .string p.cells, .int .i64 p.turn, .string p.h0, .string p.h1], .int .i64 a, .agg #[.int .i64 wy.kind, .int .i64 wy.x, .int .i64 wy.y, .int .i64 wy.take], .func (.func 178) #[] #[.pointer (some ⟨gl, 0, none⟩), .pointer (some ⟨ga, 0, none⟩), .pointer (some ⟨gp, 0, none⟩)]] W (Pushed W gl base v (L ++ toM p wy a c)) := by
  obtain ⟨n, m, hn, hm, n1, n8, m1, m8, hsz, h64⟩ := pos_wh hp
  have Hp := hide hp
  have Hn := hide hn
  have Hm := hide hm
  have Hwy := hide hwy
  have Hs := hide hs
  have HL := hide hL
  have Hga := hide hga
  have Hgp := hide hgp
  have t0 := hp.t0
  have t1 := hp.t1
  have Hd := hide (fun w => dirs_any wy p.turn w hwy t0 t1)
  rw [hn, hm]
  clear hp hn hm hsz hwy hs hL hga hgp
  go_enter Tryz.func177, Tryz.ntmps177
  go_wp2_with (go_at_call 199; refine (Hd.out _).mono ?_; rintro e w1 ⟨A, cd, rfl, hc, hcells, hge, hlat⟩)
  have Hcells := hide hcells
  have Hge := hide hge
  have Hw1 := hide (show Later W w1 from ((Later.rfl.alloc _).alloc _).trans hlat)
  have Hbp := hide (hlat.blk ((Blk.new W 24 #[.int .i64 n, .int .i64 m, .string p.cells, .int .i64 p.turn, .string p.h0, .string p.h1]).alloc (.cells #[.int .i64 wy.kind, .int .i64 wy.x, .int .i64 wy.y, .int .i64 wy.take] 80)))
  have hbw := Blk.new (W.alloc (.cells #[.int .i64 n, .int .i64 m, .string p.cells, .int .i64 p.turn, .string p.h0, .string p.h1] 24)) 80 #[.int .i64 wy.kind, .int .i64 wy.x, .int .i64 wy.y, .int .i64 wy.take]
  rw [World.size_alloc] at hbw
  have Hbw := hide (hlat.blk hbw)
  clear hbw
  have hgaw := Hw1.out.blk Hga.out
  obtain ⟨ds, hds⟩ : ∃ ds, dirsL wy p.turn = ds := ⟨_, rfl⟩
  rw [hds] at Hcells ⊢
  clear hcells hge hlat
  have Hs1 := hide (Hs.out.later Hw1.out)
  have Hdl := hide (show ds.length ≤ 8 from hds ▸ dirsL_len wy p.turn)
  have hfin := raysM_eq p wy a c
  rw [hds] at hfin
  have Hfin := hide hfin
  have Hdm := hide (show ∀ d ∈ ds, DirR wy p.turn d.1 d.2 from fun d hd => (dirs_mem Hwy.out (by have := Hp.out.t0; have := Hp.out.t1; omega)).1 (hds ▸ hd))
  clear hfin hds
  go_loopw [19] (fun i wr => ∃ j : Nat, j ≤ ds.length ∧ i = .int .i64 j ∧ RayS gl base w1 v L (raysM p wy a c (ds.take j)) wr) (fun i _ => ds.length - (intOf i).toNat)
  case atStart => exact ⟨0, by omega, rfl, v, by simpa [raysM] using Hs1.out, Grew.rfl⟩
  case round =>
    rename World => wr
    obtain ⟨j, hj, rfl, u, hst, hgr⟩ := hrel
    have Hst := hide hst
    have Hgr := hide hgr
    clear hst hgr
    by_cases hlt : j < ds.length
    · have ej : decide ((j : Int) < (ds.length : Int)) = true := decide_eq_true (by omega)
      have hcl := Hcells.out.only Hgr.out.only (fun h0 ad had hS => by
        have h1 := Hge.out ad had
        rcases hS with hS | hS
        · have := Hs.out.1.lt; simp at h1; omega
        · have := (Hs.out.2.1.lt ad.block hS).2; simp at h1; omega)
      obtain ⟨b, off, rfl, hbA, z0, z1⟩ := DirsAt.at_ hcl hlt
      obtain ⟨d, hd⟩ : ∃ d, ds[j] = d := ⟨_, rfl⟩
      rw [hd] at z0 z1
      have Hdr := hide (Hdm.out d (hd ▸ List.getElem_mem hlt))
      have Htk := hide (show raysM p wy a c (ds.take (j + 1)) = raysM p wy a c (ds.take j) ++ rayM p wy a c d.1 d.2 8 ((a % p.w.toNat : Nat) : Int) ((a / p.w.toNat : Nat) : Int) by
        rw [List.take_succ_eq_append_getElem hlt, hd]; simp [raysM])
      obtain ⟨dx, dy⟩ := d
      simp only at z0 z1 Hdr Htk
      have hbl := hbA
      clear hcl hd
      -- SCOPE
      have hj8 : j < 8 := by have := Hdl.out; omega
      go_wp2_with fail
      have HDV := hide (Blk.new wr 55 #[.int .i64 dx, .int .i64 dy])
      have Hsd := hide (Hst.out.alloc (.cells #[.int .i64 dx, .int .i64 dy] 55))
      have Hgd := hide (Hgr.out.alloc (.cells #[.int .i64 dx, .int .i64 dy] 55))
      obtain ⟨gd, hgd⟩ : ∃ gd, wr.heap.size = gd := ⟨_, rfl⟩
      obtain ⟨wd, hwd⟩ : ∃ wd, wr.alloc (.cells #[.int .i64 dx, .int .i64 dy] 55) = wd := ⟨_, rfl⟩
      rw [hgd] at HDV ⊢
      rw [hwd] at HDV Hsd Hgd ⊢
      have Hbp2 := hide (Hgd.out.blk Hs1.out Hbp.out (by decide) (by decide))
      have Hbw2 := hide (Hgd.out.blk Hs1.out Hbw.out (by decide) (by decide))
      have Hga2 := hide (Hgd.out.blk Hs1.out (Hw1.out.blk Hga.out) (by decide) (by decide))
      have Hgp2 := hide (Hgd.out.blk Hs1.out (Hw1.out.blk Hgp.out) (by decide) (by decide))
      have HD := hide (show ∀ w2 M, RayE gl base wd u (L ++ raysM p wy a c (ds.take j)) M w2 → RayS gl base w1 v L (raysM p wy a c (ds.take j) ++ M) w2 from fun w2 M ⟨u2, h1, h2⟩ => ⟨u2, by rw [← List.append_assoc]; exact h1, Hgd.out.trans h2⟩)
      have hlen : (L ++ raysM p wy a c (ds.take j)).length < 900100 := by
        have h1 := raysM_len p wy a c (ds.take j)
        have h2 := HL.out
        have h3 := Hdl.out
        rw [List.length_append]
        rw [List.length_take] at h1
        omega
      have Hlen := hide hlen
      clear hgd hwd Hst Hgr z0 z1 hlen
      have ez : ((n : Int) == 0) = false := by simp; omega
      have ex := mod_eqn a n
      have ey := div_eqn a n
      have x0 : 0 ≤ ((a % n : Nat) : Int) := Int.natCast_nonneg _
      have x1 : ((a % n : Nat) : Int) < n := by have := Nat.mod_lt a (show 0 < n by omega); omega
      have y0 : 0 ≤ ((a / n : Nat) : Int) := Int.natCast_nonneg _
      have y1 : ((a / n : Nat) : Int) ≤ 64 := by have := Nat.div_le_self a n; omega
      rw [Hn.out, Int.toNat_natCast] at Htk
      obtain ⟨xx, hxx⟩ : ∃ xx : Int, ((a % n : Nat) : Int) = xx := ⟨_, rfl⟩
      obtain ⟨yy, hyy⟩ : ∃ yy : Int, ((a / n : Nat) : Int) = yy := ⟨_, rfl⟩
      rw [hxx] at ex x0 x1 Htk
      rw [hyy] at ey y0 y1 Htk
      have Hat := hide (show AtB p xx yy from by
        have := (at_of (p := p) (a := a) Hp.out.w1 (by have := Hp.out.len; have h2 : p.cells.data.toList.length = p.cells.size := rfl; omega)).1
        rw [Hn.out, Int.toNat_natCast, hxx, hyy] at this
        exact this)
      clear hxx hyy
      refine wp_scope_goto 0 (fun (a1 : Act) (w1' : World) => ∃ t : Nat, ∃ sx sy : Int, sx = stepI xx dx t ∧ sy = stepI yy dy t ∧ a1 = { tmps := #[.agg #[.int .i64 (n : Int), .int .i64 (m : Int), .string p.cells, .int .i64 p.turn, .string p.h0, .string p.h1], .int .i64 (a : Int), .agg #[.int .i64 wy.kind, .int .i64 wy.x, .int .i64 wy.y, .int .i64 wy.take], .func (.func 178) #[] #[.pointer (some ⟨gl, 0, none⟩), .pointer (some ⟨ga, 0, none⟩), .pointer (some ⟨gp, 0, none⟩)], .pointer (some ⟨W.heap.size, 0, none⟩), undef, .pointer (some ⟨W.heap.size + 1, 0, none⟩), undef, undef, .pointer (some ⟨gd, 0, none⟩), .int .i64 sx, .int .i64 sy, slotsOf a1 12, slotsOf a1 13, .agg #[.int .i64 wy.kind, .int .i64 wy.x, .int .i64 wy.y, .int .i64 wy.take], .pointer (some ⟨W.heap.size, 3, none⟩), .int .i64 p.turn, .slice (some ⟨b, off, none⟩) ds.length cd, .int .i64 (ds.length : Int), .int .i64 (j : Int), slotsOf a1 20, slotsOf a1 21, slotsOf a1 22, slotsOf a1 23, slotsOf a1 24, slotsOf a1 25, slotsOf a1 26, slotsOf a1 27, slotsOf a1 28, slotsOf a1 29, slotsOf a1 30, slotsOf a1 31, slotsOf a1 32, slotsOf a1 33, slotsOf a1 34, slotsOf a1 35, slotsOf a1 36, slotsOf a1 37, slotsOf a1 38, slotsOf a1 39, slotsOf a1 40, slotsOf a1 41, slotsOf a1 42, slotsOf a1 43, slotsOf a1 44, slotsOf a1 45, slotsOf a1 46, slotsOf a1 47, slotsOf a1 48, slotsOf a1 49, slotsOf a1 50, slotsOf a1 51, slotsOf a1 52, slotsOf a1 53, slotsOf a1 54, slotsOf a1 55, slotsOf a1 56, slotsOf a1 57, slotsOf a1 58, slotsOf a1 59, slotsOf a1 60, slotsOf a1 61, slotsOf a1 62, slotsOf a1 63, slotsOf a1 64, slotsOf a1 65, slotsOf a1 66, slotsOf a1 67, slotsOf a1 68, slotsOf a1 69, slotsOf a1 70, slotsOf a1 71, slotsOf a1 72, slotsOf a1 73, slotsOf a1 74, slotsOf a1 75, slotsOf a1 76, slotsOf a1 77, slotsOf a1 78, slotsOf a1 79, slotsOf a1 80, slotsOf a1 81, slotsOf a1 82, slotsOf a1 83, slotsOf a1 84, slotsOf a1 85, slotsOf a1 86, slotsOf a1 87, slotsOf a1 88, slotsOf a1 89, slotsOf a1 90, slotsOf a1 91, slotsOf a1 92, slotsOf a1 93, slotsOf a1 94, slotsOf a1 95, slotsOf a1 96], defers := [] } ∧ RayT p wy a c gl base wd u (L ++ raysM p wy a c (ds.take j)) dx dy xx yy t w1') (fun (a1 : Act) (_ : World) => 8 - (stepsOf xx yy dx dy (intOf (a1.tmps.getD 10 undef)) (intOf (a1.tmps.getD 11 undef)))) rfl ?_ ?_
      · obtain ⟨p0, p1, p2, p3, p4, p5⟩ := Hbp2.out.pos6
        go_quiet (fail)
        simp only [ex]
        show (∃ t : Nat, _)
        refine ⟨0, xx, yy, (stepI_zero _ _).symm, (stepI_zero _ _).symm, ?eq, ?st⟩
        case eq => exact rfl
        case st => exact rayT_zero (Hsd.out.drewN _) (Grew.rfl.drewN _)
      · rintro a' w' ⟨t, sx, sy, hsx, hsy, ha', hT⟩
        generalize slotsOf a' = U at ha'
        subst ha'
        obtain ⟨t7, M, hM, ⟨u', hst, hgr⟩, hray⟩ := hT
        have Hst := hide hst
        have Hgr := hide hgr
        have HM := hide hM
        have Hray := hide hray
        have HDV2 := hide (hgr.blk Hsd.out HDV.out (by decide) (by decide))
        have Hbp3 := hide (hgr.blk Hsd.out Hbp2.out (by decide) (by decide))
        have Hbw3 := hide (hgr.blk Hsd.out Hbw2.out (by decide) (by decide))
        have Hga3 := hide (hgr.blk Hsd.out Hga2.out (by decide) (by decide))
        have Hgp3 := hide (hgr.blk Hsd.out Hgp2.out (by decide) (by decide))
        have Hsx := hide (show sx + dx = stepI xx dx (t + 1) by rw [hsx, stepI_add])
        have Hsy := hide (show sy + dy = stepI yy dy (t + 1) by rw [hsy, stepI_add])
        have Hms := hide (show stepsOf xx yy dx dy sx sy = t by rw [hsx, hsy]; exact stepsOf_eq (ofDir Hwy.out Hdr.out (by have := Hp.out.t0; have := Hp.out.t1; omega)) t)
        have Hun := hide (show rayM p wy a c dx dy (8 - t) (stepI xx dx t) (stepI yy dy t) = rayM p wy a c dx dy (7 - t + 1) sx sy by rw [← hsx, ← hsy, show 8 - t = 7 - t + 1 by omega])
        obtain ⟨p0, p1, p2, p3, p4, p5⟩ := Hbp3.out.pos6
        obtain ⟨v0, v1⟩ := HDV2.out.two
        obtain ⟨b0, b1, b2, b3⟩ := Hbw3.out.four'
        obtain ⟨dd1, dd2, dd3, dd4⟩ : -7 ≤ dx ∧ dx ≤ 7 ∧ -7 ≤ dy ∧ dy ≤ 7 := dir_in Hwy.out Hdr.out (by have := Hp.out.t0; have := Hp.out.t1; omega)
        obtain ⟨ss1, ss2, ss3, ss4⟩ : -200 ≤ sx ∧ sx ≤ 200 ∧ -200 ≤ sy ∧ sy ≤ 200 := by
          have k1 : -7 * (t : Int) ≤ (t : Int) * dx := by
            have : (t : Int) * (-7) ≤ (t : Int) * dx := Int.mul_le_mul_of_nonneg_left dd1 (by omega)
            omega
          have k2 : (t : Int) * dx ≤ 7 * t := by
            have : (t : Int) * dx ≤ (t : Int) * 7 := Int.mul_le_mul_of_nonneg_left dd2 (by omega)
            omega
          have k3 : -7 * (t : Int) ≤ (t : Int) * dy := by
            have : (t : Int) * (-7) ≤ (t : Int) * dy := Int.mul_le_mul_of_nonneg_left dd3 (by omega)
            omega
          have k4 : (t : Int) * dy ≤ 7 * t := by
            have : (t : Int) * dy ≤ (t : Int) * 7 := Int.mul_le_mul_of_nonneg_left dd4 (by omega)
            omega
          unfold stepI at hsx hsy
          omega
        clear hst hgr hM hray hsx hsy
        have s1 : IntKind.i64.wrap (sx + dx) = sx + dx := IntWalk.i64_in _ (by omega)
        have s2 : IntKind.i64.wrap (sy + dy) = sy + dy := IntWalk.i64_in _ (by omega)
        go_upto_region 5 with (fail)
        go_quiet (fail)
        clear s1 s2
        obtain ⟨tx, htx⟩ : ∃ tx, sx + dx = tx := ⟨_, rfl⟩
        obtain ⟨ty, hty⟩ : ∃ ty, sy + dy = ty := ⟨_, rfl⟩
        have Hrx := hide (show rayM p wy a c dx dy (8 - t) (stepI xx dx t) (stepI yy dy t) = if onB p.w p.h tx ty = true then (if fitsT p.turn wy.take (cellN p (idxN p.w tx ty)) = true then [⟨a, (idxN p.w tx ty : Nat), c⟩] else []) ++ (if wy.kind = 2 ∧ cellN p (idxN p.w tx ty) = 46 then rayM p wy a c dx dy (7 - t) tx ty else []) else [] by
          rw [Hun.out, ← htx, ← hty, rayM_succ])
        rw [htx] at Hsx ⊢
        rw [hty] at Hsy ⊢
        clear htx hty v0 v1
        by_cases hin : AtB p tx ty
        · obtain ⟨i, i1, i2, i3, i4, i5, i6⟩ := cell_at Hp.out Hn.out hin
          have Hin := hide hin
          have hray2 := Hrx.out
          rw [if_pos (onB_iff.2 hin), ← i2] at hray2
          rw [← i2] at i6
          rw [← i6] at hray2
          obtain ⟨o1, o2, o3, o4⟩ := hin
          rw [Hn.out] at o2
          rw [Hm.out] at o4
          have d1 : decide (tx < 0) = false := decide_eq_false (by omega)
          have d2 : decide (tx ≥ (n : Int)) = false := decide_eq_false (by omega)
          have d3 : decide (ty < 0) = false := decide_eq_false (by omega)
          have d4 : decide (ty ≥ (m : Int)) = false := decide_eq_false (by omega)
          have j1 : (0 : Int) ≤ (i : Int) := by omega
          have j2 : (i : Int) < (p.cells.size : Int) := by omega
          clear i6 i2 o1 o2 o3 o4
          go_upto_region 9 with (fail)
          go_cut [85] (fun s w2 => s = .bool (fitsT p.turn wy.take p.cells[i].toNat) ∧ ∃ k, w2 = w'.drewN k)
          case first =>
            obtain ⟨b46, hb46⟩ : ∃ b, (p.cells[i].toNat == 46) = b := ⟨_, rfl⟩
            obtain ⟨k1, hk1⟩ : ∃ b, (wy.take != 1) = b := ⟨_, rfl⟩
            obtain ⟨k2, hk2⟩ : ∃ b, (wy.take != 2) = b := ⟨_, rfl⟩
            obtain ⟨mn, hmn⟩ : ∃ b, mineB p.cells[i].toNat (1 - p.turn) = b := ⟨_, rfl⟩
            have Hf := hide (show fitsT p.turn wy.take p.cells[i].toNat = ((b46 && k1) || (mn && k2)) by rw [← hb46, ← hk1, ← hk2, ← hmn]; rfl)
            have hmc := fun w => mine_any p.cells[i].toNat (1 - p.turn) w
            rw [hmn] at hmc
            have Hmc := hide hmc
            have e1 : ((p.cells[i].toNat : Int) == 46) = b46 := eq_bool hb46
            clear hmn hmc hb46
            have hk1' := hk1
            have hk2' := hk2
            go_wp2_with (go_at_call 176; refine (Hmc.out _).mono ?_; rintro e w2 ⟨rfl, rfl⟩)
            all_goals
              go_meet
              case rel => exact ⟨by rw [Hf.out]; first | rfl | simp [*], _, rfl⟩
          case rest =>
            obtain ⟨rfl, k0, rfl⟩ := hcut
            have ht7 : t + 1 ≤ 7 := by
              obtain ⟨a1, a2, a3, a4⟩ := Hat.out
              obtain ⟨c1, c2, c3, c4⟩ := Hin.out
              have w8 := Hp.out.w8
              have h8 := Hp.out.h8
              rw [Hsx.out] at c1 c2
              rw [Hsy.out] at c3 c4
              unfold stepI at c1 c2 c3 c4
              rcases ofDir Hwy.out Hdr.out (by have := Hp.out.t0; have := Hp.out.t1; omega) with h | h
              · exact far_off a1 (by omega) h c1 (by omega)
              · exact far_off a3 (by omega) h c3 (by omega)
            obtain ⟨fq, hfq⟩ : ∃ fq, fitsT p.turn wy.take p.cells[i].toNat = fq := ⟨_, rfl⟩
            rw [hfq] at hray2 ⊢
            have Hst2 := hide (show MvSt (w'.drewN k0) gl base u' (L ++ raysM p wy a c (ds.take j) ++ M) from Hst.out.drewN k0)
            have Hgr2 := hide (show Grew gl wd (w'.drewN k0) u u' from Hgr.out.drewN k0)
            have Hga4 := hide (Hga3.out.drewN k0)
            have Hgp4 := hide (Hgp3.out.drewN k0)
            have Hlen2 := hide (show (L ++ raysM p wy a c (ds.take j) ++ M).length < 1000000 by
              have h1 := Hlen.out
              have h2 := HM.out
              rw [List.length_append]
              omega)
            obtain ⟨w5, hw5⟩ : ∃ w5, w'.drewN k0 = w5 := ⟨_, rfl⟩
            rw [hw5] at Hst2 Hgr2 Hga4 Hgp4 ⊢
            have hray3 := Hray.out
            rw [hray2, ← List.append_assoc] at hray3
            have Hray3 := hide hray3
            clear hfq hw5 hray2 hray3 Hst Hgr Hga3 Hgp3 p0 p1 p2 p3 p4 p5 b0 b1 b2 b3 d1 d2 d3 d4 i1 i3 i4
            go_upto_if 85 with (fail)
            go_cut [] (fun w2 => RayE gl base wd u (L ++ raysM p wy a c (ds.take j)) (M ++ (if fq = true then [⟨a, (i : Nat), c⟩] else [])) w2)
            case first =>
              cases fq
              · go_wp2_with fail
                go_meet
                case rel => exact ⟨u', by simpa using Hst2.out, Hgr2.out⟩
              · go_wp2_with (go_at_call 178; refine (clo_push a i c wo As ns cs gl ga gp base u' _ w5 Hst2.out Hlen2.out Hga4.out Hgp4.out).mono ?_; rintro e w6 ⟨rfl, u6, hs6, hg6⟩)
                go_meet
                case rel => exact ⟨u6, by rw [← List.append_assoc]; exact hs6, Hgr2.out.trans hg6⟩
            case rest =>
              obtain ⟨AD, hAD⟩ : ∃ AD : List Mv, (if fq = true then [(⟨a, (i : Nat), c⟩ : Mv)] else []) = AD := ⟨_, rfl⟩
              have hadl : AD.length ≤ 1 := by rw [← hAD]; split <;> simp
              rw [hAD] at hcut Hray3
              have HE := hide hcut
              clear hAD
              obtain ⟨u7, hs7, hg7⟩ := HE.out
              obtain ⟨b0, b1, b2, b3⟩ := (hg7.blk Hsd.out Hbw2.out (by decide) (by decide)).four'
              obtain ⟨ks, hks⟩ : ∃ ks, (wy.kind == 2) = ks := ⟨_, rfl⟩
              obtain ⟨ce, hce⟩ : ∃ ce, (p.cells[i].toNat == 46) = ce := ⟨_, rfl⟩
              have e1 : ((p.cells[i].toNat : Int) == 46) = ce := eq_bool hce
              have Hce := hide hce
              have Hks := hide hks
              clear hcut hs7 hg7 hce
              cases ks
              · have HX := hide (show RayE gl base wd u (L ++ raysM p wy a c (ds.take j)) (rayM p wy a c dx dy 8 xx yy) _ from by
                  have h1 := Hray3.out
                  rw [if_neg (fun h => by have := Hks.out; simp [h.1] at this), List.append_nil] at h1
                  rw [← h1]
                  exact HE.out)
                go_wp2_with fail
                simp only [Exit.jump]
                go_wp2_with fail
                go_roundw
                case rel =>
                  refine ⟨j + 1, by omega, by go_num, ?_⟩
                  rw [Htk.out]
                  exact HD.out _ _ HX.out
                case measure => simp [intOf]; omega
              · cases ce
                · have HX := hide (show RayE gl base wd u (L ++ raysM p wy a c (ds.take j)) (rayM p wy a c dx dy 8 xx yy) _ from by
                    have h1 := Hray3.out
                    rw [if_neg (fun h => by have := Hce.out; simp [h.2] at this), List.append_nil] at h1
                    rw [← h1]
                    exact HE.out)
                  go_wp2_with fail
                  simp only [Exit.jump]
                  go_wp2_with fail
                  go_roundw
                  case rel =>
                    refine ⟨j + 1, by omega, by go_num, ?_⟩
                    rw [Htk.out]
                    exact HD.out _ _ HX.out
                  case measure => simp [intOf]; omega
                · have Hray4 := hide (show (M ++ AD) ++ rayM p wy a c dx dy (8 - (t + 1)) (stepI xx dx (t + 1)) (stepI yy dy (t + 1)) = rayM p wy a c dx dy 8 xx yy by
                    have h1 := Hray3.out
                    rw [if_pos ⟨by have := Hks.out; simpa using this, by have := Hce.out; simpa using this⟩] at h1
                    rw [← Hsx.out, ← Hsy.out, show 8 - (t + 1) = 7 - t by omega]
                    exact h1)
                  go_wp2_with fail
                  go_step3
                  refine ⟨rfl, ⟨t + 1, tx, ty, Hsx.out, Hsy.out, ?eq, ?st⟩, ?ms⟩
                  case eq => exact rfl
                  case st => exact ⟨ht7, _, (by rw [List.length_append]; have := HM.out; omega), HE.out, Hray4.out⟩
                  case ms =>
                    show 8 - stepsOf xx yy dx dy tx ty < 8 - stepsOf xx yy dx dy sx sy
                    rw [Hms.out, Hsx.out, Hsy.out, stepsOf_eq (ofDir Hwy.out Hdr.out (by have := Hp.out.t0; have := Hp.out.t1; omega))]
                    omega
        · have HX := hide (show ∀ k, RayE gl base wd u (L ++ raysM p wy a c (ds.take j)) (rayM p wy a c dx dy 8 xx yy) (w'.drewN k) from fun k => ⟨u', by
            have h1 := Hray.out
            rw [Hrx.out, if_neg (fun h => hin (onB_iff.1 h)), List.append_nil] at h1
            rw [← h1]
            exact Hst.out.drewN k, Hgr.out.drewN k⟩)
          have Hin := hide (show ¬ (0 ≤ tx ∧ tx < (n : Int) ∧ 0 ≤ ty ∧ ty < (m : Int)) from fun ⟨o1, o2, o3, o4⟩ => hin ⟨o1, by rw [Hn.out]; exact o2, o3, by rw [Hm.out]; exact o4⟩)
          clear hin
          by_cases o1 : 0 ≤ tx
          · have d1 : decide (tx < 0) = false := decide_eq_false (by omega)
            by_cases o2 : tx < (n : Int)
            · have d2 : decide (tx ≥ (n : Int)) = false := decide_eq_false (by omega)
              by_cases o3 : 0 ≤ ty
              · have d3 : decide (ty < 0) = false := decide_eq_false (by omega)
                have o4 : ¬ ty < (m : Int) := fun o4 => Hin.out ⟨o1, o2, o3, o4⟩
                have d4 : decide (ty ≥ (m : Int)) = true := decide_eq_true (by omega)
                clear o1 o2 o3 o4
                go_wp2_with fail
                simp only [Exit.jump]
                go_wp2_with fail
                go_roundw
                case rel =>
                  refine ⟨j + 1, by omega, by go_num, ?_⟩
                  rw [Htk.out]
                  exact HD.out _ _ (HX.out _)
                case measure => simp [intOf]; omega
              · have d3 : decide (ty < 0) = true := decide_eq_true (by omega)
                clear o1 o2 o3
                go_wp2_with fail
                simp only [Exit.jump]
                go_wp2_with fail
                go_roundw
                case rel =>
                  refine ⟨j + 1, by omega, by go_num, ?_⟩
                  rw [Htk.out]
                  exact HD.out _ _ (HX.out _)
                case measure => simp [intOf]; omega
            · have d2 : decide (tx ≥ (n : Int)) = true := decide_eq_true (by omega)
              clear o1 o2
              go_wp2_with fail
              simp only [Exit.jump]
              go_wp2_with fail
              go_roundw
              case rel =>
                refine ⟨j + 1, by omega, by go_num, ?_⟩
                rw [Htk.out]
                exact HD.out _ _ (HX.out _)
              case measure => simp [intOf]; omega
          · have d1 : decide (tx < 0) = true := decide_eq_true (by omega)
            clear o1
            go_wp2_with fail
            simp only [Exit.jump]
            go_wp2_with fail
            go_roundw
            case rel =>
              refine ⟨j + 1, by omega, by go_num, ?_⟩
              rw [Htk.out]
              exact HD.out _ _ (HX.out _)
            case measure => simp [intOf]; omega
    · obtain rfl : j = ds.length := by omega
      rw [List.take_length] at Hst
      go_wp2_with fail
      refine bodyPost_end (results_none rfl _ _ _) rfl ?_
      refine ⟨rfl, u, ?_, ?_⟩
      · rw [← Hfin.out]; exact Hst.out
      · exact Hw1.out.grew.trans Hgr.out
end Go.Proofs.YtcdfeaodfmfdnaaGreatDoor
