/- strings.Builder in a field of a house: WriteString and String, walked. A house of a game: what its cells hold. A house of a game, plainly. (*house.clock).pass: walked. -/
import Derived.Test.YtcdfeaodfmfdnaaGreatDoorPlBxM
import Derived.Lib.UnsafeStr
import Derived.Test.YtcdfeaodfmfdnaaGreatDoorPlRuM
import Derived.Test.YtcdfeaodfmfdnaaGreatDoorPlTxM
import Derived.Test.YtcdfeaodfmfdnaaGreatDoorPlBoardHand
import Derived.BigRegion
namespace Go.Proofs.YtcdfeaodfmfdnaaGreatDoor
open Go.RowKit

section
variable {P : Program} (w : World)
/-- where the row lies behind an append of a text -/
theorem str_lies (base : Nat) (t u ty e : TypeId) (i : TypeInfo) (ht : P.underlying t = some (.slice e)) (hu : P.underlying u = some .string) (hi : P.info? e = some i) (hz : i.zero = some (.int .u8 0))
  (hsize : i.size = 1) (hby : i.bytes = 1) (v : Value) (n : Nat) (xs : List Value) (hown : w.ownsRowF base e 1 v n xs) (s : ByteArray) (hbytes : n + s.size ≤ 140737488355328)
  {v' : Value} {w' : World} (hr : (Builtin.append_ #[t, u] ty #[v, .string s]).run P w = .ok v' w') : v'.ownBlock = v.ownBlock ∨ ∃ g, v'.ownBlock = some g ∧ w.heap.size ≤ g := by
 rcases id hown.2 with ⟨rfl, rfl⟩ | ⟨g, cap, cur, fz, rfl, _, hg, hfz, _, hcm, hcs, _⟩
 ·
  obtain ⟨v2, w2, r1, r2, _, _⟩ := Lib.run_append_own_stringF (P := P) w w.heap.size t u ty e i ht hu hi hz hsize hby (.slice none 0 0) 0 xs ⟨hown.1, .inl ⟨rfl, rfl⟩⟩ s (by unfold maxLen; omega) (by omega) (Nat.le_refl _)
  rw [hr] at r1
  injection r1 with r1 _
  subst r1
  rcases r2.2 with ⟨hv, _⟩ | ⟨g, _, _, _, hv, hb, _⟩
  ·
   exact .inl (by rw [hv])
  ·
   exact .inr ⟨g, by rw [hv]; rfl, hb⟩
 ·
  by_cases hroom : n + s.size ≤ cap
  ·
   rw [Lib.run_append_room_stringF (P := P) w t u ty e i ht hu hi hsize g n cap cur fz hg (by simpa using hfz) s hroom (by omega)] at hr
   injection hr with hr _
   exact .inl (by rw [← hr]; rfl)
  ·
   have hxl : xs.length = n := by simpa using hown.1
   rw [Lib.run_append_grow_string (P := P) w t u ty e i (.int .u8 0) ht hu hi hz ⟨g, 0, none⟩ n cap xs (by rw [hsize]; simpa using hxl) (hown.cells (g := g) rfl) s (by omega) (by omega) (by rw [hby]; exact growslice_fits (by omega) (by omega))] at hr
   injection hr with hr _
   exact .inr ⟨w.heap.size, by rw [← hr]; rfl, Nat.le_refl _⟩
theorem wpList_append_str {ops : Array Oper} {rest : List Oper} {o : Oper} {a : Act} {Q : Exit → Act → World → Prop} (hgd : o.guard = none) (sl x : Operand) (t u : TypeId)
  (ho : o.op = .call { callee := .builtin .append, args := #[sl, x], argTypes := #[t, u] })
  (base : Nat) (e : TypeId) (i : TypeInfo) (ht : P.underlying t = some (.slice e)) (hu : P.underlying u = some .string) (hi : P.info? e = some i) (hz : i.zero = some (.int .u8 0))
  (hsize : i.size = 1) (hby : i.bytes = 1) (v : Value) (n : Nat) (xs : List Value) (hs : a.eval sl = v) (hown : w.ownsRowF base e 1 v n xs) (s : ByteArray) (hx : a.eval x = .string s)
  (hbytes : n + s.size ≤ 140737488355328) (hbase : base ≤ w.heap.size)
  (h : ∀ v' w', w'.ownsRowF base e 1 v' (n + s.size) (xs ++ Lib.strCells s) → w.grownBy w' v.ownBlock → (v'.ownBlock = v.ownBlock ∨ ∃ g, v'.ownBlock = some g ∧ w.heap.size ≤ g) → wpList P ops Q rest (a.put o.dst v') w') : wpList P ops Q (o :: rest) a w := by
 refine wpList_plain hgd fun K hK => ?_
 obtain ⟨v', w', hr, h2, h3, _⟩ := Lib.run_append_own_stringF (P := P) w base t u o.type e i ht hu hi hz hsize hby v n xs hown s (by unfold maxLen; omega) hbytes hbase
 have hl := str_lies w base t u o.type e i ht hu hi hz hsize hby v n xs hown s hbytes hr
 unfold Oper.wp execOp
 simp only [ho, resolve, invoke, builtin, Sem.run_bind, Sem.run_pure, Result.andThen_ok, List.map_toArray, List.map_cons, List.map_nil, hs, hx, hr]
 exact hK _ _ (h v' w' h2 h3 hl)
end
/-- a house's block whose builder holds the bytes l; its row lies from B on -/
structure HB (w : World) (B h : Nat) (C : Array Value) (v : Value) (l : List UInt8) : Prop where
 blk : Blk w h 121 C
 sz : C.size = 26
 ad : C[24]? = some (.pointer none) ∨ C[24]? = some (.pointer (some ⟨h, 24, none⟩))
 bf : C[25]? = some v
 own : w.ownsRowF B 5 1 v l.length (Lib.byteCells l)
 ne : v.ownBlock ≠ some h
theorem lies_house : liesAt Tryz.prog Tryz.prog.depth 121 (26 / Tryz.prog.cellsOf 121) 24 119 1 = true := by kernel_rfl
theorem ownsRowF_only {w w' : World} {S : Nat → Prop} {base : Nat} {e : TypeId} {size : Nat} {v : Value} {n : Nat} {xs : List Value} (h : w.ownsRowF base e size v n xs) (ho : Only S w w') (hS : ∀ k, v.ownBlock = some k → ¬ S k) : w'.ownsRowF base e size v n xs := by
 refine ⟨h.1, ?_⟩
 rcases h.2 with hn | ⟨g, cap, cur, fz, hv, hb, hg, rest⟩
 ·
  exact .inl hn
 ·
  refine .inr ⟨g, cap, cur, fz, hv, hb, ?_, rest⟩
  rw [ho.block g (Array.getElem?_eq_some_iff.1 hg).1 (hS g (by rw [hv]; rfl))]
  exact hg
/-- elsewhere something is done -/
theorem HB.only {w w' : World} {S : Nat → Prop} {B h : Nat} {C : Array Value} {v : Value} {l : List UInt8} (hb : HB w B h C v l) (ho : Only S w w') (h1 : ¬ S h) (h2 : ∀ k, v.ownBlock = some k → ¬ S k) : HB w' B h C v l :=
 ⟨hb.blk.only ho h1, hb.sz, hb.ad, hb.bf, ownsRowF_only hb.own ho h2, hb.ne⟩
/-- a cell ahead of the builder is written -/
theorem HB.set_ {w : World} {B h : Nat} {C : Array Value} {v : Value} {l : List UInt8} (hb : HB w B h C v l) (i : Nat) (hi : i < 24) (u : Value) : HB (w.setCell ⟨h, i, none⟩ u) B h (C.setIfInBounds i u) v l :=
 ⟨hb.blk.set_ i u, by simp [hb.sz], by rw [Array.getElem?_setIfInBounds_ne (by omega)]; exact hb.ad, by rw [Array.getElem?_setIfInBounds_ne (by omega)]; exact hb.bf,
  ownsRowF_only hb.own ((Only.refl (fun x => x = h) w).setCell (p := ⟨h, i, none⟩) (.inl rfl) u) (fun k hk e => hb.ne (by rw [hk, e])), hb.ne⟩
set_option maxHeartbeats 1000000 in
set_option maxRecDepth 100000 in
theorem hcopy_used (h : Nat) (w : World) (h0 : w.cell? ⟨h, 24, none⟩ = some (.pointer (some ⟨h, 24, none⟩))) :
  Calls Tryz.prog 107 #[.pointer (some ⟨h, 24, none⟩)] w fun e w' => e = .returned (.tuple #[]) ∧ w' = w := by
 obtain ⟨j, hj, _⟩ := Option.map_eq_some_iff.1 size_builder
 go_enter Tryz.func107, Tryz.ntmps107
 go_wp2
 rw [Lib.run_neq_ptr_same w _ Tryz.underlying117 hj]
 go_wp2
 go_end0
 exact ⟨rfl, rfl⟩
set_option maxHeartbeats 1000000 in
set_option maxRecDepth 100000 in
theorem hcopy_fresh (h : Nat) (w : World) (h0 : w.cell? ⟨h, 24, none⟩ = some (.pointer none)) (hsh : w.shape? h = some (121, 26)) (hfz : w.frozen? ⟨h, 24, none⟩ = false) :
  Calls Tryz.prog 107 #[.pointer (some ⟨h, 24, none⟩)] w fun e w' => e = .returned (.tuple #[]) ∧ w' = w.setCell ⟨h, 24, none⟩ (.pointer (some ⟨h, 24, none⟩)) := by
 obtain ⟨j, hj, hjs⟩ := Option.map_eq_some_iff.1 size_builder
 go_enter Tryz.func107, Tryz.ntmps107
 go_wp2
 rw [Lib.run_to_unsafe w ⟨h, 24, none⟩ Tryz.underlying117 Tryz.underlying197 hj (by rw [hjs]; decide) hsh (show 24 < 26 by decide)]
 simp only [Result.andThen]
 rw [Oper.upon_value]
 go_wp2
 rw [run_callFunc_extern Tryz.func136 (by kernel_rfl) (by kernel_rfl) (by kernel_rfl) (e := Extern.AbiNoEscape.same) (by kernel_rfl)]
 rw [Lib.run_noEscape]
 simp only [Result.andThen]
 rw [Oper.upon_value]
 go_wp2
 rw [Lib.run_from_unsafe w ⟨h, 24, none⟩ Tryz.underlying197 Tryz.underlying117 hj hsh lies_house]
 simp only [Result.andThen]
 rw [Oper.upon_value]
 go_wp2
 go_end0
 exact ⟨rfl, rfl⟩
theorem HB.used {w : World} {B h : Nat} {C : Array Value} {v : Value} {l : List UInt8} (hb : HB w B h C v l) (u : Value) (hu : u = .pointer (some ⟨h, 24, none⟩)) : HB (w.setCell ⟨h, 24, none⟩ u) B h (C.setIfInBounds 24 u) v l := by
 subst hu
 refine ⟨hb.blk.set_ 24 _, by simp [hb.sz], .inr (by rw [Array.getElem?_setIfInBounds]; simp [hb.sz]), by rw [Array.getElem?_setIfInBounds_ne (by omega)]; exact hb.bf,
  ownsRowF_only hb.own ((Only.refl (fun x => x = h) w).setCell (p := ⟨h, 24, none⟩) (.inl rfl) _) (fun k hk e => hb.ne (by rw [hk, e])), hb.ne⟩
theorem hcopy_any (B h : Nat) (C : Array Value) (v : Value) (l : List UInt8) (w : World) (hb : HB w B h C v l) :
  Calls Tryz.prog 107 #[.pointer (some ⟨h, 24, none⟩)] w fun e w' => e = .returned (.tuple #[]) ∧ HB w' B h (C.setIfInBounds 24 (.pointer (some ⟨h, 24, none⟩))) v l ∧ Only (fun x => x = h) w w' ∧ w'.heap.size = w.heap.size := by
 rcases hb.ad with ha | ha
 ·
  refine (hcopy_fresh h w (hb.blk.cellv ha) (by simp [World.shape?, show w.heap[h]? = _ from hb.blk, hb.sz]) (hb.blk.free 24)).mono ?_
  rintro e w' ⟨rfl, rfl⟩
  exact ⟨rfl, hb.used _ rfl, (Only.refl (fun x => x = h) w).setCell (p := ⟨h, 24, none⟩) (.inl rfl) _, by simp⟩
 ·
  refine (hcopy_used h w (hb.blk.cellv ha)).mono ?_
  rintro e w' ⟨rfl, rfl⟩
  have : C.setIfInBounds 24 (.pointer (some ⟨h, 24, none⟩)) = C := by
   apply Array.ext_getElem?
   intro i
   rw [Array.getElem?_setIfInBounds]
   by_cases e : 24 = i
   ·
    subst e; rw [ha]; simp [hb.sz]
   ·
    simp [e]
  rw [this]
  exact ⟨rfl, hb, Only.refl _ _, rfl⟩
set_option maxHeartbeats 2000000 in
set_option maxRecDepth 100000 in
theorem hwstr_any (B h : Nat) (C : Array Value) (v : Value) (l : List UInt8) (s : ByteArray) (w : World) (hb : HB w B h C v l) (hlen : l.length + s.size ≤ 140737488355328) (hBw : B ≤ w.heap.size) :
  Calls Tryz.prog 62 #[.pointer (some ⟨h, 24, none⟩), .string s] w fun e w' => e = .returned (.tuple #[.int .i64 s.size, .nilIface]) ∧
   ∃ v', HB w' B h ((C.setIfInBounds 24 (.pointer (some ⟨h, 24, none⟩))).setIfInBounds 25 v') v' (l ++ s.data.toList) ∧ (v'.ownBlock = v.ownBlock ∨ ∃ g, v'.ownBlock = some g ∧ w.heap.size ≤ g) ∧ Only (fun x => x = h ∨ v.ownBlock = some x) w w' := by
 obtain ⟨i0, hi, hz0, hz1, hz2⟩ := info_parts info_byte
 go_enter Tryz.func62, Tryz.ntmps62
 go_wp2_with (go_at_call 107; refine (hcopy_any B h C v l _ hb).mono ?_)
 rintro e w1 ⟨rfl, hb1, ho1, hsz1⟩
 have hown := hb1.own
 have c1 : w1.cell? ⟨h, 25, none⟩ = some v := hb1.blk.cellv hb1.bf
 go_wp2_with (at_builtin; refine wpList_append_str _ rfl _ _ 96 9 rfl B 5 i0 Tryz.underlying96 Tryz.underlying9 hi hz0 hz1 hz2 _ _ _ rfl hown s rfl ?c4 ?c5 ?_)
 case c4 => omega
 case c5 => omega
 intro v' w2 hown' hgrow hlies
 have hb2 : Blk w2 h 121 (C.setIfInBounds 24 (.pointer (some ⟨h, 24, none⟩))) := hb1.blk.grown hgrow (fun e => hb1.ne e.symm)
 have f1 : w2.frozen? ⟨h, 25, none⟩ = false := hb2.free 25
 have d1 : w2.cell? ⟨h, 25, none⟩ = some v := hb2.cellv hb1.bf
 obtain ⟨ao, n', cap, rfl⟩ : ∃ ao n' cap, v' = .slice ao n' cap := by
  rcases hown'.2 with ⟨hv, _⟩ | ⟨g, cap, cur, fz, hv, _⟩
  ·
   exact ⟨_, _, _, hv⟩
  ·
   exact ⟨_, _, _, hv⟩
 go_wp2
 go_ret2
 have hlt := hb1.blk.lt
 have hne2 : (Value.slice ao n' cap).ownBlock ≠ some h := by
  rcases hlies with e | ⟨g, e, hg⟩
  ·
   rw [e]; exact hb1.ne
  ·
   rw [e]; intro e2; injection e2 with e2; omega
 have ho2 : Only (fun x => x = h ∨ v.ownBlock = some x) w w2 := (ho1.mono (fun _ _ h => .inl h)).grown hgrow (fun k hk => .inl (.inr hk))
 refine ⟨rfl, _, ⟨hb2.set_ 25 _, by simp [hb.sz], .inr (by rw [Array.getElem?_setIfInBounds_ne (by omega), Array.getElem?_setIfInBounds]; simp [hb.sz]), by rw [Array.getElem?_setIfInBounds]; simp [hb.sz], ?_, hne2⟩, ?_, ho2.setCell (p := ⟨h, 25, none⟩) (.inl (.inl rfl)) _⟩
 ·
  refine ownsRowF_only ?_ ((Only.refl (fun x => x = h) w2).setCell (p := ⟨h, 25, none⟩) (.inl rfl) _) (fun k hk e => hne2 (by rw [hk, e]))
  rw [Lib.byteCells_append, ← Lib.strCells_eq, List.length_append, show s.data.toList.length = s.size by simp]
  exact hown'
 ·
  rcases hlies with e | ⟨g, e, hg⟩
  ·
   exact .inl e
  ·
   exact .inr ⟨g, e, by omega⟩
end Go.Proofs.YtcdfeaodfmfdnaaGreatDoor
namespace Go.Proofs.YtcdfeaodfmfdnaaGreatDoor
open Go.RowKit

structure HoD where
 l0 : Int
 l1 : Int
 now : Int
 r : RulesD
 p : Pos
 ply : Int
 flag : Int
 lines : List UInt8
structure MsgD where
 seat : Int
 ply : Int
 mv : ByteArray
 at_ : Int
/-- time passes -/
def passP (s : HoD) (t : Int) : HoD := if s.now < t then (if s.p.turn = 0 then { s with l0 := s.l0 - (t - s.now), now := t } else { s with l1 := s.l1 - (t - s.now), now := t }) else s
def leftP (s : HoD) : Int := if s.p.turn = 0 then s.l0 else s.l1
theorem pass_same (s : HoD) (t : Int) : (passP s t).r = s.r ∧ (passP s t).p = s.p ∧ (passP s t).ply = s.ply ∧ (passP s t).flag = s.flag ∧ (passP s t).lines = s.lines ∧ s.now ≤ (passP s t).now ∧ t ≤ (passP s t).now := by
 unfold passP
 split
 ·
  split
  ·
   exact ⟨rfl, rfl, rfl, rfl, rfl, by simp only; omega, Int.le_refl _⟩
  ·
   exact ⟨rfl, rfl, rfl, rfl, rfl, by simp only; omega, Int.le_refl _⟩
 ·
  exact ⟨rfl, rfl, rfl, rfl, rfl, Int.le_refl _, by omega⟩
theorem pass_old {s : HoD} {t : Int} (h : t ≤ s.now) : passP s t = s := by unfold passP; rw [if_neg (by omega)]
/-- the cells of a house -/
def hoC (s : HoD) (A : Option Addr) (cp : Nat) (ad v : Value) : Array Value :=
 #[.int .i64 s.l0, .int .i64 s.l1, .int .i64 s.now, .int .i64 s.r.start.w, .int .i64 s.r.start.h, .string s.r.start.cells, .int .i64 s.r.start.turn, .string s.r.start.h0, .string s.r.start.h1, .slice A s.r.pieces.length cp, .bool s.r.drops, .int .u8 (s.r.lose : Int), .int .i64 s.r.line, .int .u8 (s.r.reach : Int), .bool s.r.stuck, .int .i64 s.r.plies,
  .int .i64 s.p.w, .int .i64 s.p.h, .string s.p.cells, .int .i64 s.p.turn, .string s.p.h0, .string s.p.h1, .int .i64 s.ply, .int .i64 s.flag, ad, v]
theorem HB.drew {w : World} {B h : Nat} {C : Array Value} {v : Value} {l : List UInt8} (hb : HB w B h C v l) : HB w.drew B h C v l := ⟨hb.blk, hb.sz, hb.ad, hb.bf, hb.own, hb.ne⟩
/-- where the cells are: the clock, the rules, the position, the rest -/
theorem HB.clock {w : World} {B h : Nat} {s : HoD} {A : Option Addr} {cp : Nat} {ad v v' : Value} {l : List UInt8} (hb : HB w B h (hoC s A cp ad v) v' l) : w.cell? ⟨h, 0, none⟩ = some (.int .i64 s.l0) ∧ w.cell? ⟨h, 1, none⟩ = some (.int .i64 s.l1) ∧ w.cell? ⟨h, 2, none⟩ = some (.int .i64 s.now) := ⟨hb.blk.cellv rfl, hb.blk.cellv rfl, hb.blk.cellv rfl⟩
theorem HB.rules {w : World} {B h : Nat} {s : HoD} {A : Option Addr} {cp : Nat} {ad v v' : Value} {l : List UInt8} (hb : HB w B h (hoC s A cp ad v) v' l) : w.cell? ⟨h, 3, none⟩ = some (.int .i64 s.r.start.w) ∧ w.cell? ⟨h, 4, none⟩ = some (.int .i64 s.r.start.h) ∧ w.cell? ⟨h, 5, none⟩ = some (.string s.r.start.cells) ∧ w.cell? ⟨h, 6, none⟩ = some (.int .i64 s.r.start.turn) ∧ w.cell? ⟨h, 7, none⟩ = some (.string s.r.start.h0) ∧ w.cell? ⟨h, 8, none⟩ = some (.string s.r.start.h1) ∧ w.cell? ⟨h, 9, none⟩ = some (.slice A s.r.pieces.length cp) ∧ w.cell? ⟨h, 10, none⟩ = some (.bool s.r.drops) ∧ w.cell? ⟨h, 11, none⟩ = some (.int .u8 (s.r.lose : Int)) ∧ w.cell? ⟨h, 12, none⟩ = some (.int .i64 s.r.line) ∧ w.cell? ⟨h, 13, none⟩ = some (.int .u8 (s.r.reach : Int)) ∧ w.cell? ⟨h, 14, none⟩ = some (.bool s.r.stuck) ∧ w.cell? ⟨h, 15, none⟩ = some (.int .i64 s.r.plies) := ⟨hb.blk.cellv rfl, hb.blk.cellv rfl, hb.blk.cellv rfl, hb.blk.cellv rfl, hb.blk.cellv rfl, hb.blk.cellv rfl, hb.blk.cellv rfl, hb.blk.cellv rfl, hb.blk.cellv rfl, hb.blk.cellv rfl, hb.blk.cellv rfl, hb.blk.cellv rfl, hb.blk.cellv rfl⟩
theorem HB.pos {w : World} {B h : Nat} {s : HoD} {A : Option Addr} {cp : Nat} {ad v v' : Value} {l : List UInt8} (hb : HB w B h (hoC s A cp ad v) v' l) : w.cell? ⟨h, 16, none⟩ = some (.int .i64 s.p.w) ∧ w.cell? ⟨h, 17, none⟩ = some (.int .i64 s.p.h) ∧ w.cell? ⟨h, 18, none⟩ = some (.string s.p.cells) ∧ w.cell? ⟨h, 19, none⟩ = some (.int .i64 s.p.turn) ∧ w.cell? ⟨h, 20, none⟩ = some (.string s.p.h0) ∧ w.cell? ⟨h, 21, none⟩ = some (.string s.p.h1) := ⟨hb.blk.cellv rfl, hb.blk.cellv rfl, hb.blk.cellv rfl, hb.blk.cellv rfl, hb.blk.cellv rfl, hb.blk.cellv rfl⟩
theorem HB.rest {w : World} {B h : Nat} {s : HoD} {A : Option Addr} {cp : Nat} {ad v v' : Value} {l : List UInt8} (hb : HB w B h (hoC s A cp ad v) v' l) : w.cell? ⟨h, 22, none⟩ = some (.int .i64 s.ply) ∧ w.cell? ⟨h, 23, none⟩ = some (.int .i64 s.flag) ∧ w.cell? ⟨h, 24, none⟩ = some (ad) ∧ w.cell? ⟨h, 25, none⟩ = some (v) := ⟨hb.blk.cellv rfl, hb.blk.cellv rfl, hb.blk.cellv rfl, hb.blk.cellv rfl⟩
end Go.Proofs.YtcdfeaodfmfdnaaGreatDoor
namespace Go.Proofs.YtcdfeaodfmfdnaaGreatDoor
open Go.RowKit

/-- the outcome of the game -/
noncomputable def outP (s : HoD) : Int := if 0 < s.flag then s.flag else if endsN s.r s.p = 0 ∧ s.r.plies ≤ s.ply then 3 else endsN s.r s.p
noncomputable def readM (r : RulesD) (p : Pos) (b : ByteArray) : Option Mv := (movesL r p).find? (fun m => decide (bytes (mv_textL p m) = b))
/-- the line of a move that is made -/
def lineH (s : HoD) (mv : ByteArray) : List UInt8 := Lib.itoa s.ply ++ 32 :: (Lib.itoa s.now ++ 32 :: (mv.data.toList ++ [10]))
def doneP (s : HoD) (m : MsgD) (x : Mv) : HoD := { s with lines := s.lines ++ lineH s m.mv, p := madeP s.r s.p x, ply := s.ply + 1 }
noncomputable def takeP (s : HoD) (m : MsgD) : HoD × Int :=
 if outP s ≠ 0 then (s, 5)
 else if leftP (passP s m.at_) < 0 then ({ passP s m.at_ with flag := 2 - s.p.turn }, 5)
 else if m.ply ≠ s.ply then (passP s m.at_, 2)
 else if m.seat ≠ s.p.turn then (passP s m.at_, 3)
 else match readM s.r s.p m.mv with
  | none => (passP s m.at_, 4)
  | some x => (doneP (passP s m.at_) m x, 1)
/-- what holds of a house at each moment -/
structure HoOk (s : HoD) : Prop where
 of : OfOk s.r s.p
 now : 0 ≤ s.now
 nowb : s.now ≤ 9223372036854775807
 ply : 0 ≤ s.ply
 plies : s.ply ≤ s.r.plies
 open_ : s.flag = 0 → 0 ≤ s.l0 ∧ 0 ≤ s.l1
 b0 : -9223372036854775808 ≤ s.l0 ∧ s.l0 ≤ 1000000
 b1 : -9223372036854775808 ≤ s.l1 ∧ s.l1 ≤ 1000000
 flag : 0 ≤ s.flag ∧ s.flag ≤ 2
 len : (s.lines.length : Int) ≤ 1000 * s.ply
theorem out_open {s : HoD} (h : outP s = 0) (hok : HoOk s) : s.flag = 0 ∧ endsN s.r s.p = 0 ∧ s.ply < s.r.plies := by
 unfold outP at h
 have := hok.flag
 split at h
 ·
  omega
 ·
  split at h
  ·
   omega
  ·
   rename_i h1 h2
   exact ⟨by omega, h, by have := fun e => h2 ⟨h, e⟩; omega⟩
end Go.Proofs.YtcdfeaodfmfdnaaGreatDoor
namespace Go.Proofs.YtcdfeaodfmfdnaaGreatDoor
open Go.RowKit

set_option maxHeartbeats 4000000 in
set_option maxRecDepth 100000 in
theorem hpass_any (B h : Nat) (s : HoD) (A : Option Addr) (cp : Nat) (ad v : Value) (l : List UInt8) (t : Int) (W : World) (hb : HB W B h (hoC s A cp ad v) v l) (ht : s.p.turn = 0 ∨ s.p.turn = 1) (hn : 0 ≤ s.now) (h0 : 0 ≤ s.l0 ∧ s.l0 ≤ 1000000) (h1 : 0 ≤ s.l1 ∧ s.l1 ≤ 1000000) (ht0 : -9223372036854775808 ≤ t) (ht1 : t ≤ 9223372036854775807) :
  Calls Tryz.prog 61 #[.pointer (some ⟨h, 0, none⟩), .int .i64 t, .int .i64 s.p.turn] W fun e w' => e = .returned (.bool (decide (0 ≤ leftP (passP s t)))) ∧ HB w' B h (hoC (passP s t) A cp ad v) v l ∧ Only (fun x => x = h) W w' := by
 have HBd := hide hb
 obtain ⟨c0, c1, c2⟩ := hb.clock
 have f0 := hb.blk.free 0
 have f1 := hb.blk.free 1
 have f2 := hb.blk.free 2
 obtain ⟨tn, htn⟩ : ∃ tn, s.p.turn = tn := ⟨_, rfl⟩
 rw [htn] at ht
 clear hb
 by_cases q : s.now < t
 ·
  have d : decide (t > s.now) = true := by simpa using q
  rcases ht with rfl | rfl
  ·
   have hp : passP s t = { s with l0 := s.l0 - (t - s.now), now := t } := by unfold passP; rw [if_pos q, if_pos htn]
   have hl : leftP (passP s t) = s.l0 - (t - s.now) := by rw [hp]; unfold leftP; simp only; rw [if_pos htn]
   rw [hl, hp, htn]
   clear hl hp htn
   go_enter Tryz.func61, Tryz.ntmps61
   go_wp2_with fail
   go_big_region
   go_wp2_with fail
   go_ret
   refine ⟨show Ending.returned (Value.bool (decide (t - s.now ≤ s.l0))) = Ending.returned (Value.bool (decide (0 ≤ s.l0 - (t - s.now)))) from by rw [show decide (t - s.now ≤ s.l0) = decide (0 ≤ s.l0 - (t - s.now)) from decide_eq_decide.2 ⟨fun _ => by omega, fun _ => by omega⟩], ?_, ?_⟩
   ·
    first
     | exact (HBd.out.drew.set_ 0 (by omega) _).set_ 2 (by omega) _
     | exact (HBd.out.set_ 0 (by omega) _).drew.set_ 2 (by omega) _
   ·
    first
     | exact ((Only.refl (fun x => x = h) W).drew.setCell (p := ⟨h, 0, none⟩) (.inl rfl) _).setCell (p := ⟨h, 2, none⟩) (.inl rfl) _
     | exact ((Only.refl (fun x => x = h) W).setCell (p := ⟨h, 0, none⟩) (.inl rfl) _).drew.setCell (p := ⟨h, 2, none⟩) (.inl rfl) _
  ·
   have hp : passP s t = { s with l1 := s.l1 - (t - s.now), now := t } := by unfold passP; rw [if_pos q, if_neg (by omega)]
   have hl : leftP (passP s t) = s.l1 - (t - s.now) := by rw [hp]; unfold leftP; simp only; rw [if_neg (by omega)]
   rw [hl, hp, htn]
   clear hl hp htn
   go_enter Tryz.func61, Tryz.ntmps61
   go_wp2_with fail
   go_big_region
   go_wp2_with fail
   go_ret
   refine ⟨show Ending.returned (Value.bool (decide (t - s.now ≤ s.l1))) = Ending.returned (Value.bool (decide (0 ≤ s.l1 - (t - s.now)))) from by rw [show decide (t - s.now ≤ s.l1) = decide (0 ≤ s.l1 - (t - s.now)) from decide_eq_decide.2 ⟨fun _ => by omega, fun _ => by omega⟩], ?_, ?_⟩
   ·
    first
     | exact (HBd.out.drew.set_ 1 (by omega) _).set_ 2 (by omega) _
     | exact (HBd.out.set_ 1 (by omega) _).drew.set_ 2 (by omega) _
   ·
    first
     | exact ((Only.refl (fun x => x = h) W).drew.setCell (p := ⟨h, 1, none⟩) (.inl rfl) _).setCell (p := ⟨h, 2, none⟩) (.inl rfl) _
     | exact ((Only.refl (fun x => x = h) W).setCell (p := ⟨h, 1, none⟩) (.inl rfl) _).drew.setCell (p := ⟨h, 2, none⟩) (.inl rfl) _
 ·
  have d : decide (t > s.now) = false := by simpa using q
  have hp : passP s t = s := pass_old (by omega)
  rcases ht with rfl | rfl
  ·
   have hl : leftP (passP s t) = s.l0 := by rw [hp]; unfold leftP; rw [if_pos htn]
   rw [hl, hp, htn]
   clear hl hp htn
   go_enter Tryz.func61, Tryz.ntmps61
   go_wp2_with fail
   go_ret
   exact ⟨by simp, HBd.out, Only.refl _ _⟩
  ·
   have hl : leftP (passP s t) = s.l1 := by rw [hp]; unfold leftP; rw [if_neg (by omega)]
   rw [hl, hp, htn]
   clear hl hp htn
   go_enter Tryz.func61, Tryz.ntmps61
   go_wp2_with fail
   go_ret
   exact ⟨by simp, HBd.out, Only.refl _ _⟩
end Go.Proofs.YtcdfeaodfmfdnaaGreatDoor
