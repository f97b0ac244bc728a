/- gamekeep.MovesBack answers true and leaves what was there as it was, for all rules and every position. No condition. -/
import Derived.Test.YtdfegpohmaideaaMbBase
import Derived.Deep.RegionHeld
import Derived.Deep.CutRange
import Derived.Test.YtdfegpohmaideaaBase
import Derived.Deep.Matrix
import Derived.ProofKit
import Derived.Test.YtdfegpohmaideaaRows
import Derived.OpenShut
import Derived.ChangeMaps5
import Derived.Test.YtdfegpohmaideaaRuCheck
import Derived.ChangeArms
import Derived.Below
import Derived.ChangeSame
import Derived.WalkKit
/- The rules of a small game, plainly. -/
namespace Go.Proofs.Ytdfegpohmaideaa
open Go.RowKit

def kingsP : Pos := ⟨3, 1, ⟨#[75, 46, 107]⟩, 0, ⟨#[]⟩, ⟨#[]⟩⟩
def kingsW : WayD := ⟨1, 0, 1, 0⟩
def kingsR : RulesD := ⟨kingsP, [⟨75, 0, [kingsW]⟩], false, 75, 0, 0, false, 9⟩
theorem handB_nil : handB ⟨#[]⟩ = true := handB_true.2 ⟨by decide, fun k h => absurd h (by simp), fun k h => absurd h (by simp)⟩
theorem kings_pos : PosOk kingsP := by
  refine ⟨by decide, by decide, by decide, by decide, by decide, by decide, by decide, handB_nil, handB_nil, ?_⟩
  unfold CellsOk
  decide
theorem kings_fits : FitsL kingsR.pieces kingsP.all := by
  unfold FitsL
  decide
theorem kings_piece : PieceOk kingsR.pieces 0 ⟨75, 0, [kingsW]⟩ := by
  refine ⟨by decide, by decide, by decide, by decide, by decide, fun k hk => ?_⟩
  have : k = 0 := by simpa using hk
  subst this
  exact (by decide : WayOk kingsW)
theorem kings_rules : RulesOk kingsR := by
  refine ⟨kings_pos, by decide, by decide, by decide, by decide, by decide, fun i hi => ?_, Or.inr ⟨by decide, by decide⟩, Or.inl rfl, kings_fits⟩
  have : i = 0 := by simp [kingsR] at hi; exact hi
  subst this
  exact kings_piece
theorem kings_ok : OfOk kingsR kingsP := ⟨kings_rules, kings_pos, rfl, rfl, kings_fits⟩
theorem kings_all : allL kingsR kingsP = [⟨0, 1, 75⟩, ⟨0, 1, 75⟩] := by kernel_rfl
theorem kings_every : everyL kingsR kingsP = [⟨0, 1, 75⟩] := by
  refine (moves_sorted kings_pos (fun x hx w hw => ?_) (by simp) (fun x => ?_)).symm
  · have : x = ⟨75, 0, [kingsW]⟩ := by simpa [kingsR] using hx
    rw [this] at hw
    have : w = kingsW := by simpa using hw
    rw [this]; decide
  · rw [kings_all]; simp
theorem kings_ends : endsN kingsR kingsP = 0 := by
  unfold endsN
  have h1 : lacksB kingsR kingsP kingsP.turn = false := by rfl
  have h2 : lacksB kingsR kingsP (1 - kingsP.turn) = false := by rfl
  have h3 : ∀ pl, lineB kingsR kingsP pl = false := fun pl => by simp [lineB, kingsR]
  have h4 : ∀ pl, reachB kingsR kingsP pl = false := fun pl => by simp [reachB, kingsR]
  rw [h1, h2, h3, h3, h4, h4, kings_every]
  rfl
theorem kings_moves : movesL kingsR kingsP = [⟨0, 1, 75⟩] := by unfold movesL; rw [if_pos kings_ends, kings_every]
theorem kings_count : countA kingsR kingsP 1 = (1, 0) := by
  have h1 : waysN kingsR 1 kingsP = 1 := by rw [waysN_one, kings_moves]; rfl
  rw [countA_ok (fun j hj => by
    rcases (by omega : j = 0 ∨ j = 1) with rfl | rfl
    · rw [waysN_zero]; omega
    · rw [h1]; omega), h1]
end Go.Proofs.Ytdfegpohmaideaa
/- gamekeep.kings, gamekeep.movable -/
namespace Go.Proofs.Ytdfegpohmaideaa
open Go.RowKit

def KingsOut (W : World) (e : Ending) (w' : World) : Prop := ∃ A, e = .returned (.agg #[.int .i64 kingsR.start.w, .int .i64 kingsR.start.h, .string kingsR.start.cells, .int .i64 kingsR.start.turn, .string kingsR.start.h0, .string kingsR.start.h1, .slice A kingsR.pieces.length 1, .bool kingsR.drops, .int .u8 kingsR.lose, .int .i64 kingsR.line, .int .u8 kingsR.reach, .bool kingsR.stuck, .int .i64 kingsR.plies]) ∧ PiecesAt w' w'.heap.size A kingsR.pieces ∧ Later W w'
set_option maxHeartbeats 4000000 in
set_option maxRecDepth 100000 in
theorem kings_any (W : World) : Calls Try.prog 18 #[] W (KingsOut W) := by
  have Hl : Hid (Later W W) := Later.rfl
  go_enter Try.func18, Try.ntmps18
  go_wp2_with fail
  have hr := ((Blk.new W 27 #[.int .i64 3, .int .i64 1, .string ⟨#[75, 46, 107]⟩, .int .i64 0, .string ⟨#[]⟩, .string ⟨#[]⟩, .slice (some ⟨W.heap.size + 1 + 1, 0, none⟩) 1 1, .bool false, .int .u8 75, .int .i64 0, .int .u8 0, .bool false, .int .i64 9]).alloc (.cells #[.int .i64 1, .int .i64 0, .int .i64 1, .int .i64 0] 66)).alloc (.cells #[.int .u8 75, .int .i64 0, .slice (some ⟨W.heap.size + 1, 0, none⟩) 1 1] 69)
  have hw := (Blk.new (W.alloc (.cells #[.int .i64 3, .int .i64 1, .string ⟨#[75, 46, 107]⟩, .int .i64 0, .string ⟨#[]⟩, .string ⟨#[]⟩, .slice (some ⟨W.heap.size + 1 + 1, 0, none⟩) 1 1, .bool false, .int .u8 75, .int .i64 0, .int .u8 0, .bool false, .int .i64 9] 27)) 66 #[.int .i64 1, .int .i64 0, .int .i64 1, .int .i64 0]).alloc (.cells #[.int .u8 75, .int .i64 0, .slice (some ⟨W.heap.size + 1, 0, none⟩) 1 1] 69)
  have hp := Blk.new ((W.alloc (.cells #[.int .i64 3, .int .i64 1, .string ⟨#[75, 46, 107]⟩, .int .i64 0, .string ⟨#[]⟩, .string ⟨#[]⟩, .slice (some ⟨W.heap.size + 1 + 1, 0, none⟩) 1 1, .bool false, .int .u8 75, .int .i64 0, .int .u8 0, .bool false, .int .i64 9] 27)).alloc (.cells #[.int .i64 1, .int .i64 0, .int .i64 1, .int .i64 0] 66)) 69 #[.int .u8 75, .int .i64 0, .slice (some ⟨W.heap.size + 1, 0, none⟩) 1 1]
  rw [World.size_alloc] at hw hp
  rw [World.size_alloc] at hp
  have hL := ((Hl.out.alloc (.cells #[.int .i64 3, .int .i64 1, .string ⟨#[75, 46, 107]⟩, .int .i64 0, .string ⟨#[]⟩, .string ⟨#[]⟩, .slice (some ⟨W.heap.size + 1 + 1, 0, none⟩) 1 1, .bool false, .int .u8 75, .int .i64 0, .int .u8 0, .bool false, .int .i64 9] 27)).alloc (.cells #[.int .i64 1, .int .i64 0, .int .i64 1, .int .i64 0] 66)).alloc (.cells #[.int .u8 75, .int .i64 0, .slice (some ⟨W.heap.size + 1, 0, none⟩) 1 1] 69)
  obtain ⟨w3, hw3⟩ : ∃ w3, (((W.alloc (.cells #[.int .i64 3, .int .i64 1, .string ⟨#[75, 46, 107]⟩, .int .i64 0, .string ⟨#[]⟩, .string ⟨#[]⟩, .slice (some ⟨W.heap.size + 1 + 1, 0, none⟩) 1 1, .bool false, .int .u8 75, .int .i64 0, .int .u8 0, .bool false, .int .i64 9] 27)).alloc (.cells #[.int .i64 1, .int .i64 0, .int .i64 1, .int .i64 0] 66)).alloc (.cells #[.int .u8 75, .int .i64 0, .slice (some ⟨W.heap.size + 1, 0, none⟩) 1 1] 69)) = w3 := ⟨_, rfl⟩
  rw [hw3] at hr hw hp hL ⊢
  clear hw3
  have x0 : w3.cell? ⟨W.heap.size, 0, none⟩ = some (.int .i64 3) := hr.cellv rfl
  have x1 : w3.cell? ⟨W.heap.size, 1, none⟩ = some (.int .i64 1) := hr.cellv rfl
  have x2 : w3.cell? ⟨W.heap.size, 2, none⟩ = some (.string ⟨#[75, 46, 107]⟩) := hr.cellv rfl
  have x3 : w3.cell? ⟨W.heap.size, 3, none⟩ = some (.int .i64 0) := hr.cellv rfl
  have x4 : w3.cell? ⟨W.heap.size, 4, none⟩ = some (.string ⟨#[]⟩) := hr.cellv rfl
  have x5 : w3.cell? ⟨W.heap.size, 5, none⟩ = some (.string ⟨#[]⟩) := hr.cellv rfl
  have x6 : w3.cell? ⟨W.heap.size, 6, none⟩ = some (.slice (some ⟨W.heap.size + 1 + 1, 0, none⟩) 1 1) := hr.cellv rfl
  have x7 : w3.cell? ⟨W.heap.size, 7, none⟩ = some (.bool false) := hr.cellv rfl
  have x8 : w3.cell? ⟨W.heap.size, 8, none⟩ = some (.int .u8 75) := hr.cellv rfl
  have x9 : w3.cell? ⟨W.heap.size, 9, none⟩ = some (.int .i64 0) := hr.cellv rfl
  have x10 : w3.cell? ⟨W.heap.size, 10, none⟩ = some (.int .u8 0) := hr.cellv rfl
  have x11 : w3.cell? ⟨W.heap.size, 11, none⟩ = some (.bool false) := hr.cellv rfl
  have x12 : w3.cell? ⟨W.heap.size, 12, none⟩ = some (.int .i64 9) := hr.cellv rfl
  refine bodyPost_ret (v := .agg #[.int .i64 3, .int .i64 1, .string ⟨#[75, 46, 107]⟩, .int .i64 0, .string ⟨#[]⟩, .string ⟨#[]⟩, .slice (some ⟨W.heap.size + 1 + 1, 0, none⟩) 1 1, .bool false, .int .u8 75, .int .i64 0, .int .u8 0, .bool false, .int .i64 9]) (by simp [results, Try.results18, go_sem, x0, x1, x2, x3, x4, x5, x6, x7, x8, x9, x10, x11, x12]) rfl ⟨some ⟨W.heap.size + 1 + 1, 0, none⟩, rfl, ⟨[(some ⟨W.heap.size + 1, 0, none⟩, 1)], rfl, ?_, ?_⟩, hL⟩
  · intro _
    refine ⟨W.heap.size + 1 + 1, 0, rfl, hp.lt, fun j hj => ?_⟩
    have hj3 : j < 3 := hj
    rcases (by omega : j = 0 ∨ j = 1 ∨ j = 2) with rfl | rfl | rfl
    · exact hp.cellv (i := 0) rfl
    · exact hp.cellv (i := 1) rfl
    · exact hp.cellv (i := 2) rfl
  · intro k hk
    have hk0 : k = 0 := by simpa [kingsR] using hk
    subst hk0
    refine ⟨Nat.le_refl 1, fun _ => ⟨W.heap.size + 1, 0, rfl, hw.lt, fun j hj => ?_⟩⟩
    have hj4 : j < 4 := hj
    rcases (by omega : j = 0 ∨ j = 1 ∨ j = 2 ∨ j = 3) with rfl | rfl | rfl | rfl
    · exact hw.cellv (i := 0) rfl
    · exact hw.cellv (i := 1) rfl
    · exact hw.cellv (i := 2) rfl
    · exact hw.cellv (i := 3) rfl
set_option maxHeartbeats 4000000 in
set_option maxRecDepth 100000 in
theorem movable_any (W : World) : Calls Try.prog 5 #[] W fun e w' => e = .returned (.bool true) ∧ Later W w' := by
  have Hl : Hid (Later W W) := Later.rfl
  have HK := hide (fun w => kings_any w)
  have hf : RFit kingsR := ⟨by decide, by decide, by decide, by decide, fun k h => by
    have : k = 0 := by simpa [kingsR] using h
    subst this
    exact (by omega : (1 : Nat) ≤ 9223372036854775807)⟩
  have hg : PFit kingsR.start := ⟨by decide, by decide, by decide⟩
  have HM := hide (fun A w (hP : PiecesAt w w.heap.size A kingsR.pieces) => mm_ok kingsR A 1 kingsR.start w hf hg hP kings_ok)
  have HC := hide (fun A w (hP : PiecesAt w w.heap.size A kingsR.pieces) => count_ok (fun e w' => e = .returned (.tuple #[.int .i64 1, .int .i64 0]) ∧ Later w w') kingsR A 1 kingsR.start 1 (by omega) w hf hg hP kings_ok (fun e w' he hw => ⟨by rw [he, show countA kingsR kingsR.start 1 = (1, 0) from kings_count]; rfl, hw⟩))
  rw [show movesL kingsR kingsR.start = [⟨0, 1, 75⟩] from kings_moves] at HM
  clear hf hg
  go_enter Try.func5, Try.ntmps5
  go_upto_region 2 with (go_at_call 18; refine (HK.out _).mono ?_; rintro e w1 ⟨A, rfl, hP1, hw1⟩)
  have Hr2 := hide (Blk.new w1 27 #[.int .i64 kingsR.start.w, .int .i64 kingsR.start.h, .string kingsR.start.cells, .int .i64 kingsR.start.turn, .string kingsR.start.h0, .string kingsR.start.h1, .slice A kingsR.pieces.length 1, .bool kingsR.drops, .int .u8 kingsR.lose, .int .i64 kingsR.line, .int .u8 kingsR.reach, .bool kingsR.stuck, .int .i64 kingsR.plies])
  have hl2 : Later w1 (w1.alloc (.cells #[.int .i64 kingsR.start.w, .int .i64 kingsR.start.h, .string kingsR.start.cells, .int .i64 kingsR.start.turn, .string kingsR.start.h0, .string kingsR.start.h1, .slice A kingsR.pieces.length 1, .bool kingsR.drops, .int .u8 kingsR.lose, .int .i64 kingsR.line, .int .u8 kingsR.reach, .bool kingsR.stuck, .int .i64 kingsR.plies] 27)) := Later.rfl.alloc _
  have HP2 := hide ((hP1.below hl2).more hl2.size)
  have Hw2 := hide (hw1.trans hl2)
  obtain ⟨gr, hgr⟩ : ∃ gr, w1.heap.size = gr := ⟨_, rfl⟩
  obtain ⟨w2, hw2⟩ : ∃ w2, w1.alloc (.cells #[.int .i64 kingsR.start.w, .int .i64 kingsR.start.h, .string kingsR.start.cells, .int .i64 kingsR.start.turn, .string kingsR.start.h0, .string kingsR.start.h1, .slice A kingsR.pieces.length 1, .bool kingsR.drops, .int .u8 kingsR.lose, .int .i64 kingsR.line, .int .u8 kingsR.reach, .bool kingsR.stuck, .int .i64 kingsR.plies] 27) = w2 := ⟨_, rfl⟩
  rw [hw2] at Hr2 HP2 Hw2 ⊢
  rw [hgr] at Hr2 ⊢
  clear hw2 hgr hl2 hP1 hw1 HK
  obtain ⟨x0, x1, x2, x3, x4, x5, x6, x7, x8, x9, x10, x11, x12⟩ := Hr2.out.rules
  go_upto_region 3 with (go_at_call 6; refine (HM.out A _ HP2.out).mono ?_; rintro e w3 ⟨A3, c3, rfl, -, hw3⟩)
  have Hr3 := hide (hw3.blk Hr2.out)
  have HP3 := hide ((HP2.out.below hw3).more hw3.size)
  have Hw3 := hide (Hw2.out.trans hw3)
  clear hw3 Hr2 HP2 Hw2 x0 x1 x2 x3 x4 x5 x6 x7 x8 x9 x10 x11 x12
  obtain ⟨x0, x1, x2, x3, x4, x5, x6, x7, x8, x9, x10, x11, x12⟩ := Hr3.out.rules
  go_upto_region 4 with (go_at_call 13; refine (HC.out A _ HP3.out).mono ?_; rintro e w4 ⟨rfl, hw4⟩)
  go_wp2_with fail
  go_ret
  exact ⟨rfl, Hw3.out.trans hw4⟩
end Go.Proofs.Ytdfegpohmaideaa
/- Each move has a text of its own; counts add: plainly. -/
namespace Go.Proofs.Ytdfegpohmaideaa
open Go.RowKit

theorem made_turn (r : RulesD) (p : Pos) (m : Mv) : (madeP r p m).turn = 1 - p.turn := rfl
theorem ways_one_le {r : RulesD} {p : Pos} (h : OfOk r p) : waysN r 1 p ≤ 10000 := by rw [waysN_one]; exact movesL_len h.pos
theorem countA_one {r : RulesD} {p : Pos} (h : OfOk r p) : countA r p 1 = ((movesL r p).length, 0) := by
  have h1 := ways_one_le h
  rw [countA_ok (fun j hj => by
    rcases (by omega : j = 0 ∨ j = 1) with rfl | rfl
    · rw [waysN_zero]; omega
    · omega), waysN_one]
/-- the moves behind the first so many moves -/
noncomputable def sumB (r : RulesD) (p : Pos) (k : Nat) : Nat := lsum ((nextL r p).take k) (fun q => (movesL r q).length)
theorem sumB_zero (r : RulesD) (p : Pos) : sumB r p 0 = 0 := by simp [sumB, lsum]
theorem sumB_succ {r : RulesD} {p : Pos} {k : Nat} (h : k < (movesL r p).length) : sumB r p (k + 1) = sumB r p k + (movesL r (madeP r p (movesL r p)[k])).length := by
  unfold sumB
  have hk : k < (nextL r p).length := by simpa [nextL] using h
  rw [List.take_succ_eq_append_getElem hk, lsum_snoc]
  simp [nextL]
theorem sumB_le {r : RulesD} {p : Pos} (ho : OfOk r p) (k : Nat) (h : k ≤ (movesL r p).length) : sumB r p k ≤ 10000 * k := by
  induction k with
  | zero => rw [sumB_zero]; exact Nat.zero_le _
  | succ k ih =>
    rw [sumB_succ (by omega)]
    have h1 := ih (by omega)
    have h2 : (movesL r (madeP r p (movesL r p)[k])).length ≤ 10000 := movesL_len (next_ok ho _ (List.mem_map.2 ⟨_, List.getElem_mem (by omega), rfl⟩)).pos
    omega
theorem ways_two (r : RulesD) (p : Pos) : waysN r 2 p = sumB r p (movesL r p).length := by
  rw [waysN_succ]
  unfold sumB
  rw [show (nextL r p).take (movesL r p).length = nextL r p from List.take_of_length_le (by simp [nextL])]
  unfold lsum
  refine congrArg List.sum (List.map_congr_left (fun q _ => ?_))
  exact waysN_one r q
theorem countA_two {r : RulesD} {p : Pos} (h : OfOk r p) : countA r p 2 = if 100000 < sumB r p (movesL r p).length then (0, 2) else (sumB r p (movesL r p).length, 0) := by
  have h1 := ways_one_le h
  split
  · rename_i hb
    exact countA_large (j := 2) (Nat.le_refl 2) (by rw [ways_two]; exact hb)
  · rename_i hb
    rw [countA_ok (fun j hj => by
      rcases (by omega : j = 0 ∨ j = 1 ∨ j = 2) with rfl | rfl | rfl
      · rw [waysN_zero]; omega
      · omega
      · rw [ways_two]; omega), ways_two]
theorem pfit_of {p : Pos} (h : PosOk p) : PFit p := by
  have := posOk_sizes h
  exact ⟨by omega, by omega, by omega⟩
end Go.Proofs.Ytdfegpohmaideaa
/- gamekeep.MovesBack, walked -/
namespace Go.Proofs.Ytdfegpohmaideaa
open Go.RowKit Go.Shelf

/-- the boxes of a call with rules and a position -/
structure MbSt (W : World) (R P : Array Value) (w : World) : Prop where
  r : Blk w W.heap.size 27 R
  p : Blk w (W.heap.size + 1) 24 P
  later : Later W w
theorem MbSt.later_ {W w w' : World} {R P : Array Value} (h : MbSt W R P w) (hw : Later w w') : MbSt W R P w' := ⟨hw.blk h.r, hw.blk h.p, h.later.trans hw⟩
theorem MbSt.first {W : World} {R P : Array Value} : MbSt W R P ((W.alloc (.cells R 27)).alloc (.cells P 24)) := by
  refine ⟨(Blk.new W _ R).alloc _, ?_, (Later.rfl.alloc _).alloc _⟩
  have := Blk.new (W.alloc (.cells R 27)) 24 P
  rwa [World.size_alloc] at this
set_option maxHeartbeats 4000000 in
set_option maxRecDepth 100000 in
theorem mb_no (r : RulesD) (A : Option Addr) (cp : Nat) (p : Pos) (W : World) (hf : RFit r) (hg : PFit p) (hP : PiecesAt W W.heap.size A r.pieces) (hno : ¬ OfOk r p) :
    Calls Try.prog 4 #[.agg #[.int .i64 r.start.w, .int .i64 r.start.h, .string r.start.cells, .int .i64 r.start.turn, .string r.start.h0, .string r.start.h1, .slice A r.pieces.length cp, .bool r.drops, .int .u8 r.lose, .int .i64 r.line, .int .u8 r.reach, .bool r.stuck, .int .i64 r.plies], .agg #[.int .i64 p.w, .int .i64 p.h, .string p.cells, .int .i64 p.turn, .string p.h0, .string p.h1]] W fun e w' => e = .returned (.bool true) ∧ Later W w' := by
  have Hst := hide (MbSt.first (W := W) (R := #[.int .i64 r.start.w, .int .i64 r.start.h, .string r.start.cells, .int .i64 r.start.turn, .string r.start.h0, .string r.start.h1, .slice A r.pieces.length cp, .bool r.drops, .int .u8 r.lose, .int .i64 r.line, .int .u8 r.reach, .bool r.stuck, .int .i64 r.plies]) (P := #[.int .i64 p.w, .int .i64 p.h, .string p.cells, .int .i64 p.turn, .string p.h0, .string p.h1]))
  have Hmm := hide (fun w (hw : Later W w) => mm_no r A cp p w hf hg ((hP.below hw).more hw.size) hno)
  clear hf hg hP hno
  go_enter Try.func4, Try.ntmps4
  go_upto_region 1 with (fail)
  obtain ⟨w0, hw0⟩ : ∃ w0, (W.alloc (.cells #[.int .i64 r.start.w, .int .i64 r.start.h, .string r.start.cells, .int .i64 r.start.turn, .string r.start.h0, .string r.start.h1, .slice A r.pieces.length cp, .bool r.drops, .int .u8 r.lose, .int .i64 r.line, .int .u8 r.reach, .bool r.stuck, .int .i64 r.plies] 27)).alloc (.cells #[.int .i64 p.w, .int .i64 p.h, .string p.cells, .int .i64 p.turn, .string p.h0, .string p.h1] 24) = w0 := ⟨_, rfl⟩
  rw [hw0] at Hst ⊢
  clear hw0
  go_upto_region 3 with (go_at_call 5; refine (movable_any _).mono ?_; rintro e w1 ⟨rfl, hw1⟩)
  have Hst1 := hide (Hst.out.later_ hw1)
  clear hw1 Hst
  obtain ⟨x0, x1, x2, x3, x4, x5, x6, x7, x8, x9, x10, x11, x12⟩ := Hst1.out.r.rules
  obtain ⟨p0, p1, p2, p3, p4, p5⟩ := Hst1.out.p.pos6
  go_upto_region 4 with (go_at_call 6; refine (Hmm.out _ Hst1.out.later).mono ?_; rintro e w2 ⟨rfl, hw2⟩)
  have HL := hide (Hst1.out.later.trans hw2)
  clear hw2 Hst1 x0 x1 x2 x3 x4 x5 x6 x7 x8 x9 x10 x11 x12 p0 p1 p2 p3 p4 p5
  go_wp2_with fail
  go_ret
  exact ⟨rfl, HL.out⟩
theorem later_setrow {a b : World} {g : Nat} {vs : Array Value} (h : Later a b) (hg : a.heap.size ≤ g) : Later a (b.setRow g vs) := Below.trans h ⟨rfl, rfl, rfl, by simp [World.setRow], fun k hk => setRow_other _ _ _ _ (by omega)⟩
theorem setRow_blk4 {w : World} {g : Nat} {t : TypeId} {old vs : Array Value} (h : Blk w g t old) : Blk (w.setRow g vs) g t vs := setRow_heap _ _ _ _ _ _ h
set_option maxHeartbeats 16000000 in
set_option maxRecDepth 100000 in
theorem mb_ok (r : RulesD) (A : Option Addr) (cp : Nat) (p : Pos) (W : World) (hf : RFit r) (hg : PFit p) (hP : PiecesAt W W.heap.size A r.pieces) (hok : OfOk r p) :
    Calls Try.prog 4 #[.agg #[.int .i64 r.start.w, .int .i64 r.start.h, .string r.start.cells, .int .i64 r.start.turn, .string r.start.h0, .string r.start.h1, .slice A r.pieces.length cp, .bool r.drops, .int .u8 r.lose, .int .i64 r.line, .int .u8 r.reach, .bool r.stuck, .int .i64 r.plies], .agg #[.int .i64 p.w, .int .i64 p.h, .string p.cells, .int .i64 p.turn, .string p.h0, .string p.h1]] W fun e w' => e = .returned (.bool true) ∧ Later W w' := by
  have Hst := hide (MbSt.first (W := W) (R := #[.int .i64 r.start.w, .int .i64 r.start.h, .string r.start.cells, .int .i64 r.start.turn, .string r.start.h0, .string r.start.h1, .slice A r.pieces.length cp, .bool r.drops, .int .u8 r.lose, .int .i64 r.line, .int .u8 r.reach, .bool r.stuck, .int .i64 r.plies]) (P := #[.int .i64 p.w, .int .i64 p.h, .string p.cells, .int .i64 p.turn, .string p.h0, .string p.h1]))
  have Hmm := hide (fun w (hw : Later W w) => mm_ok r A cp p w hf hg ((hP.below hw).more hw.size) hok)
  have Htx := hide (fun m (hm : m ∈ movesL r p) w (hw : Later W w) => mtext_ok r A cp p m w hf hg ((hP.below hw).more hw.size) hok hm)
  have Hrd := hide (fun m (hm : m ∈ movesL r p) w (hw : Later W w) => mread_ok r A cp p m w hf hg ((hP.below hw).more hw.size) hok hm)
  have Hap := hide (fun m q (hm : m ∈ movesL r p) (hq : madeP r p m = q) w (hw : Later W w) => ma_ok r A cp p m q w hf hg ((hP.below hw).more hw.size) hok hm hq)
  have Hc1 := hide (fun w (hw : Later W w) => count_ok (fun e w' => e = .returned (.tuple #[.int .i64 ((movesL r p).length : Int), .int .i64 0]) ∧ Later w w') r A cp p 1 (by omega) w hf hg ((hP.below hw).more hw.size) hok (fun e w' he hw => ⟨by rw [he, countA_one hok], hw⟩))
  have Hcq := hide (fun q (hq : OfOk r q) w (hw : Later W w) => count_ok (fun e w' => e = .returned (.tuple #[.int .i64 ((movesL r q).length : Int), .int .i64 0]) ∧ Later w w') r A cp q 1 (by omega) w hf (pfit_of hq.pos) ((hP.below hw).more hw.size) hq (fun e w' he hw => ⟨by rw [he, countA_one hq], hw⟩))
  have Hc2 := hide (fun w (hw : Later W w) => count_ok (fun e w' => e = .returned (.tuple #[.int .i64 ((countA r p 2).1 : Int), .int .i64 (countA r p 2).2]) ∧ Later w w') r A cp p 2 (by omega) w hf hg ((hP.below hw).more hw.size) hok (fun e w' he hw => ⟨he, hw⟩))
  rw [countA_two hok] at Hc2
  have hll : (movesL r p).length ≤ 10000 := movesL_len hok.pos
  have Hsl := hide (sumB_le hok)
  have tp0 := hok.pos.t0
  have tp1 := hok.pos.t1
  obtain ⟨L, hL⟩ : ∃ L, movesL r p = L := ⟨_, rfl⟩
  have Hss := hide (show ∀ k (h : k < L.length), sumB r p (k + 1) = sumB r p k + (movesL r (madeP r p L[k])).length from by subst hL; exact fun k h => sumB_succ h)
  have Hqo := hide (show ∀ k (h : k < L.length), OfOk r (madeP r p L[k]) from by subst hL; exact fun k h => next_ok hok _ (List.mem_map.2 ⟨_, List.getElem_mem h, rfl⟩))
  simp only [hL] at Hmm Htx Hrd Hap Hc1 Hc2 hll Hsl
  clear hf hg hP hok hL
  go_enter Try.func4, Try.ntmps4
  go_upto_region 1 with (fail)
  obtain ⟨w0, hw0⟩ : ∃ w0, (W.alloc (.cells #[.int .i64 r.start.w, .int .i64 r.start.h, .string r.start.cells, .int .i64 r.start.turn, .string r.start.h0, .string r.start.h1, .slice A r.pieces.length cp, .bool r.drops, .int .u8 r.lose, .int .i64 r.line, .int .u8 r.reach, .bool r.stuck, .int .i64 r.plies] 27)).alloc (.cells #[.int .i64 p.w, .int .i64 p.h, .string p.cells, .int .i64 p.turn, .string p.h0, .string p.h1] 24) = w0 := ⟨_, rfl⟩
  rw [hw0] at Hst ⊢
  clear hw0
  go_upto_region 3 with (go_at_call 5; refine (movable_any _).mono ?_; rintro e w1 ⟨rfl, hw1⟩)
  have Hst1 := hide (Hst.out.later_ hw1)
  clear hw1 Hst
  obtain ⟨x0, x1, x2, x3, x4, x5, x6, x7, x8, x9, x10, x11, x12⟩ := Hst1.out.r.rules
  obtain ⟨p0, p1, p2, p3, p4, p5⟩ := Hst1.out.p.pos6
  go_upto_region 6 with (go_at_call 6; refine (Hmm.out _ Hst1.out.later).mono ?_; rintro e w2 ⟨A2, c2, rfl, hc2, hw2⟩)
  have Hst2 := hide (Hst1.out.later_ hw2)
  have Hl2 := hide hc2
  clear hw2 hc2 Hst1 Hmm x0 x1 x2 x3 x4 x5 x6 x7 x8 x9 x10 x11 x12 p0 p1 p2 p3 p4 p5
  obtain ⟨x0, x1, x2, x3, x4, x5, x6, x7, x8, x9, x10, x11, x12⟩ := Hst2.out.r.rules
  obtain ⟨p0, p1, p2, p3, p4, p5⟩ := Hst2.out.p.pos6
  have te : ((L.length : Int) != (L.length : Int)) = false := by simp
  go_upto_region 9 with (go_at_call 13; refine (Hc1.out _ Hst2.out.later).mono ?_; rintro e w3 ⟨rfl, hw3⟩)
  have Hst3 := hide (Hst2.out.later_ hw3)
  have Hl3 := hide ((Hl2.out.below hw3).more hw3.size)
  clear hw3 Hst2 Hl2 Hc1 x0 x1 x2 x3 x4 x5 x6 x7 x8 x9 x10 x11 x12 p0 p1 p2 p3 p4 p5 te
  go_wp2_with fail
  go_loopw [9, 48] (fun sv kv wr => ∃ k : Nat, k ≤ L.length ∧ kv = .int .i64 (k : Int) ∧ sv = .int .i64 (sumB r p k : Int) ∧ Later w3 wr) (fun _ kv _ => L.length - (intOf kv).toNat)
  case atStart => exact ⟨0, by omega, rfl, by rw [sumB_zero]; rfl, Later.rfl⟩
  case round =>
    rename World => wr
    obtain ⟨k, hk, rfl, rfl, hw⟩ := hrel
    have Hstr := hide (Hst3.out.later_ hw)
    have Hlr := hide ((Hl3.out.below hw).more hw.size)
    have Hwr := hide hw
    clear hw
    by_cases hlt : k < L.length
    · have t1 : decide ((k : Int) < (L.length : Int)) = true := by simp; omega
      have t1n : decide (k < L.length) = true := by simp; omega
      obtain ⟨bm, om, rfl, hbm, y0, y1, y2⟩ := mv_at Hlr.out hlt
      have hk1 : (0 : Int) ≤ (k : Int) := by omega
      have hk2 : (k : Int) < (L.length : Int) := by omega
      have Hm := hide (List.getElem_mem hlt : L[k] ∈ L)
      have Hsk := hide (Hss.out k hlt)
      have hsl : sumB r p k ≤ 10000 * k := Hsl.out k hk
      have Hqk := hide (Hqo.out k hlt)
      obtain ⟨m, hmm⟩ : ∃ m, L[k] = m := ⟨_, rfl⟩
      rw [hmm] at y0 y1 y2
      simp only [hmm] at Hm Hsk Hqk
      obtain ⟨q, hq⟩ : ∃ q, madeP r p m = q := ⟨_, rfl⟩
      have hqt : q.turn = 1 - p.turn := by rw [← hq]; rfl
      have HapM := hide (fun w hw => Hap.out m q Hm.out hq w hw)
      rw [hq] at Hsk Hqk
      have hlm : (movesL r q).length ≤ 10000 := movesL_len Hqk.out.pos
      have HcqM := hide (fun w hw => Hcq.out q Hqk.out w hw)
      have HckM := hide (fun w => chk_l q w (by have := posOk_sizes Hqk.out.pos; omega) (by have := posOk_sizes Hqk.out.pos; omega) (by have := posOk_sizes Hqk.out.pos; omega) 0 ⟨fun _ => rfl, fun h => absurd Hqk.out.pos h⟩)
      obtain ⟨qw, qh, qc, qt, q0, q1⟩ := q
      simp only at hqt
      subst hqt
      simp only at HapM HcqM HckM
      have HtxM := hide (fun w hw => Htx.out m Hm.out w hw)
      have HrdM := hide (fun w hw => Hrd.out m Hm.out w hw)
      obtain ⟨s, hs⟩ : ∃ s, bytes (textL p m) = s := ⟨_, rfl⟩
      simp only [hs] at HtxM HrdM
      have HS13 := hide (show ∀ w' : World, Later wr w' → (w'.cell? ⟨W.heap.size, 0, none⟩ = some (.int .i64 r.start.w) ∧ w'.cell? ⟨W.heap.size, 1, none⟩ = some (.int .i64 r.start.h) ∧ w'.cell? ⟨W.heap.size, 2, none⟩ = some (.string r.start.cells) ∧ w'.cell? ⟨W.heap.size, 3, none⟩ = some (.int .i64 r.start.turn) ∧ w'.cell? ⟨W.heap.size, 4, none⟩ = some (.string r.start.h0) ∧ w'.cell? ⟨W.heap.size, 5, none⟩ = some (.string r.start.h1) ∧ w'.cell? ⟨W.heap.size, 6, none⟩ = some (.slice A r.pieces.length cp) ∧ w'.cell? ⟨W.heap.size, 7, none⟩ = some (.bool r.drops) ∧ w'.cell? ⟨W.heap.size, 8, none⟩ = some (.int .u8 r.lose) ∧ w'.cell? ⟨W.heap.size, 9, none⟩ = some (.int .i64 r.line) ∧ w'.cell? ⟨W.heap.size, 10, none⟩ = some (.int .u8 r.reach) ∧ w'.cell? ⟨W.heap.size, 11, none⟩ = some (.bool r.stuck) ∧ w'.cell? ⟨W.heap.size, 12, none⟩ = some (.int .i64 r.plies) ∧ w'.cell? ⟨W.heap.size + 1, 0, none⟩ = some (.int .i64 p.w) ∧ w'.cell? ⟨W.heap.size + 1, 1, none⟩ = some (.int .i64 p.h) ∧ w'.cell? ⟨W.heap.size + 1, 2, none⟩ = some (.string p.cells) ∧ w'.cell? ⟨W.heap.size + 1, 3, none⟩ = some (.int .i64 p.turn) ∧ w'.cell? ⟨W.heap.size + 1, 4, none⟩ = some (.string p.h0) ∧ w'.cell? ⟨W.heap.size + 1, 5, none⟩ = some (.string p.h1) ∧ w'.cell? ⟨bm, om + k * 3, none⟩ = some (.int .i64 m.f) ∧ w'.cell? ⟨bm, om + k * 3 + 1, none⟩ = some (.int .i64 m.t) ∧ w'.cell? ⟨bm, om + k * 3 + 2, none⟩ = some (.int .u8 m.c)) from fun w' hw => by
        obtain ⟨x0, x1, x2, x3, x4, x5, x6, x7, x8, x9, x10, x11, x12⟩ := (hw.blk Hstr.out.r).rules
        obtain ⟨p0, p1, p2, p3, p4, p5⟩ := (hw.blk Hstr.out.p).pos6
        obtain ⟨b', o', hbb, -, z0, z1, z2⟩ := mv_at ((Hlr.out.below hw).more hw.size) hlt
        injection hbb with hbb
        injection hbb with hbb1 hbb2
        subst hbb1
        subst hbb2
        rw [hmm] at z0 z1 z2
        exact ⟨x0, x1, x2, x3, x4, x5, x6, x7, x8, x9, x10, x11, x12, p0, p1, p2, p3, p4, p5, z0, z1, z2⟩)
      clear hq hs hmm y0 y1 y2 Hss Hqo
      have HC3 := hide (show Later W wr from Hst3.out.later.trans Hwr.out)
      go_upto_region 13 with (fail)
      refine wp_region_held_drew (S := fun w' : World => (w'.cell? ⟨W.heap.size, 0, none⟩ = some (.int .i64 r.start.w) ∧ w'.cell? ⟨W.heap.size, 1, none⟩ = some (.int .i64 r.start.h) ∧ w'.cell? ⟨W.heap.size, 2, none⟩ = some (.string r.start.cells) ∧ w'.cell? ⟨W.heap.size, 3, none⟩ = some (.int .i64 r.start.turn) ∧ w'.cell? ⟨W.heap.size, 4, none⟩ = some (.string r.start.h0) ∧ w'.cell? ⟨W.heap.size, 5, none⟩ = some (.string r.start.h1) ∧ w'.cell? ⟨W.heap.size, 6, none⟩ = some (.slice A r.pieces.length cp) ∧ w'.cell? ⟨W.heap.size, 7, none⟩ = some (.bool r.drops) ∧ w'.cell? ⟨W.heap.size, 8, none⟩ = some (.int .u8 r.lose) ∧ w'.cell? ⟨W.heap.size, 9, none⟩ = some (.int .i64 r.line) ∧ w'.cell? ⟨W.heap.size, 10, none⟩ = some (.int .u8 r.reach) ∧ w'.cell? ⟨W.heap.size, 11, none⟩ = some (.bool r.stuck) ∧ w'.cell? ⟨W.heap.size, 12, none⟩ = some (.int .i64 r.plies) ∧ w'.cell? ⟨W.heap.size + 1, 0, none⟩ = some (.int .i64 p.w) ∧ w'.cell? ⟨W.heap.size + 1, 1, none⟩ = some (.int .i64 p.h) ∧ w'.cell? ⟨W.heap.size + 1, 2, none⟩ = some (.string p.cells) ∧ w'.cell? ⟨W.heap.size + 1, 3, none⟩ = some (.int .i64 p.turn) ∧ w'.cell? ⟨W.heap.size + 1, 4, none⟩ = some (.string p.h0) ∧ w'.cell? ⟨W.heap.size + 1, 5, none⟩ = some (.string p.h1) ∧ w'.cell? ⟨bm, om + k * 3, none⟩ = some (.int .i64 m.f) ∧ w'.cell? ⟨bm, om + k * 3 + 1, none⟩ = some (.int .i64 m.t) ∧ w'.cell? ⟨bm, om + k * 3 + 2, none⟩ = some (.int .u8 m.c))) (by kernel_rfl) (HS13.out _ Later.rfl.drew) (fun hHeld => ?_)
      refine wpAnyH_take (i := 0) (oi := ⟨some 52, _, _, _, _, _⟩) (v := ?_) rfl (by kernel_rfl) (by kernel_rfl) (by kernel_rfl) (fun _ _ _ h => h) (Or.inl ⟨by rfl, ?_⟩) (by assumption) ?_
      rotate_left 1
      · intro w hSw
        try dsimp only at hSw
        go_simp <;> with_reducible rfl
      try simp only [Act.put, List.setIfInBounds_toArray, List.set_cons_zero, List.set_cons_succ]
      refine wpAnyH_take (i := 1) (oi := ⟨some 53, _, _, _, _, _⟩) (v := ?_) rfl (by kernel_rfl) (by kernel_rfl) (by kernel_rfl) (fun _ _ _ h => h) (Or.inl ⟨by rfl, ?_⟩) (by assumption) ?_
      rotate_left 1
      · intro w hSw
        try dsimp only at hSw
        go_simp <;> with_reducible rfl
      try simp only [Act.put, List.setIfInBounds_toArray, List.set_cons_zero, List.set_cons_succ]
      refine wpAnyH_take (i := 2) (oi := ⟨some 54, _, _, _, _, _⟩) (v := ?_) rfl (by kernel_rfl) (by kernel_rfl) (by kernel_rfl) (fun _ _ _ h => h) (Or.inl ⟨by rfl, ?_⟩) (by assumption) ?_
      rotate_left 1
      · intro w hSw
        try dsimp only at hSw
        go_simp <;> with_reducible rfl
      try simp only [Act.put, List.setIfInBounds_toArray, List.set_cons_zero, List.set_cons_succ]
      refine wpAnyH_take (i := 3) (oi := ⟨some 55, _, _, _, _, _⟩) (v := ?_) rfl (by kernel_rfl) (by kernel_rfl) (by kernel_rfl) (fun _ _ _ h => h) (Or.inl ⟨by rfl, ?_⟩) (by assumption) ?_
      rotate_left 1
      · intro w hSw
        try dsimp only at hSw
        go_simp <;> with_reducible rfl
      try simp only [Act.put, List.setIfInBounds_toArray, List.set_cons_zero, List.set_cons_succ]
      refine wpAnyH_take (i := 4) (oi := ⟨some 56, _, _, _, _, _⟩) (v := ?_) rfl (by kernel_rfl) (by kernel_rfl) (by kernel_rfl) (fun _ _ _ h => h) (Or.inl ⟨by rfl, ?_⟩) (by assumption) ?_
      rotate_left 1
      · intro w hSw
        try dsimp only at hSw
        go_simp <;> with_reducible rfl
      try simp only [Act.put, List.setIfInBounds_toArray, List.set_cons_zero, List.set_cons_succ]
      refine wpAnyH_take (i := 5) (oi := ⟨some 57, _, _, _, _, _⟩) (v := ?_) rfl (by kernel_rfl) (by kernel_rfl) (by kernel_rfl) (fun _ _ _ h => h) (Or.inl ⟨by rfl, ?_⟩) (by assumption) ?_
      rotate_left 1
      · intro w hSw
        try dsimp only at hSw
        go_simp <;> with_reducible rfl
      try simp only [Act.put, List.setIfInBounds_toArray, List.set_cons_zero, List.set_cons_succ]
      refine wpAnyH_ready (rs := [6]) (by kernel_rfl) (by simp) ?_
      refine AllReadyH.cons (o := ⟨some 58, _, _, _, _, _⟩) rfl (fun K hK => ?_) ?_
      · clear hHeld
        go_simp
        go_at_call 14
        refine (HtxM.out _ (HC3.out.trans (by repeat (first | exact Later.rfl | refine Later.drew ?_ | refine Later.alloc ?_ _)))).mono ?_
        rintro e wt ⟨rfl, hwt⟩
        have hwq : Later wr wt := Later.trans (by repeat (first | exact Later.rfl | refine Later.drew ?_ | refine Later.alloc ?_ _)) hwt
        try go_wp2_with fail
        refine hK.out _ _ (by refine HS13.out _ ?_; repeat (first | exact Later.rfl | exact hwq | refine Later.drew ?_ | refine Later.alloc ?_ _)) (fun hHeld => ?_)
        clear hK K
        try simp only [Act.put, List.setIfInBounds_toArray, List.set_cons_zero, List.set_cons_succ]
        refine wpAnyH_take (i := 7) (oi := ⟨some 51, _, _, _, _, _⟩) (v := ?_) rfl (by kernel_rfl) (by kernel_rfl) (by kernel_rfl) (fun _ _ _ h => h) (Or.inl ⟨by rfl, ?_⟩) (by assumption) ?_
        rotate_left 1
        · intro w hSw
          try dsimp only at hSw
          go_simp <;> with_reducible rfl
        try simp only [Act.put, List.setIfInBounds_toArray, List.set_cons_zero, List.set_cons_succ]
        refine wpAnyH_take (i := 8) (oi := ⟨some 59, _, _, _, _, _⟩) (v := ?_) rfl (by kernel_rfl) (by kernel_rfl) (by kernel_rfl) (fun _ _ _ h => h) (Or.inl ⟨by rfl, ?_⟩) (by assumption) ?_
        rotate_left 1
        · intro w hSw
          try dsimp only at hSw
          go_simp <;> with_reducible rfl
        try simp only [Act.put, List.setIfInBounds_toArray, List.set_cons_zero, List.set_cons_succ]
        refine wpAnyH_take (i := 9) (oi := ⟨some 60, _, _, _, _, _⟩) (v := ?_) rfl (by kernel_rfl) (by kernel_rfl) (by kernel_rfl) (fun _ _ _ h => h) (Or.inl ⟨by rfl, ?_⟩) (by assumption) ?_
        rotate_left 1
        · intro w hSw
          try dsimp only at hSw
          go_simp <;> with_reducible rfl
        try simp only [Act.put, List.setIfInBounds_toArray, List.set_cons_zero, List.set_cons_succ]
        refine wpAnyH_take (i := 10) (oi := ⟨some 11, _, _, _, _, _⟩) (v := ?_) rfl (by kernel_rfl) (by kernel_rfl) (by kernel_rfl) (fun _ _ _ h => h) (Or.inl ⟨by rfl, ?_⟩) (by assumption) ?_
        rotate_left 1
        · intro w hSw
          try dsimp only at hSw
          go_simp <;> with_reducible rfl
        try simp only [Act.put, List.setIfInBounds_toArray, List.set_cons_zero, List.set_cons_succ]
        refine wpAnyH_take (i := 11) (oi := ⟨some 12, _, _, _, _, _⟩) (v := ?_) rfl (by kernel_rfl) (by kernel_rfl) (by kernel_rfl) (fun _ _ _ h => h) (Or.inl ⟨by rfl, ?_⟩) (by assumption) ?_
        rotate_left 1
        · intro w hSw
          try dsimp only at hSw
          go_simp <;> with_reducible rfl
        try simp only [Act.put, List.setIfInBounds_toArray, List.set_cons_zero, List.set_cons_succ]
        refine wpAnyH_done (by kernel_rfl) ?_ _
        have Hstt := hide (Hstr.out.later_ hwq)
        have HCt := hide (HC3.out.trans hwq)
        obtain ⟨x0, x1, x2, x3, x4, x5, x6, x7, x8, x9, x10, x11, x12⟩ := Hstt.out.r.rules
        obtain ⟨p0, p1, p2, p3, p4, p5⟩ := Hstt.out.p.pos6
        go_upto_region 15 with (go_at_call 15; refine (HrdM.out _ HCt.out).mono ?_; rintro e w5 ⟨rfl, hw5⟩)
        clear x0 x1 x2 x3 x4 x5 x6 x7 x8 x9 x10 x11 x12 p0 p1 p2 p3 p4 p5
        have hl6 : Later wr (w5.alloc (.cells #[.int .i64 m.f, .int .i64 m.t, .int .u8 m.c] 39)) := (hwq.trans hw5).alloc _
        have Hm6 := hide (Blk.new w5 39 #[.int .i64 m.f, .int .i64 m.t, .int .u8 m.c])
        obtain ⟨gm, hgm⟩ : ∃ gm, w5.heap.size = gm := ⟨_, rfl⟩
        obtain ⟨w6, hw6⟩ : ∃ w6, (w5.alloc (.cells #[.int .i64 m.f, .int .i64 m.t, .int .u8 m.c] 39)) = w6 := ⟨_, rfl⟩
        rw [hw6] at hl6 Hm6 ⊢
        rw [hgm] at Hm6 ⊢
        have Hl6 := hide hl6
        clear hw6 hgm hl6 hw5 hwq hwt Hstt HCt
        go_cut [15, 16] from 49 to 120 (fun qv ev w' => ∃ gq, qv = .pointer (some ⟨gq, 0, none⟩) ∧ ev = .int .i64 0 ∧ Blk w' gq 24 #[.int .i64 qw, .int .i64 qh, .string qc, .int .i64 (1 - p.turn), .string q0, .string q1] ∧ Later w6 w')
        case first =>
          refine wp_region_held_drew (S := fun w' : World => (w'.cell? ⟨W.heap.size, 0, none⟩ = some (.int .i64 r.start.w) ∧ w'.cell? ⟨W.heap.size, 1, none⟩ = some (.int .i64 r.start.h) ∧ w'.cell? ⟨W.heap.size, 2, none⟩ = some (.string r.start.cells) ∧ w'.cell? ⟨W.heap.size, 3, none⟩ = some (.int .i64 r.start.turn) ∧ w'.cell? ⟨W.heap.size, 4, none⟩ = some (.string r.start.h0) ∧ w'.cell? ⟨W.heap.size, 5, none⟩ = some (.string r.start.h1) ∧ w'.cell? ⟨W.heap.size, 6, none⟩ = some (.slice A r.pieces.length cp) ∧ w'.cell? ⟨W.heap.size, 7, none⟩ = some (.bool r.drops) ∧ w'.cell? ⟨W.heap.size, 8, none⟩ = some (.int .u8 r.lose) ∧ w'.cell? ⟨W.heap.size, 9, none⟩ = some (.int .i64 r.line) ∧ w'.cell? ⟨W.heap.size, 10, none⟩ = some (.int .u8 r.reach) ∧ w'.cell? ⟨W.heap.size, 11, none⟩ = some (.bool r.stuck) ∧ w'.cell? ⟨W.heap.size, 12, none⟩ = some (.int .i64 r.plies) ∧ w'.cell? ⟨W.heap.size + 1, 0, none⟩ = some (.int .i64 p.w) ∧ w'.cell? ⟨W.heap.size + 1, 1, none⟩ = some (.int .i64 p.h) ∧ w'.cell? ⟨W.heap.size + 1, 2, none⟩ = some (.string p.cells) ∧ w'.cell? ⟨W.heap.size + 1, 3, none⟩ = some (.int .i64 p.turn) ∧ w'.cell? ⟨W.heap.size + 1, 4, none⟩ = some (.string p.h0) ∧ w'.cell? ⟨W.heap.size + 1, 5, none⟩ = some (.string p.h1) ∧ w'.cell? ⟨bm, om + k * 3, none⟩ = some (.int .i64 m.f) ∧ w'.cell? ⟨bm, om + k * 3 + 1, none⟩ = some (.int .i64 m.t) ∧ w'.cell? ⟨bm, om + k * 3 + 2, none⟩ = some (.int .u8 m.c))) (by kernel_rfl) (HS13.out _ Hl6.out.drew) (fun hHeld => ?_)
          refine wpAnyH_take (i := 0) (oi := ⟨some 69, _, _, _, _, _⟩) (v := ?_) rfl (by kernel_rfl) (by kernel_rfl) (by kernel_rfl) (fun _ _ _ h => h) (Or.inl ⟨by rfl, ?_⟩) (by assumption) ?_
          rotate_left 1
          · intro w hSw
            try dsimp only at hSw
            go_simp <;> with_reducible rfl
          try simp only [Act.put, List.setIfInBounds_toArray, List.set_cons_zero, List.set_cons_succ]
          refine wpAnyH_take (i := 1) (oi := ⟨some 70, _, _, _, _, _⟩) (v := ?_) rfl (by kernel_rfl) (by kernel_rfl) (by kernel_rfl) (fun _ _ _ h => h) (Or.inl ⟨by rfl, ?_⟩) (by assumption) ?_
          rotate_left 1
          · intro w hSw
            try dsimp only at hSw
            go_simp <;> with_reducible rfl
          try simp only [Act.put, List.setIfInBounds_toArray, List.set_cons_zero, List.set_cons_succ]
          refine wpAnyH_take (i := 2) (oi := ⟨some 71, _, _, _, _, _⟩) (v := ?_) rfl (by kernel_rfl) (by kernel_rfl) (by kernel_rfl) (fun _ _ _ h => h) (Or.inl ⟨by rfl, ?_⟩) (by assumption) ?_
          rotate_left 1
          · intro w hSw
            try dsimp only at hSw
            go_simp <;> with_reducible rfl
          try simp only [Act.put, List.setIfInBounds_toArray, List.set_cons_zero, List.set_cons_succ]
          refine wpAnyH_take (i := 3) (oi := ⟨some 72, _, _, _, _, _⟩) (v := ?_) rfl (by kernel_rfl) (by kernel_rfl) (by kernel_rfl) (fun _ _ _ h => h) (Or.inl ⟨by rfl, ?_⟩) (by assumption) ?_
          rotate_left 1
          · intro w hSw
            try dsimp only at hSw
            go_simp <;> with_reducible rfl
          try simp only [Act.put, List.setIfInBounds_toArray, List.set_cons_zero, List.set_cons_succ]
          refine wpAnyH_take (i := 4) (oi := ⟨some 73, _, _, _, _, _⟩) (v := ?_) rfl (by kernel_rfl) (by kernel_rfl) (by kernel_rfl) (fun _ _ _ h => h) (Or.inl ⟨by rfl, ?_⟩) (by assumption) ?_
          rotate_left 1
          · intro w hSw
            try dsimp only at hSw
            go_simp <;> with_reducible rfl
          try simp only [Act.put, List.setIfInBounds_toArray, List.set_cons_zero, List.set_cons_succ]
          refine wpAnyH_take (i := 5) (oi := ⟨some 74, _, _, _, _, _⟩) (v := ?_) rfl (by kernel_rfl) (by kernel_rfl) (by kernel_rfl) (fun _ _ _ h => h) (Or.inl ⟨by rfl, ?_⟩) (by assumption) ?_
          rotate_left 1
          · intro w hSw
            try dsimp only at hSw
            go_simp <;> with_reducible rfl
          try simp only [Act.put, List.setIfInBounds_toArray, List.set_cons_zero, List.set_cons_succ]
          refine wpAnyH_ready (rs := [6, 10]) (by kernel_rfl) (by simp) ?_
          refine AllReadyH.cons (o := ⟨some 75, _, _, _, _, _⟩) rfl (fun K hK => ?_) ?_
          · clear hHeld
            go_simp
            go_at_call 16
            refine (HapM.out _ (HC3.out.trans (by repeat (first | exact Hl6.out | refine Later.drew ?_ | refine Later.alloc ?_ _)))).mono ?_
            rintro e wq ⟨rfl, hwx⟩
            have hwq : Later w6 wq := Later.trans (by repeat (first | exact Later.rfl | refine Later.drew ?_ | refine Later.alloc ?_ _)) hwx
            try go_wp2_with fail
            refine hK.out _ _ (by refine HS13.out _ (Later.trans Hl6.out ?_); repeat (first | exact Later.rfl | exact hwq | refine Later.drew ?_ | refine Later.alloc ?_ _ | refine later_setrow ?_ (by first | exact Nat.le_refl _ | exact hwq.size))) (fun hHeld => ?_)
            clear hK K
            try simp only [Act.put, List.setIfInBounds_toArray, List.set_cons_zero, List.set_cons_succ]
            refine wpAnyH_take (i := 7) (oi := ⟨some 68, _, _, _, _, _⟩) (v := ?_) rfl (by kernel_rfl) (by kernel_rfl) (by kernel_rfl) (fun _ _ _ h => h) (Or.inl ⟨by rfl, ?_⟩) (by assumption) ?_
            rotate_left 1
            · intro w hSw
              try dsimp only at hSw
              go_simp <;> with_reducible rfl
            try simp only [Act.put, List.setIfInBounds_toArray, List.set_cons_zero, List.set_cons_succ]
            refine wpAnyH_take (i := 8) (oi := ⟨some 76, _, _, _, _, _⟩) (v := ?_) rfl (by kernel_rfl) (by kernel_rfl) (by kernel_rfl) (fun _ _ _ h => h) (Or.inl ⟨by rfl, ?_⟩) (by assumption) ?_
            rotate_left 1
            · intro w hSw
              try dsimp only at hSw
              go_simp <;> with_reducible rfl
            try simp only [Act.put, List.setIfInBounds_toArray, List.set_cons_zero, List.set_cons_succ]
            refine wpAnyH_take (i := 9) (oi := ⟨some 77, _, _, _, _, _⟩) (v := ?_) rfl (by kernel_rfl) (by kernel_rfl) (by kernel_rfl) (fun _ _ _ h => h) (Or.inl ⟨by rfl, ?_⟩) (by assumption) ?_
            rotate_left 1
            · intro w hSw
              try dsimp only at hSw
              go_simp <;> with_reducible rfl
            try simp only [Act.put, List.setIfInBounds_toArray, List.set_cons_zero, List.set_cons_succ]
            refine wpAnyH_ready (rs := [10]) (by kernel_rfl) (by simp) ?_
            refine AllReadyH.cons (o := ⟨some 15, _, _, _, _, _⟩) rfl (fun K hK => ?_) ?_
            · clear hHeld
              go_simp
              refine hK.out _ _ (by refine HS13.out _ (Later.trans Hl6.out ?_); repeat (first | exact Later.rfl | exact hwq | refine Later.drew ?_ | refine Later.alloc ?_ _ | refine later_setrow ?_ (by first | exact Nat.le_refl _ | exact hwq.size))) (fun hHeld => ?_)
              clear hK K
              try simp only [Act.put, List.setIfInBounds_toArray, List.set_cons_zero, List.set_cons_succ]
              refine wpAnyH_ready (rs := [11]) (by kernel_rfl) (by simp) ?_
              refine AllReadyH.cons (o := ⟨none, _, _, _, _, _⟩) rfl (fun K hK => ?_) ?_
              · clear hHeld
                rw [if_pos (by rfl)]
                refine wp_store_row 24 (.tmp 15) (.tmp 76) rfl _ #[.int .i64 qw, .int .i64 qh, .string qc, .int .i64 (1 - p.turn), .string q0, .string q1] rfl rfl 24 _ (by first | exact hwx.blk ((Blk.new w6 24 #[.int .i64 0, .int .i64 0, .string ⟨#[]⟩, .int .i64 0, .string ⟨#[]⟩, .string ⟨#[]⟩]).drewN 1) | exact hwx.blk (Blk.new _ 24 #[.int .i64 0, .int .i64 0, .string ⟨#[]⟩, .int .i64 0, .string ⟨#[]⟩, .string ⟨#[]⟩]) | exact Blk.new _ _ _) (by kernel_rfl) (by simp) (by simp [Value.oneCell']) ?_
                skip
                refine hK.out _ _ (by refine HS13.out _ (Later.trans Hl6.out ?_); repeat (first | exact Later.rfl | exact hwq | refine Later.drew ?_ | refine Later.alloc ?_ _ | refine later_setrow ?_ (by first | exact Nat.le_refl _ | exact hwq.size))) (fun hHeld => ?_)
                clear hK K
                try simp only [Act.put]
                refine wpAnyH_take (i := 12) (oi := ⟨some 16, _, _, _, _, _⟩) (v := ?_) rfl (by kernel_rfl) (by kernel_rfl) (by kernel_rfl) (fun _ _ _ h => h) (Or.inl ⟨by rfl, ?_⟩) (by assumption) ?_
                rotate_left 1
                · intro w hSw
                  try dsimp only at hSw
                  go_simp <;> with_reducible rfl
                try simp only [Act.put, List.setIfInBounds_toArray, List.set_cons_zero, List.set_cons_succ]
                refine wpAnyH_done (by kernel_rfl) ?_ _
                go_wp2_with fail
                go_meet
                case rel => exact ⟨_, rfl, rfl, setRow_blk4 (by first | exact hwx.blk ((Blk.new w6 24 #[.int .i64 0, .int .i64 0, .string ⟨#[]⟩, .int .i64 0, .string ⟨#[]⟩, .string ⟨#[]⟩]).drewN 1) | exact hwx.blk (Blk.new _ 24 #[.int .i64 0, .int .i64 0, .string ⟨#[]⟩, .int .i64 0, .string ⟨#[]⟩, .string ⟨#[]⟩]) | exact Blk.new _ _ _), by repeat (first | exact Later.rfl | exact hwq | refine Later.drew ?_ | refine Later.alloc ?_ _ | refine later_setrow ?_ (by first | exact Nat.le_refl _ | exact hwq.size))⟩
              exact AllReadyH.nil
            exact AllReadyH.nil
          refine AllReadyH.cons (o := ⟨some 15, _, _, _, _, _⟩) rfl (fun K hK => ?_) ?_
          · clear hHeld
            go_simp
            refine hK.out _ _ (by refine HS13.out _ (Later.trans Hl6.out ?_); repeat (first | exact Later.rfl | exact hwq | refine Later.drew ?_ | refine Later.alloc ?_ _ | refine later_setrow ?_ (by first | exact Nat.le_refl _ | exact hwq.size))) (fun hHeld => ?_)
            clear hK K
            try simp only [Act.put, List.setIfInBounds_toArray, List.set_cons_zero, List.set_cons_succ]
            refine wpAnyH_ready (rs := [6]) (by kernel_rfl) (by simp) ?_
            refine AllReadyH.cons (o := ⟨some 75, _, _, _, _, _⟩) rfl (fun K hK => ?_) ?_
            · clear hHeld
              go_simp
              go_at_call 16
              refine (HapM.out _ (HC3.out.trans (by repeat (first | exact Hl6.out | refine Later.drew ?_ | refine Later.alloc ?_ _)))).mono ?_
              rintro e wq ⟨rfl, hwx⟩
              have hwq : Later w6 wq := Later.trans (by repeat (first | exact Later.rfl | refine Later.drew ?_ | refine Later.alloc ?_ _)) hwx
              try go_wp2_with fail
              refine hK.out _ _ (by refine HS13.out _ (Later.trans Hl6.out ?_); repeat (first | exact Later.rfl | exact hwq | refine Later.drew ?_ | refine Later.alloc ?_ _ | refine later_setrow ?_ (by first | exact Nat.le_refl _ | exact hwq.size))) (fun hHeld => ?_)
              clear hK K
              try simp only [Act.put, List.setIfInBounds_toArray, List.set_cons_zero, List.set_cons_succ]
              refine wpAnyH_take (i := 7) (oi := ⟨some 68, _, _, _, _, _⟩) (v := ?_) rfl (by kernel_rfl) (by kernel_rfl) (by kernel_rfl) (fun _ _ _ h => h) (Or.inl ⟨by rfl, ?_⟩) (by assumption) ?_
              rotate_left 1
              · intro w hSw
                try dsimp only at hSw
                go_simp <;> with_reducible rfl
              try simp only [Act.put, List.setIfInBounds_toArray, List.set_cons_zero, List.set_cons_succ]
              refine wpAnyH_take (i := 8) (oi := ⟨some 76, _, _, _, _, _⟩) (v := ?_) rfl (by kernel_rfl) (by kernel_rfl) (by kernel_rfl) (fun _ _ _ h => h) (Or.inl ⟨by rfl, ?_⟩) (by assumption) ?_
              rotate_left 1
              · intro w hSw
                try dsimp only at hSw
                go_simp <;> with_reducible rfl
              try simp only [Act.put, List.setIfInBounds_toArray, List.set_cons_zero, List.set_cons_succ]
              refine wpAnyH_take (i := 9) (oi := ⟨some 77, _, _, _, _, _⟩) (v := ?_) rfl (by kernel_rfl) (by kernel_rfl) (by kernel_rfl) (fun _ _ _ h => h) (Or.inl ⟨by rfl, ?_⟩) (by assumption) ?_
              rotate_left 1
              · intro w hSw
                try dsimp only at hSw
                go_simp <;> with_reducible rfl
              try simp only [Act.put, List.setIfInBounds_toArray, List.set_cons_zero, List.set_cons_succ]
              refine wpAnyH_ready (rs := [11]) (by kernel_rfl) (by simp) ?_
              refine AllReadyH.cons (o := ⟨none, _, _, _, _, _⟩) rfl (fun K hK => ?_) ?_
              · clear hHeld
                rw [if_pos (by rfl)]
                refine wp_store_row 24 (.tmp 15) (.tmp 76) rfl _ #[.int .i64 qw, .int .i64 qh, .string qc, .int .i64 (1 - p.turn), .string q0, .string q1] rfl rfl 24 _ (by first | exact hwx.blk ((Blk.new w6 24 #[.int .i64 0, .int .i64 0, .string ⟨#[]⟩, .int .i64 0, .string ⟨#[]⟩, .string ⟨#[]⟩]).drewN 1) | exact hwx.blk (Blk.new _ 24 #[.int .i64 0, .int .i64 0, .string ⟨#[]⟩, .int .i64 0, .string ⟨#[]⟩, .string ⟨#[]⟩]) | exact Blk.new _ _ _) (by kernel_rfl) (by simp) (by simp [Value.oneCell']) ?_
                skip
                refine hK.out _ _ (by refine HS13.out _ (Later.trans Hl6.out ?_); repeat (first | exact Later.rfl | exact hwq | refine Later.drew ?_ | refine Later.alloc ?_ _ | refine later_setrow ?_ (by first | exact Nat.le_refl _ | exact hwq.size))) (fun hHeld => ?_)
                clear hK K
                try simp only [Act.put]
                refine wpAnyH_take (i := 12) (oi := ⟨some 16, _, _, _, _, _⟩) (v := ?_) rfl (by kernel_rfl) (by kernel_rfl) (by kernel_rfl) (fun _ _ _ h => h) (Or.inl ⟨by rfl, ?_⟩) (by assumption) ?_
                rotate_left 1
                · intro w hSw
                  try dsimp only at hSw
                  go_simp <;> with_reducible rfl
                try simp only [Act.put, List.setIfInBounds_toArray, List.set_cons_zero, List.set_cons_succ]
                refine wpAnyH_done (by kernel_rfl) ?_ _
                go_wp2_with fail
                go_meet
                case rel => exact ⟨_, rfl, rfl, setRow_blk4 (by first | exact hwx.blk ((Blk.new w6 24 #[.int .i64 0, .int .i64 0, .string ⟨#[]⟩, .int .i64 0, .string ⟨#[]⟩, .string ⟨#[]⟩]).drewN 1) | exact hwx.blk (Blk.new _ 24 #[.int .i64 0, .int .i64 0, .string ⟨#[]⟩, .int .i64 0, .string ⟨#[]⟩, .string ⟨#[]⟩]) | exact Blk.new _ _ _), by repeat (first | exact Later.rfl | exact hwq | refine Later.drew ?_ | refine Later.alloc ?_ _ | refine later_setrow ?_ (by first | exact Nat.le_refl _ | exact hwq.size))⟩
              exact AllReadyH.nil
            exact AllReadyH.nil
          exact AllReadyH.nil
        case rest =>
          obtain ⟨gq, rfl, rfl, hq7, hl7⟩ := hcut
          rename World => w7
          have Hl7 := hide (Hl6.out.trans hl7)
          have Hm7 := hide (hl7.blk Hm6.out)
          have Hq7 := hide hq7
          have HS16 := hide (show ∀ w' : World, Later w7 w' → (w'.cell? ⟨gm, 0, none⟩ = some (.int .i64 m.f) ∧ w'.cell? ⟨gm, 1, none⟩ = some (.int .i64 m.t) ∧ w'.cell? ⟨gm, 2, none⟩ = some (.int .u8 m.c) ∧ w'.cell? ⟨bm, om + k * 3, none⟩ = some (.int .i64 m.f) ∧ w'.cell? ⟨bm, om + k * 3 + 1, none⟩ = some (.int .i64 m.t) ∧ w'.cell? ⟨bm, om + k * 3 + 2, none⟩ = some (.int .u8 m.c) ∧ w'.cell? ⟨gq, 0, none⟩ = some (.int .i64 qw) ∧ w'.cell? ⟨gq, 1, none⟩ = some (.int .i64 qh) ∧ w'.cell? ⟨gq, 2, none⟩ = some (.string qc) ∧ w'.cell? ⟨gq, 3, none⟩ = some (.int .i64 (1 - p.turn)) ∧ w'.cell? ⟨gq, 4, none⟩ = some (.string q0) ∧ w'.cell? ⟨gq, 5, none⟩ = some (.string q1) ∧ w'.cell? ⟨W.heap.size + 1, 0, none⟩ = some (.int .i64 p.w) ∧ w'.cell? ⟨W.heap.size + 1, 1, none⟩ = some (.int .i64 p.h) ∧ w'.cell? ⟨W.heap.size + 1, 2, none⟩ = some (.string p.cells) ∧ w'.cell? ⟨W.heap.size + 1, 3, none⟩ = some (.int .i64 p.turn) ∧ w'.cell? ⟨W.heap.size + 1, 4, none⟩ = some (.string p.h0) ∧ w'.cell? ⟨W.heap.size + 1, 5, none⟩ = some (.string p.h1)) from fun w' hw => by
            obtain ⟨⟨a0, a1, a2⟩, -⟩ := (hw.blk Hm7.out).mv
            obtain ⟨b0, b1, b2, b3, b4, b5⟩ := (hw.blk Hq7.out).pos6
            obtain ⟨p0, p1, p2, p3, p4, p5⟩ := (hw.blk (Hl7.out.blk Hstr.out.p)).pos6
            obtain ⟨x0, x1, x2, x3, x4, x5, x6, x7, x8, x9, x10, x11, x12, -, -, -, -, -, -, z0, z1, z2⟩ := HS13.out w' (Hl7.out.trans hw)
            exact ⟨a0, a1, a2, z0, z1, z2, b0, b1, b2, b3, b4, b5, p0, p1, p2, p3, p4, p5⟩)
          have hne : ∀ w, (binOp .neq 39 (.agg #[.int .i64 m.f, .int .i64 m.t, .int .u8 m.c]) (.agg #[.int .i64 m.f, .int .i64 m.t, .int .u8 m.c])).run Try.prog w = .ok (.bool false) w := fun w => by
            have h := neqM m m w
            have e : (!decide (m = m)) = false := by simp
            rw [← e]
            exact h
          have hgd : ∀ op a b w, (eqGuard op 39 a b (.agg #[.int .i64 m.f, .int .i64 m.t, .int .u8 m.c]) (.agg #[.int .i64 m.f, .int .i64 m.t, .int .u8 m.c])).run Try.prog w = .ok () w := fun op a b w => eqM.2 op a b m m w
          have tw : IntKind.i64.wrap (1 - p.turn) = 1 - p.turn := IntWalk.i64_in _ (by omega)
          have tq : (((1 : Int) - p.turn) != (1 - p.turn)) = false := by simp
          have tq2 : (((1 : Int) - p.turn) == (1 - p.turn)) = true := by simp
          clear hq7 hl7 HS13
          go_upto_region 16 with (fail)
          refine wp_region_held_drew (S := fun w' : World => (w'.cell? ⟨gm, 0, none⟩ = some (.int .i64 m.f) ∧ w'.cell? ⟨gm, 1, none⟩ = some (.int .i64 m.t) ∧ w'.cell? ⟨gm, 2, none⟩ = some (.int .u8 m.c) ∧ w'.cell? ⟨bm, om + k * 3, none⟩ = some (.int .i64 m.f) ∧ w'.cell? ⟨bm, om + k * 3 + 1, none⟩ = some (.int .i64 m.t) ∧ w'.cell? ⟨bm, om + k * 3 + 2, none⟩ = some (.int .u8 m.c) ∧ w'.cell? ⟨gq, 0, none⟩ = some (.int .i64 qw) ∧ w'.cell? ⟨gq, 1, none⟩ = some (.int .i64 qh) ∧ w'.cell? ⟨gq, 2, none⟩ = some (.string qc) ∧ w'.cell? ⟨gq, 3, none⟩ = some (.int .i64 (1 - p.turn)) ∧ w'.cell? ⟨gq, 4, none⟩ = some (.string q0) ∧ w'.cell? ⟨gq, 5, none⟩ = some (.string q1) ∧ w'.cell? ⟨W.heap.size + 1, 0, none⟩ = some (.int .i64 p.w) ∧ w'.cell? ⟨W.heap.size + 1, 1, none⟩ = some (.int .i64 p.h) ∧ w'.cell? ⟨W.heap.size + 1, 2, none⟩ = some (.string p.cells) ∧ w'.cell? ⟨W.heap.size + 1, 3, none⟩ = some (.int .i64 p.turn) ∧ w'.cell? ⟨W.heap.size + 1, 4, none⟩ = some (.string p.h0) ∧ w'.cell? ⟨W.heap.size + 1, 5, none⟩ = some (.string p.h1))) (by kernel_rfl) (HS16.out _ Later.rfl.drew) (fun hHeld => ?_)
          refine wpAnyH_take (i := 0) (oi := ⟨some 78, _, _, _, _, _⟩) (v := ?_) rfl (by kernel_rfl) (by kernel_rfl) (by kernel_rfl) (fun _ _ _ h => h) (Or.inl ⟨by rfl, ?_⟩) (by assumption) ?_
          rotate_left 1
          · intro w hSw
            try dsimp only at hSw
            go_simp <;> with_reducible rfl
          try simp only [Act.put, List.setIfInBounds_toArray, List.set_cons_zero, List.set_cons_succ]
          refine wpAnyH_take (i := 1) (oi := ⟨some 79, _, _, _, _, _⟩) (v := ?_) rfl (by kernel_rfl) (by kernel_rfl) (by kernel_rfl) (fun _ _ _ h => h) (Or.inl ⟨by rfl, ?_⟩) (by assumption) ?_
          rotate_left 1
          · intro w hSw
            try dsimp only at hSw
            go_simp <;> with_reducible rfl
          try simp only [Act.put, List.setIfInBounds_toArray, List.set_cons_zero, List.set_cons_succ]
          refine wpAnyH_take (i := 2) (oi := ⟨some 80, _, _, _, _, _⟩) (v := ?_) rfl (by kernel_rfl) (by kernel_rfl) (by kernel_rfl) (fun _ _ _ h => h) (Or.inl ⟨by rfl, ?_⟩) (by assumption) ?_
          rotate_left 1
          · intro w hSw
            try dsimp only at hSw
            go_simp <;> with_reducible rfl
          try simp only [Act.put, List.setIfInBounds_toArray, List.set_cons_zero, List.set_cons_succ]
          refine wpAnyH_take (i := 3) (oi := ⟨some 81, _, _, _, _, _⟩) (v := ?_) rfl (by kernel_rfl) (by kernel_rfl) (by kernel_rfl) (fun _ _ _ h => h) (Or.inl ⟨by rfl, ?_⟩) (by assumption) ?_
          rotate_left 1
          · intro w hSw
            try dsimp only at hSw
            go_simp <;> with_reducible rfl
          try simp only [Act.put, List.setIfInBounds_toArray, List.set_cons_zero, List.set_cons_succ]
          refine wpAnyH_take (i := 4) (oi := ⟨some 82, _, _, _, _, _⟩) (v := ?_) rfl (by kernel_rfl) (by kernel_rfl) (by kernel_rfl) (fun _ _ _ h => h) (Or.inl ⟨by rfl, ?_⟩) (by assumption) ?_
          rotate_left 1
          · intro w hSw
            try dsimp only at hSw
            go_simp <;> with_reducible rfl
          try simp only [Act.put, List.setIfInBounds_toArray, List.set_cons_zero, List.set_cons_succ]
          refine wpAnyH_take (i := 5) (oi := ⟨some 83, _, _, _, _, _⟩) (v := ?_) rfl (by kernel_rfl) (by kernel_rfl) (by kernel_rfl) (fun _ _ _ h => h) (Or.inl ⟨by rfl, ?_⟩) (by assumption) ?_
          rotate_left 1
          · intro w hSw
            try dsimp only at hSw
            go_simp <;> with_reducible rfl
          try simp only [Act.put, List.setIfInBounds_toArray, List.set_cons_zero, List.set_cons_succ]
          refine wpAnyH_take (i := 6) (oi := ⟨some 84, _, _, _, _, _⟩) (v := ?_) rfl (by kernel_rfl) (by kernel_rfl) (by kernel_rfl) (fun _ _ _ h => h) (Or.inl ⟨by rfl, ?_⟩) (by assumption) ?_
          rotate_left 1
          · intro w hSw
            try dsimp only at hSw
            go_simp <;> with_reducible rfl
          try simp only [Act.put, List.setIfInBounds_toArray, List.set_cons_zero, List.set_cons_succ]
          refine wpAnyH_take (i := 7) (oi := ⟨some 85, _, _, _, _, _⟩) (v := ?_) rfl (by kernel_rfl) (by kernel_rfl) (by kernel_rfl) (fun _ _ _ h => h) (Or.inl ⟨by rfl, ?_⟩) (by assumption) ?_
          rotate_left 1
          · intro w hSw
            try dsimp only at hSw
            go_simp <;> with_reducible rfl
          try simp only [Act.put, List.setIfInBounds_toArray, List.set_cons_zero, List.set_cons_succ]
          refine wpAnyH_take (i := 8) (oi := ⟨some 86, _, _, _, _, _⟩) (v := ?_) rfl (by kernel_rfl) (by kernel_rfl) (by kernel_rfl) (fun _ _ _ h => h) (Or.inl ⟨by rfl, ?_⟩) (by assumption) ?_
          rotate_left 1
          · intro w hSw
            try dsimp only at hSw
            go_simp <;> with_reducible rfl
          try simp only [Act.put, List.setIfInBounds_toArray, List.set_cons_zero, List.set_cons_succ]
          refine wpAnyH_take (i := 9) (oi := ⟨some 87, _, _, _, _, _⟩) (v := ?_) rfl (by kernel_rfl) (by kernel_rfl) (by kernel_rfl) (fun _ _ _ h => h) (Or.inl ⟨by rfl, ?_⟩) (by assumption) ?_
          rotate_left 1
          · intro w hSw
            try dsimp only at hSw
            go_simp <;> with_reducible rfl
          try simp only [Act.put, List.setIfInBounds_toArray, List.set_cons_zero, List.set_cons_succ]
          refine wpAnyH_take (i := 10) (oi := ⟨some 88, _, _, _, _, _⟩) (v := ?_) rfl (by kernel_rfl) (by kernel_rfl) (by kernel_rfl) (fun _ _ _ h => h) (Or.inl ⟨by rfl, ?_⟩) (by assumption) ?_
          rotate_left 1
          · intro w hSw
            try dsimp only at hSw
            go_simp <;> with_reducible rfl
          try simp only [Act.put, List.setIfInBounds_toArray, List.set_cons_zero, List.set_cons_succ]
          refine wpAnyH_take (i := 11) (oi := ⟨some 89, _, _, _, _, _⟩) (v := ?_) rfl (by kernel_rfl) (by kernel_rfl) (by kernel_rfl) (fun _ _ _ h => h) (Or.inl ⟨by rfl, ?_⟩) (by assumption) ?_
          rotate_left 1
          · intro w hSw
            try dsimp only at hSw
            go_simp <;> with_reducible rfl
          try simp only [Act.put, List.setIfInBounds_toArray, List.set_cons_zero, List.set_cons_succ]
          refine wpAnyH_take (i := 12) (oi := ⟨some 90, _, _, _, _, _⟩) (v := ?_) rfl (by kernel_rfl) (by kernel_rfl) (by kernel_rfl) (fun _ _ _ h => h) (Or.inl ⟨by rfl, ?_⟩) (by assumption) ?_
          rotate_left 1
          · intro w hSw
            try dsimp only at hSw
            go_simp <;> with_reducible rfl
          try simp only [Act.put, List.setIfInBounds_toArray, List.set_cons_zero, List.set_cons_succ]
          refine wpAnyH_take (i := 13) (oi := ⟨some 91, _, _, _, _, _⟩) (v := ?_) rfl (by kernel_rfl) (by kernel_rfl) (by kernel_rfl) (fun _ _ _ h => h) (Or.inl ⟨by rfl, ?_⟩) (by assumption) ?_
          rotate_left 1
          · intro w hSw
            try dsimp only at hSw
            go_simp <;> with_reducible rfl
          try simp only [Act.put, List.setIfInBounds_toArray, List.set_cons_zero, List.set_cons_succ]
          refine wpAnyH_take (i := 14) (oi := ⟨some 92, _, _, _, _, _⟩) (v := ?_) rfl (by kernel_rfl) (by kernel_rfl) (by kernel_rfl) (fun _ _ _ h => h) (Or.inl ⟨by rfl, ?_⟩) (by assumption) ?_
          rotate_left 1
          · intro w hSw
            try dsimp only at hSw
            go_simp <;> with_reducible rfl
          try simp only [Act.put, List.setIfInBounds_toArray, List.set_cons_zero, List.set_cons_succ]
          refine wpAnyH_take (i := 15) (oi := ⟨some 93, _, _, _, _, _⟩) (v := ?_) rfl (by kernel_rfl) (by kernel_rfl) (by kernel_rfl) (fun _ _ _ h => h) (Or.inl ⟨by rfl, ?_⟩) (by assumption) ?_
          rotate_left 1
          · intro w hSw
            try dsimp only at hSw
            go_simp <;> with_reducible rfl
          try simp only [Act.put, List.setIfInBounds_toArray, List.set_cons_zero, List.set_cons_succ]
          refine wpAnyH_take (i := 16) (oi := ⟨some 94, _, _, _, _, _⟩) (v := ?_) rfl (by kernel_rfl) (by kernel_rfl) (by kernel_rfl) (fun _ _ _ h => h) (Or.inl ⟨by rfl, ?_⟩) (by assumption) ?_
          rotate_left 1
          · intro w hSw
            try dsimp only at hSw
            go_simp <;> with_reducible rfl
          try simp only [Act.put, List.setIfInBounds_toArray, List.set_cons_zero, List.set_cons_succ]
          refine wpAnyH_take (i := 17) (oi := ⟨some 95, _, _, _, _, _⟩) (v := ?_) rfl (by kernel_rfl) (by kernel_rfl) (by kernel_rfl) (fun _ _ _ h => h) (Or.inl ⟨by rfl, ?_⟩) (by assumption) ?_
          rotate_left 1
          · intro w hSw
            try dsimp only at hSw
            go_simp <;> with_reducible rfl
          try simp only [Act.put, List.setIfInBounds_toArray, List.set_cons_zero, List.set_cons_succ]
          refine wpAnyH_take (i := 18) (oi := ⟨some 96, _, _, _, _, _⟩) (v := ?_) rfl (by kernel_rfl) (by kernel_rfl) (by kernel_rfl) (fun _ _ _ h => h) (Or.inl ⟨by rfl, ?_⟩) (by assumption) ?_
          rotate_left 1
          · intro w hSw
            try dsimp only at hSw
            go_simp <;> with_reducible rfl
          try simp only [Act.put, List.setIfInBounds_toArray, List.set_cons_zero, List.set_cons_succ]
          refine wpAnyH_take (i := 19) (oi := ⟨some 97, _, _, _, _, _⟩) (v := ?_) rfl (by kernel_rfl) (by kernel_rfl) (by kernel_rfl) (fun _ _ _ h => h) (Or.inl ⟨by rfl, ?_⟩) (by assumption) ?_
          rotate_left 1
          · intro w hSw
            try dsimp only at hSw
            go_simp <;> with_reducible rfl
          try simp only [Act.put, List.setIfInBounds_toArray, List.set_cons_zero, List.set_cons_succ]
          refine wpAnyH_take (i := 20) (oi := ⟨some 98, _, _, _, _, _⟩) (v := ?_) rfl (by kernel_rfl) (by kernel_rfl) (by kernel_rfl) (fun _ _ _ h => h) (Or.inl ⟨by rfl, ?_⟩) (by assumption) ?_
          rotate_left 1
          · intro w hSw
            try dsimp only at hSw
            go_simp <;> with_reducible rfl
          try simp only [Act.put, List.setIfInBounds_toArray, List.set_cons_zero, List.set_cons_succ]
          refine wpAnyH_take (i := 21) (oi := ⟨some 99, _, _, _, _, _⟩) (v := ?_) rfl (by kernel_rfl) (by kernel_rfl) (by kernel_rfl) (fun _ _ _ h => h) (Or.inl ⟨by rfl, ?_⟩) (by assumption) ?_
          rotate_left 1
          · intro w hSw
            try dsimp only at hSw
            go_simp <;> with_reducible rfl
          try simp only [Act.put, List.setIfInBounds_toArray, List.set_cons_zero, List.set_cons_succ]
          refine wpAnyH_take (i := 22) (oi := ⟨some 100, _, _, _, _, _⟩) (v := ?_) rfl (by kernel_rfl) (by kernel_rfl) (by kernel_rfl) (fun _ _ _ h => h) (Or.inl ⟨by rfl, ?_⟩) (by assumption) ?_
          rotate_left 1
          · intro w hSw
            try dsimp only at hSw
            go_simp <;> with_reducible rfl
          try simp only [Act.put, List.setIfInBounds_toArray, List.set_cons_zero, List.set_cons_succ]
          refine wpAnyH_take (i := 23) (oi := ⟨some 101, _, _, _, _, _⟩) (v := ?_) rfl (by kernel_rfl) (by kernel_rfl) (by kernel_rfl) (fun _ _ _ h => h) (Or.inl ⟨by rfl, ?_⟩) (by assumption) ?_
          rotate_left 1
          · intro w hSw
            try dsimp only at hSw
            go_simp <;> with_reducible rfl
          try simp only [Act.put, List.setIfInBounds_toArray, List.set_cons_zero, List.set_cons_succ]
          refine wpAnyH_take (i := 24) (oi := ⟨some 102, _, _, _, _, _⟩) (v := ?_) rfl (by kernel_rfl) (by kernel_rfl) (by kernel_rfl) (fun _ _ _ h => h) (Or.inl ⟨by rfl, ?_⟩) (by assumption) ?_
          rotate_left 1
          · intro w hSw
            try dsimp only at hSw
            go_simp <;> with_reducible rfl
          try simp only [Act.put, List.setIfInBounds_toArray, List.set_cons_zero, List.set_cons_succ]
          refine wpAnyH_take (i := 25) (oi := ⟨some 103, _, _, _, _, _⟩) (v := ?_) rfl (by kernel_rfl) (by kernel_rfl) (by kernel_rfl) (fun _ _ _ h => h) (Or.inl ⟨by rfl, ?_⟩) (by assumption) ?_
          rotate_left 1
          · intro w hSw
            try dsimp only at hSw
            go_simp <;> with_reducible rfl
          try simp only [Act.put, List.setIfInBounds_toArray, List.set_cons_zero, List.set_cons_succ]
          refine wpAnyH_take (i := 26) (oi := ⟨some 104, _, _, _, _, _⟩) (v := ?_) rfl (by kernel_rfl) (by kernel_rfl) (by kernel_rfl) (fun _ _ _ h => h) (Or.inl ⟨by rfl, ?_⟩) (by assumption) ?_
          rotate_left 1
          · intro w hSw
            try dsimp only at hSw
            go_simp <;> with_reducible rfl
          try simp only [Act.put, List.setIfInBounds_toArray, List.set_cons_zero, List.set_cons_succ]
          refine wpAnyH_take (i := 27) (oi := ⟨some 105, _, _, _, _, _⟩) (v := ?_) rfl (by kernel_rfl) (by kernel_rfl) (by kernel_rfl) (fun _ _ _ h => h) (Or.inl ⟨by rfl, ?_⟩) (by assumption) ?_
          rotate_left 1
          · intro w hSw
            try dsimp only at hSw
            go_simp <;> with_reducible rfl
          try simp only [Act.put, List.setIfInBounds_toArray, List.set_cons_zero, List.set_cons_succ]
          refine wpAnyH_ready (rs := [28]) (by kernel_rfl) (by simp) ?_
          refine AllReadyH.cons (o := ⟨some 106, _, _, _, _, _⟩) rfl (fun K hK => ?_) ?_
          · clear hHeld
            go_simp
            go_at_call 17
            refine (HckM.out _).mono ?_
            rintro e wc ⟨rfl, hwx⟩
            have hwq : Later w7 wc := Later.trans (by repeat (first | exact Later.rfl | refine Later.drew ?_ | refine Later.alloc ?_ _)) hwx
            try go_wp2_with fail
            refine hK.out _ _ (by refine HS16.out _ ?_; repeat (first | exact Later.rfl | exact hwq | refine Later.drew ?_ | refine Later.alloc ?_ _)) (fun hHeld => ?_)
            clear hK K
            try simp only [Act.put, List.setIfInBounds_toArray, List.set_cons_zero, List.set_cons_succ]
            refine wpAnyH_take (i := 29) (oi := ⟨some 107, _, _, _, _, _⟩) (v := ?_) rfl (by kernel_rfl) (by kernel_rfl) (by kernel_rfl) (fun _ _ _ h => h) (Or.inl ⟨by rfl, ?_⟩) (by assumption) ?_
            rotate_left 1
            · intro w hSw
              try dsimp only at hSw
              go_simp <;> with_reducible rfl
            try simp only [Act.put, List.setIfInBounds_toArray, List.set_cons_zero, List.set_cons_succ]
            refine wpAnyH_take (i := 30) (oi := ⟨some 108, _, _, _, _, _⟩) (v := ?_) rfl (by kernel_rfl) (by kernel_rfl) (by kernel_rfl) (fun _ _ _ h => h) (Or.inl ⟨by rfl, ?_⟩) (by assumption) ?_
            rotate_left 1
            · intro w hSw
              try dsimp only at hSw
              go_simp <;> with_reducible rfl
            try simp only [Act.put, List.setIfInBounds_toArray, List.set_cons_zero, List.set_cons_succ]
            refine wpAnyH_done (by kernel_rfl) ?_ _
            have Hstc := hide (Hstr.out.later_ (Hl7.out.trans hwq))
            have Hqc := hide (hwq.blk Hq7.out)
            clear HS16 hne hgd tq tq2 tw
            obtain ⟨x0, x1, x2, x3, x4, x5, x6, x7, x8, x9, x10, x11, x12⟩ := Hstc.out.r.rules
            obtain ⟨b0, b1, b2, b3, b4, b5⟩ := Hqc.out.pos6
            go_wp2_with (go_at_call 13; refine (HcqM.out _ Hstc.out.later).mono ?_; rintro e w9 ⟨rfl, hw9⟩)
            go_roundw
            case rel => exact ⟨k + 1, by omega, by go_num, by rw [Hsk.out]; go_num, Hwr.out.trans ((Hl7.out.trans hwq).trans hw9)⟩
            case measure => simp [intOf]; omega
          exact AllReadyH.nil
      exact AllReadyH.nil
    · obtain rfl : L.length = k := by omega
      have t1 : decide ((L.length : Int) < (L.length : Int)) = false := by simp
      have t1n : decide (L.length < L.length) = false := by simp
      obtain ⟨x0, x1, x2, x3, x4, x5, x6, x7, x8, x9, x10, x11, x12⟩ := Hstr.out.r.rules
      obtain ⟨p0, p1, p2, p3, p4, p5⟩ := Hstr.out.p.pos6
      obtain ⟨n, hn⟩ : ∃ n, sumB r p L.length = n := ⟨_, rfl⟩
      rw [hn] at Hc2 ⊢
      clear hn
      by_cases hbig : 100000 < n
      · simp only [if_pos hbig] at Hc2
        have d1 : decide ((100000 : Int) < (n : Int)) = true := by simp; omega
        have d2 : decide (100000 < n) = true := by simp; omega
        clear hbig
        go_wp2_with (go_at_call 13; refine (Hc2.out _ Hstr.out.later).mono ?_; rintro e w9 ⟨rfl, hw9⟩)
        go_ret
        exact ⟨rfl, Hstr.out.later.trans hw9⟩
      · simp only [if_neg hbig] at Hc2
        have d1 : decide ((100000 : Int) < (n : Int)) = false := by simp; omega
        have d2 : decide (100000 < n) = false := by simp; omega
        clear hbig
        go_wp2_with (go_at_call 13; refine (Hc2.out _ Hstr.out.later).mono ?_; rintro e w9 ⟨rfl, hw9⟩)
        go_ret
        exact ⟨rfl, Hstr.out.later.trans hw9⟩
theorem mb_any (r : RulesD) (A : Option Addr) (cp : Nat) (p : Pos) (W : World) (hf : RFit r) (hg : PFit p) (hP : PiecesAt W W.heap.size A r.pieces) :
    Calls Try.prog 4 #[.agg #[.int .i64 r.start.w, .int .i64 r.start.h, .string r.start.cells, .int .i64 r.start.turn, .string r.start.h0, .string r.start.h1, .slice A r.pieces.length cp, .bool r.drops, .int .u8 r.lose, .int .i64 r.line, .int .u8 r.reach, .bool r.stuck, .int .i64 r.plies], .agg #[.int .i64 p.w, .int .i64 p.h, .string p.cells, .int .i64 p.turn, .string p.h0, .string p.h1]] W fun e w' => e = .returned (.bool true) ∧ Later W w' := by
  by_cases hok : OfOk r p
  · exact mb_ok r A cp p W hf hg hP hok
  · exact mb_no r A cp p W hf hg hP hok
end Go.Proofs.Ytdfegpohmaideaa
/- Arguments opened into the words of Base. -/
namespace Go.Proofs.Ytdfegpohmaideaa
open Go.RowKit Go.ChangeShapes Go.WideShapes Go.Deep

theorem addr_of_cell {w : World} {a : Addr} {v : Value} (h : w.cell? a = some v) : a = ⟨a.block, a.off, none⟩ := by
  obtain ⟨b, o, s⟩ := a
  cases s with
  | none => rfl
  | some x =>
    unfold World.cell? at h
    split at h <;> simp at h

section
variable {H : Type} {enc : TypeId × Value → H} {P : Program} {w : World}

theorem cells_of {a : Addr} {xs : List Value} (h : ∀ k (hk : k < xs.length), w.cell? (a.add k) = some xs[k]) : Cells w w.heap.size (some a) xs := fun hn => by
  have h0 := h 0 hn
  have ha : a = ⟨a.block, a.off, none⟩ := by
    have := addr_of_cell h0
    simpa [Addr.add] using this
  refine ⟨a.block, a.off, by rw [← ha], ?_, fun k hk => ?_⟩
  · have := World.block_lt_of_cell? w _ h0
    simpa [Addr.add] using this
  · have h1 := h k hk
    rw [ha] at h1
    simp only [Addr.add_lit] at h1
    exact h1

theorem open_ints1 {t e : TypeId} (ht : P.underlying t = some (.slice e)) (he : P.underlying e = some (.int .i64)) (ce : P.cellsOf e = 1)
    {v : Value} {d : DataW H} {ps : List MemPlace} (hok : ∃ a n c, v = .slice a n c) (h : DataW.Trod enc P w 0 (fun _ => true) true t v d ps) :
    ∃ A c l, v = .slice A l.length c ∧ l.length ≤ c ∧ c ≤ maxLen ∧ Cells w w.heap.size A (ints l) ∧ (∀ x ∈ l, -9223372036854775808 ≤ x ∧ x ≤ 9223372036854775807) := by
  obtain ⟨a0, n0, c0, rfl⟩ := hok
  obtain ⟨fuel, hf⟩ := h
  rcases open_ints ht he ce hf with ⟨hcs, hx⟩ | ⟨a, len, cap, zs, hcs, _, hl, hm, hz, hx, hcell, hwz⟩
  · simp [Value.cells] at hcs
    obtain ⟨rfl, rfl, rfl⟩ := hcs
    exact ⟨none, 0, [], rfl, by simp, by simp [maxLen], Cells.nil_, by simp⟩
  · simp [Value.cells] at hcs
    obtain ⟨rfl, rfl, rfl⟩ := hcs
    simp only [if_true] at hz
    have hlen : (zs.take n0).length = n0 := by simp; omega
    refine ⟨some a, c0, zs.take n0, by rw [hlen], by omega, hm, cells_of (fun k hk => ?_), fun x hx => ?_⟩
    · rw [ints_get]
      simp only [ints_length, hlen] at hk
      rw [hcell k (by omega)]
      simp [List.getD_eq_getElem?_getD, hz, Nat.lt_of_lt_of_le hk hl]
    · have := hwz x (List.mem_of_mem_take hx)
      have h1 : IntKind.i64.min = -9223372036854775808 := rfl
      have h2 : IntKind.i64.max = 9223372036854775807 := rfl
      simp [Lit.wf, h1, h2] at this
      omega

theorem open_rows2 {t e q : TypeId} (ht : P.underlying t = some (.slice e)) (he : P.underlying e = some (.slice q)) (hq : P.underlying q = some (.int .i64))
    (ce : P.cellsOf e = 1) (cq : P.cellsOf q = 1) {v : Value} {d : DataW H} {ps : List MemPlace} (hok : ∃ a n c, v = .slice a n c) (h : DataW.Trod enc P w 0 (fun _ => true) true t v d ps) :
    ∃ A c rows, v = .slice A rows.length c ∧ rows.length ≤ c ∧ c ≤ maxLen ∧ Rows2 w w.heap.size A rows ∧ (∀ k (hk : k < rows.length), rows[k].length ≤ maxLen) := by
  obtain ⟨a0, n0, c0, rfl⟩ := hok
  obtain ⟨fuel, hf⟩ := h
  rcases open_int_rows ht he hq ce cq hf with ⟨hcs, hx⟩ | ⟨a, len, cap, A, L, C, Z, hcs, _, hl, hm, hx, hr⟩
  · simp [Value.cells] at hcs
    obtain ⟨rfl, rfl, rfl⟩ := hcs
    exact ⟨none, 0, [], rfl, by simp, by simp [maxLen], ⟨[], rfl, Cells.nil_, fun k h => by simp at h⟩, fun k h => by simp at h⟩
  · simp [Value.cells] at hcs
    obtain ⟨rfl, rfl, rfl⟩ := hcs
    have hlen : ((List.range n0).map fun r => (Z r).take (L r)).length = n0 := by simp
    have hrow : ∀ k (hk : k < ((List.range n0).map fun r => (Z r).take (L r)).length), ((List.range n0).map fun r => (Z r).take (L r))[k] = (Z k).take (L k) := fun k hk => by simp
    have hZ : ∀ k, k < n0 → ((Z k).take (L k)).length = L k := fun k hk => by
      obtain ⟨_, h1, _, h3, _⟩ := hr k (by omega)
      simp; omega
    refine ⟨some a, c0, (List.range n0).map fun r => (Z r).take (L r), by rw [hlen], by omega, hm, ⟨(List.range n0).map fun r => .slice (A r) (L r) (C r), by simp, cells_of (fun k hk => ?_), fun k hk => ?_⟩, fun k hk => ?_⟩
    · simp only [List.length_map, List.length_range] at hk
      rw [(hr k (by omega)).1]
      simp
    · have hk' : k < n0 := by rw [hlen] at hk; exact hk
      obtain ⟨h0, h1, h2, h3, h4, h5, h6⟩ := hr k (by omega)
      refine ⟨A k, C k, ?_, ?_, ?_⟩
      · rw [hrow, hZ k hk']; exact h1
      · rw [hrow, hZ k hk']; simp [hk']
      · rw [hrow]
        cases hA : A k with
        | none =>
          have : L k = 0 := by have := h5 hA; omega
          rw [this]
          exact Cells.nil_
        | some a' =>
          refine cells_of (fun c hc => ?_)
          rw [ints_get]
          simp only [ints_length, hZ k hk'] at hc
          rw [(h6 a' hA).2 c (by omega)]
          simp [List.getD_eq_getElem?_getD, h3, Nat.lt_of_lt_of_le hc h1]
    · have hk' : k < n0 := by rw [hlen] at hk; exact hk
      obtain ⟨h0, h1, h2, h3, h4, h5, h6⟩ := hr k (by omega)
      rw [hrow, hZ k hk']
      omega
end
end Go.Proofs.Ytdfegpohmaideaa
/- A position as an argument, opened. -/
namespace Go.Proofs.Ytdfegpohmaideaa
open Go.RowKit Go.ChangeShapes Go.WideShapes Go.Deep Go.ChangeMaps

section
variable {H : Type} {enc : TypeId × Value → H} {w : World} {base : Nat} {spare : Nat → Bool} {held : Bool}

set_option maxRecDepth 100000 in
/-- the six cells of a position, wherever they stand -/
theorem trod_pos {fuel : Nat} {cs : List Value} {x : DataW H × List MemPlace} (h : DataW.trod enc Try.prog w base spare held fuel 24 cs = some x) :
    ∃ (a b : Int) (c : ByteArray) (t : Int) (h0 h1 : ByteArray), cs = [.int .i64 a, .int .i64 b, .string c, .int .i64 t, .string h0, .string h1] ∧ x.2 = [] ∧
      c.size ≤ 9223372036854775807 ∧ h0.size ≤ 9223372036854775807 ∧ h1.size ≤ 9223372036854775807 ∧ (-9223372036854775808 ≤ a ∧ a ≤ 9223372036854775807) ∧ (-9223372036854775808 ≤ b ∧ b ≤ 9223372036854775807) ∧ (-9223372036854775808 ≤ t ∧ t ≤ 9223372036854775807) := by
  obtain ⟨xs, n, _, hx, hlen, hxl, hg⟩ := DataW.trod_struct Try.underlying24 h
  have c6 : Try.prog.cellsOf 24 = 6 := by kernel_rfl
  have ci : Try.prog.cellsOf 3 = 1 := by kernel_rfl
  have cst : Try.prog.cellsOf 9 = 1 := by kernel_rfl
  have c2 : Try.prog.cellsOf 22 = 2 := by kernel_rfl
  rw [c6] at hlen
  match cs, hlen with
  | [e0, e1, e2, e3, e4, e5], _ =>
    match xs, hxl with
    | [y0, y1, y2, y3, y4], _ =>
      have g0 : DataW.trod enc Try.prog w base spare held n 3 (([e0, e1, e2, e3, e4, e5].drop 0).take (Try.prog.cellsOf 3)) = [y0, y1, y2, y3, y4][0]? := hg 0 _ rfl
      have g1 : DataW.trod enc Try.prog w base spare held n 3 (([e0, e1, e2, e3, e4, e5].drop 1).take (Try.prog.cellsOf 3)) = [y0, y1, y2, y3, y4][1]? := hg 1 _ rfl
      have g2 : DataW.trod enc Try.prog w base spare held n 9 (([e0, e1, e2, e3, e4, e5].drop 2).take (Try.prog.cellsOf 9)) = [y0, y1, y2, y3, y4][2]? := hg 2 _ rfl
      have g3 : DataW.trod enc Try.prog w base spare held n 3 (([e0, e1, e2, e3, e4, e5].drop 3).take (Try.prog.cellsOf 3)) = [y0, y1, y2, y3, y4][3]? := hg 3 _ rfl
      have g4 : DataW.trod enc Try.prog w base spare held n 22 (([e0, e1, e2, e3, e4, e5].drop 4).take (Try.prog.cellsOf 22)) = [y0, y1, y2, y3, y4][4]? := hg 4 _ rfl
      simp only [ci, cst, c2, List.drop_zero, List.drop_succ_cons, List.take_succ_cons, List.take_zero, List.getElem?_cons_zero, List.getElem?_cons_succ] at g0 g1 g2 g3 g4
      obtain ⟨a, ha, ea, wa⟩ := DataW.trod_int Try.underlying3 g0
      obtain ⟨b, hb, eb, wb⟩ := DataW.trod_int Try.underlying3 g1
      obtain ⟨c, hc, ec, wc⟩ := DataW.trod_string Try.underlying9 g2
      obtain ⟨t, ht, et, wt⟩ := DataW.trod_int Try.underlying3 g3
      obtain ⟨zs, m, _, hz, _, hzl, hzg⟩ := DataW.trod_array Try.underlying22 g4
      match zs, hzl with
      | [z0, z1], _ =>
        have k0 := hzg 0 (by omega)
        have k1 := hzg 1 (by omega)
        simp only [cst, Nat.zero_mul, Nat.one_mul, List.drop_zero, List.drop_succ_cons, List.take_succ_cons, List.take_zero, List.getElem?_cons_zero, List.getElem?_cons_succ] at k0 k1
        obtain ⟨h0, q0, r0, s0⟩ := DataW.trod_string Try.underlying9 k0
        obtain ⟨h1, q1, r1, s1⟩ := DataW.trod_string Try.underlying9 k1
        simp only [List.cons.injEq, and_true] at ha hb hc ht q0 q1
        have m1 : IntKind.i64.min = -9223372036854775808 := rfl
        have m2 : IntKind.i64.max = 9223372036854775807 := rfl
        simp [Lit.wf, m1, m2] at wa wb wt
        have m3 : maxLen = 9223372036854775807 := rfl
        rw [m3] at wc s0 s1
        refine ⟨a, b, c, t, h0, h1, by rw [ha, hb, hc, ht, q0, q1], ?_, by omega, by omega, by omega, wa, wb, wt⟩
        rw [hx]
        simp [ea, eb, ec, et, hz, r0, r1]

set_option maxRecDepth 100000 in
theorem open_pos {r : Reach} {b0 : Nat} {v : Value} {d : DataW H} {p : List MemPlace} (hv : Value.okWide Try.prog w r b0 24 v) (h : DataW.Trod enc Try.prog w base spare held 24 v d p) :
    ∃ (a b : Int) (c : ByteArray) (t : Int) (h0 h1 : ByteArray), v = .agg #[.int .i64 a, .int .i64 b, .string c, .int .i64 t, .string h0, .string h1] ∧ p = [] ∧
      c.size ≤ 9223372036854775807 ∧ h0.size ≤ 9223372036854775807 ∧ h1.size ≤ 9223372036854775807 ∧ (-9223372036854775808 ≤ a ∧ a ≤ 9223372036854775807) ∧ (-9223372036854775808 ≤ b ∧ b ≤ 9223372036854775807) ∧ (-9223372036854775808 ≤ t ∧ t ≤ 9223372036854775807) := by
  obtain ⟨cs, rfl, hsz⟩ := okWide_struct Try.underlying24 hv
  obtain ⟨fuel, hf⟩ := h
  obtain ⟨a, b, c, t, h0, h1, hcs, hp, rest⟩ := trod_pos hf
  obtain ⟨l⟩ := cs
  refine ⟨a, b, c, t, h0, h1, ?_, hp, rest⟩
  have hcs2 : l = [.int .i64 a, .int .i64 b, .string c, .int .i64 t, .string h0, .string h1] := by simpa [Value.cells] using hcs
  rw [hcs2]
end
end Go.Proofs.Ytdfegpohmaideaa
/- Rules as an argument, opened. -/
namespace Go.Proofs.Ytdfegpohmaideaa
open Go.RowKit Go.ChangeShapes Go.WideShapes Go.Deep Go.ChangeMaps

theorem each_of {α : Type} {P : Nat → α → Prop} : ∀ {n : Nat} (_ : ∀ i, i < n → ∃ x, P i x), ∃ xs : List α, xs.length = n ∧ ∀ i (hi : i < xs.length), P i xs[i]
  | 0, _ => ⟨[], rfl, fun i hi => absurd hi (by simp)⟩
  | n + 1, h => by
    obtain ⟨xs, hl, hx⟩ := each_of (n := n) (fun i hi => h i (by omega))
    obtain ⟨x, hp⟩ := h n (by omega)
    refine ⟨xs ++ [x], by simp [hl], fun i hi => ?_⟩
    by_cases hi' : i < xs.length
    · rw [List.getElem_append_left hi']; exact hx i hi'
    · have : i = n := by simp at hi; omega
      subst this
      rw [List.getElem_append_right (by omega)]
      simpa [hl] using hp
theorem flat_get {α : Type} (f : α → List Value) (k : Nat) (hf : ∀ x, (f x).length = k) : ∀ (xs : List α) (i j : Nat) (hi : i < xs.length), j < k → (xs.flatMap f)[i * k + j]? = (f xs[i])[j]?
  | [], i, _, hi, _ => absurd hi (by simp)
  | x :: xs, 0, j, _, hj => by
    rw [List.flatMap_cons, Nat.zero_mul, Nat.zero_add, List.getElem?_append_left (by rw [hf]; exact hj)]
    rfl
  | x :: xs, i + 1, j, hi, hj => by
    have e : (i + 1) * k + j = k + (i * k + j) := by rw [Nat.succ_mul]; omega
    rw [List.flatMap_cons, e, List.getElem?_append_right (by rw [hf]; omega), hf, Nat.add_sub_cancel_left, flat_get f k hf xs i j (by simpa using hi) hj]
    rfl
theorem flat_length {α : Type} (f : α → List Value) (k : Nat) (hf : ∀ x, (f x).length = k) : ∀ xs : List α, (xs.flatMap f).length = xs.length * k
  | [] => by simp
  | x :: xs => by rw [List.flatMap_cons, List.length_append, hf, flat_length f k hf xs, List.length_cons, Nat.succ_mul]; omega

section
variable {H : Type} {enc : TypeId × Value → H} {w : World} {base : Nat} {spare : Nat → Bool} {held : Bool}

theorem cells_rows {α : Type} (f : α → List Value) (k : Nat) (hk : 0 < k) (hf : ∀ x, (f x).length = k) (a : Addr) (xs : List α) (h : ∀ i (hi : i < xs.length), w.cells? base (a.add (i * k)) k = some (f xs[i])) :
    Cells w w.heap.size (some a) (xs.flatMap f) := by
  refine cells_of (fun j hj => ?_)
  rw [flat_length f k hf] at hj
  have hi : j / k < xs.length := (Nat.div_lt_iff_lt_mul hk).2 hj
  have hjk : j % k < k := Nat.mod_lt _ hk
  obtain ⟨_, _, h1⟩ := World.cells?_some (h _ hi)
  have h2 := h1 (j % k) hjk
  have hdm : j / k * k + j % k = j := by rw [Nat.mul_comm]; exact Nat.div_add_mod j k
  have ha : a = ⟨a.block, a.off, none⟩ := by
    obtain ⟨_, _, z1⟩ := World.cells?_some (h 0 (Nat.lt_of_le_of_lt (Nat.zero_le _) hi))
    have hz : 0 < (f (xs[0]'(Nat.lt_of_le_of_lt (Nat.zero_le _) hi))).length := by rw [hf]; exact hk
    have z2 := addr_of_cell ((z1 0 hk).trans (List.getElem?_eq_getElem hz))
    simpa [Addr.add] using z2
  have e0 : (a.add (j / k * k)).add (j % k) = a.add j := by
    rw [ha]
    simp only [Addr.add_lit]
    rw [Nat.add_assoc, hdm]
  rw [e0] at h2
  rw [h2, ← flat_get f k hf xs (j / k) (j % k) hi hjk, hdm, List.getElem?_eq_getElem (by rw [flat_length f k hf]; exact hj)]

def wayV (r : WayD) : List Value := [.int .i64 r.kind, .int .i64 r.x, .int .i64 r.y, .int .i64 r.take]
theorem wayV_flat (ws : List WayD) : ws.flatMap wayV = ints (flatW ws) := by
  induction ws with
  | nil => rfl
  | cons x ws ih => rw [List.flatMap_cons, ih]; simp [flatW, ints, wayV]
set_option maxRecDepth 100000 in
theorem trod_way {fuel : Nat} {cs : List Value} {x : DataW H × List MemPlace} (h : DataW.trod enc Try.prog w base spare held fuel 66 cs = some x) : ∃ r : WayD, cs = wayV r := by
  obtain ⟨xs, n, _, hx, hlen, hxl, hg⟩ := DataW.trod_struct Try.underlying66 h
  have c6 : Try.prog.cellsOf 66 = 4 := by kernel_rfl
  have ci : Try.prog.cellsOf 3 = 1 := by kernel_rfl
  rw [c6] at hlen
  match cs, hlen with
  | [e0, e1, e2, e3], _ =>
    match xs, hxl with
    | [y0, y1, y2, y3], _ =>
      have g0 : DataW.trod enc Try.prog w base spare held n 3 (([e0, e1, e2, e3].drop 0).take (Try.prog.cellsOf 3)) = [y0, y1, y2, y3][0]? := hg 0 _ rfl
      have g1 : DataW.trod enc Try.prog w base spare held n 3 (([e0, e1, e2, e3].drop 1).take (Try.prog.cellsOf 3)) = [y0, y1, y2, y3][1]? := hg 1 _ rfl
      have g2 : DataW.trod enc Try.prog w base spare held n 3 (([e0, e1, e2, e3].drop 2).take (Try.prog.cellsOf 3)) = [y0, y1, y2, y3][2]? := hg 2 _ rfl
      have g3 : DataW.trod enc Try.prog w base spare held n 3 (([e0, e1, e2, e3].drop 3).take (Try.prog.cellsOf 3)) = [y0, y1, y2, y3][3]? := hg 3 _ rfl
      simp only [ci, List.drop_zero, List.drop_succ_cons, List.take_succ_cons, List.take_zero, List.getElem?_cons_zero, List.getElem?_cons_succ] at g0 g1 g2 g3
      obtain ⟨a, ha, _, _⟩ := DataW.trod_int Try.underlying3 g0
      obtain ⟨b, hb, _, _⟩ := DataW.trod_int Try.underlying3 g1
      obtain ⟨c, hc, _, _⟩ := DataW.trod_int Try.underlying3 g2
      obtain ⟨d, hd, _, _⟩ := DataW.trod_int Try.underlying3 g3
      simp only [List.cons.injEq, and_true] at ha hb hc hd
      exact ⟨⟨a, b, c, d⟩, by rw [ha, hb, hc, hd]; rfl⟩
theorem trod_ways {fuel : Nat} {cs : List Value} {x : DataW H × List MemPlace} (h : DataW.trod enc Try.prog w base spare held fuel 67 cs = some x) :
    ∃ A c ws, cs = [.slice A ws.length c] ∧ ws.length ≤ c ∧ c ≤ maxLen ∧ WaysAt w w.heap.size A ws := by
  have c4 : Try.prog.cellsOf 66 = 4 := by kernel_rfl
  rcases DataW.trod_slice Try.underlying67 h with ⟨hcs, _⟩ | ⟨a, len, cap, elems, rest, n, _, hcs, _, _, hl, hm, he, hg, _⟩
  · exact ⟨none, 0, [], hcs, by simp, by simp [maxLen], Cells.nil_⟩
  · rw [c4] at hg
    have hall : ∀ i, i < len → ∃ r : WayD, w.cells? base (a.add (i * 4)) 4 = some (wayV r) := fun i hi => by
      have h1 := hg i hi
      rw [List.getElem?_eq_getElem (by omega)] at h1
      obtain ⟨cs, q1, q2⟩ := Option.bind_eq_some_iff.1 h1
      obtain ⟨r, rfl⟩ := trod_way q2
      exact ⟨r, q1⟩
    obtain ⟨ws, hlen, hws⟩ := each_of hall
    subst hlen
    refine ⟨some a, cap, ws, hcs, hl, hm, ?_⟩
    have := cells_rows wayV 4 (by decide) (fun _ => rfl) a ws hws
    rw [wayV_flat] at this
    exact this
/-- a piece, with where its ways lie -/
def pieceV (z : PieceD × (Option Addr × Nat)) : List Value := [.int .u8 z.1.letter, .int .i64 z.1.worth, .slice z.2.1 z.1.ways.length z.2.2]
theorem pieceV_flat : ∀ zs : List (PieceD × (Option Addr × Nat)), zs.flatMap pieceV = cellsP (zs.map (·.1)) (zs.map (·.2))
  | [] => rfl
  | z :: zs => by rw [List.flatMap_cons, pieceV_flat zs]; rfl
set_option maxRecDepth 100000 in
theorem trod_piece {fuel : Nat} {cs : List Value} {x : DataW H × List MemPlace} (h : DataW.trod enc Try.prog w base spare held fuel 69 cs = some x) :
    ∃ z : PieceD × (Option Addr × Nat), cs = pieceV z ∧ z.1.ways.length ≤ z.2.2 ∧ z.2.2 ≤ maxLen ∧ WaysAt w w.heap.size z.2.1 z.1.ways := by
  obtain ⟨xs, n, _, hx, hlen, hxl, hg⟩ := DataW.trod_struct Try.underlying69 h
  have c6 : Try.prog.cellsOf 69 = 3 := by kernel_rfl
  have ci : Try.prog.cellsOf 3 = 1 := by kernel_rfl
  have cu : Try.prog.cellsOf 5 = 1 := by kernel_rfl
  have cs1 : Try.prog.cellsOf 67 = 1 := by kernel_rfl
  rw [c6] at hlen
  match cs, hlen with
  | [e0, e1, e2], _ =>
    match xs, hxl with
    | [y0, y1, y2], _ =>
      have g0 : DataW.trod enc Try.prog w base spare held n 5 (([e0, e1, e2].drop 0).take (Try.prog.cellsOf 5)) = [y0, y1, y2][0]? := hg 0 _ rfl
      have g1 : DataW.trod enc Try.prog w base spare held n 3 (([e0, e1, e2].drop 1).take (Try.prog.cellsOf 3)) = [y0, y1, y2][1]? := hg 1 _ rfl
      have g2 : DataW.trod enc Try.prog w base spare held n 67 (([e0, e1, e2].drop 2).take (Try.prog.cellsOf 67)) = [y0, y1, y2][2]? := hg 2 _ rfl
      simp only [ci, cu, cs1, List.drop_zero, List.drop_succ_cons, List.take_succ_cons, List.take_zero, List.getElem?_cons_zero, List.getElem?_cons_succ] at g0 g1 g2
      obtain ⟨a, ha, _, wa⟩ := DataW.trod_int Try.underlying5 g0
      obtain ⟨b, hb, _, _⟩ := DataW.trod_int Try.underlying3 g1
      obtain ⟨A, c, ws, hc, hl, hm, hw⟩ := trod_ways g2
      simp only [List.cons.injEq, and_true] at ha hb hc
      have m1 : IntKind.u8.min = 0 := rfl
      have m2 : IntKind.u8.max = 255 := rfl
      simp [Lit.wf, m1, m2] at wa
      refine ⟨(⟨a.toNat, b, ws⟩, (A, c)), ?_, hl, hm, hw⟩
      rw [ha, hb, hc]
      simp only [pieceV]
      rw [show ((a.toNat : Nat) : Int) = a by omega]
theorem trod_pieces {fuel : Nat} {cs : List Value} {x : DataW H × List MemPlace} (h : DataW.trod enc Try.prog w base spare held fuel 25 cs = some x) :
    ∃ A c ps, cs = [.slice A ps.length c] ∧ ps.length ≤ maxLen ∧ (∀ k (h : k < ps.length), ps[k].ways.length ≤ maxLen) ∧ PiecesAt w w.heap.size A ps := by
  have c3 : Try.prog.cellsOf 69 = 3 := by kernel_rfl
  rcases DataW.trod_slice Try.underlying25 h with ⟨hcs, _⟩ | ⟨a, len, cap, elems, rest, n, _, hcs, _, _, hl, hm, he, hg, _⟩
  · exact ⟨none, 0, [], hcs, by simp [maxLen], fun k h => by simp at h, [], rfl, Cells.nil_, fun k h => by simp at h⟩
  · rw [c3] at hg
    have hall : ∀ i, i < len → ∃ z : PieceD × (Option Addr × Nat), w.cells? base (a.add (i * 3)) 3 = some (pieceV z) ∧ z.1.ways.length ≤ z.2.2 ∧ z.2.2 ≤ maxLen ∧ WaysAt w w.heap.size z.2.1 z.1.ways := fun i hi => by
      have h1 := hg i hi
      rw [List.getElem?_eq_getElem (by omega)] at h1
      obtain ⟨cs, q1, q2⟩ := Option.bind_eq_some_iff.1 h1
      obtain ⟨z, rfl, q3⟩ := trod_piece q2
      exact ⟨z, q1, q3⟩
    obtain ⟨zs, hlen, hzs⟩ := each_of hall
    subst hlen
    refine ⟨some a, cap, zs.map (·.1), by rw [List.length_map]; exact hcs, by rw [List.length_map]; omega, fun k hk => ?_, zs.map (·.2), by simp, ?_, fun k hk => ?_⟩
    · rw [List.length_map] at hk
      rw [List.getElem_map]
      have := hzs k hk
      omega
    · have := cells_rows pieceV 3 (by decide) (fun _ => rfl) a zs (fun i hi => (hzs i hi).1)
      rw [pieceV_flat] at this
      exact this
    · rw [List.length_map] at hk
      rw [List.getElem_map, List.getElem_map]
      exact ⟨(hzs k hk).2.1, (hzs k hk).2.2.2⟩
set_option maxRecDepth 100000 in
theorem trod_rules {fuel : Nat} {cs : List Value} {x : DataW H × List MemPlace} (h : DataW.trod enc Try.prog w base spare held fuel 27 cs = some x) :
    ∃ (r : RulesD) (A : Option Addr) (cp : Nat), cs.toArray = #[.int .i64 r.start.w, .int .i64 r.start.h, .string r.start.cells, .int .i64 r.start.turn, .string r.start.h0, .string r.start.h1, .slice A r.pieces.length cp, .bool r.drops, .int .u8 r.lose, .int .i64 r.line, .int .u8 r.reach, .bool r.stuck, .int .i64 r.plies] ∧ RFit r ∧ PiecesAt w w.heap.size A r.pieces := by
  obtain ⟨xs, n, _, hx, hlen, hxl, hg⟩ := DataW.trod_struct Try.underlying27 h
  have c13 : Try.prog.cellsOf 27 = 13 := by kernel_rfl
  have c6 : Try.prog.cellsOf 24 = 6 := by kernel_rfl
  have ci : Try.prog.cellsOf 3 = 1 := by kernel_rfl
  have cu : Try.prog.cellsOf 5 = 1 := by kernel_rfl
  have cb : Try.prog.cellsOf 4 = 1 := by kernel_rfl
  have cs1 : Try.prog.cellsOf 25 = 1 := by kernel_rfl
  rw [c13] at hlen
  match cs, hlen with
  | [e0, e1, e2, e3, e4, e5, e6, e7, e8, e9, e10, e11, e12], _ =>
    match xs, hxl with
    | [y0, y1, y2, y3, y4, y5, y6, y7], _ =>
      have g0 : DataW.trod enc Try.prog w base spare held n 24 (([e0, e1, e2, e3, e4, e5, e6, e7, e8, e9, e10, e11, e12].drop 0).take (Try.prog.cellsOf 24)) = [y0, y1, y2, y3, y4, y5, y6, y7][0]? := hg 0 _ rfl
      have g1 : DataW.trod enc Try.prog w base spare held n 25 (([e0, e1, e2, e3, e4, e5, e6, e7, e8, e9, e10, e11, e12].drop 6).take (Try.prog.cellsOf 25)) = [y0, y1, y2, y3, y4, y5, y6, y7][1]? := hg 1 _ rfl
      have g2 : DataW.trod enc Try.prog w base spare held n 4 (([e0, e1, e2, e3, e4, e5, e6, e7, e8, e9, e10, e11, e12].drop 7).take (Try.prog.cellsOf 4)) = [y0, y1, y2, y3, y4, y5, y6, y7][2]? := hg 2 _ rfl
      have g3 : DataW.trod enc Try.prog w base spare held n 5 (([e0, e1, e2, e3, e4, e5, e6, e7, e8, e9, e10, e11, e12].drop 8).take (Try.prog.cellsOf 5)) = [y0, y1, y2, y3, y4, y5, y6, y7][3]? := hg 3 _ rfl
      have g4 : DataW.trod enc Try.prog w base spare held n 3 (([e0, e1, e2, e3, e4, e5, e6, e7, e8, e9, e10, e11, e12].drop 9).take (Try.prog.cellsOf 3)) = [y0, y1, y2, y3, y4, y5, y6, y7][4]? := hg 4 _ rfl
      have g5 : DataW.trod enc Try.prog w base spare held n 5 (([e0, e1, e2, e3, e4, e5, e6, e7, e8, e9, e10, e11, e12].drop 10).take (Try.prog.cellsOf 5)) = [y0, y1, y2, y3, y4, y5, y6, y7][5]? := hg 5 _ rfl
      have g6 : DataW.trod enc Try.prog w base spare held n 4 (([e0, e1, e2, e3, e4, e5, e6, e7, e8, e9, e10, e11, e12].drop 11).take (Try.prog.cellsOf 4)) = [y0, y1, y2, y3, y4, y5, y6, y7][6]? := hg 6 _ rfl
      have g7 : DataW.trod enc Try.prog w base spare held n 3 (([e0, e1, e2, e3, e4, e5, e6, e7, e8, e9, e10, e11, e12].drop 12).take (Try.prog.cellsOf 3)) = [y0, y1, y2, y3, y4, y5, y6, y7][7]? := hg 7 _ rfl
      simp only [c6, ci, cu, cb, cs1, List.drop_zero, List.drop_succ_cons, List.take_succ_cons, List.take_zero, List.getElem?_cons_zero, List.getElem?_cons_succ] at g0 g1 g2 g3 g4 g5 g6 g7
      obtain ⟨a, b, c, t, h0, h1, ha, _, hc, hh0, hh1, _⟩ := trod_pos g0
      obtain ⟨A, cp, ps, hp, hpl, hpw, hpa⟩ := trod_pieces g1
      obtain ⟨dr, hdr, _⟩ := DataW.trod_bool Try.underlying4 g2
      obtain ⟨lo, hlo, _, wlo⟩ := DataW.trod_int Try.underlying5 g3
      obtain ⟨li, hli, _, _⟩ := DataW.trod_int Try.underlying3 g4
      obtain ⟨re, hre, _, wre⟩ := DataW.trod_int Try.underlying5 g5
      obtain ⟨st, hst, _⟩ := DataW.trod_bool Try.underlying4 g6
      obtain ⟨pl, hpl2, _, _⟩ := DataW.trod_int Try.underlying3 g7
      simp only [List.cons.injEq, and_true] at ha hp hdr hlo hli hre hst hpl2
      obtain ⟨a0, a1, a2, a3, a4, a5⟩ := ha
      have m1 : IntKind.u8.min = 0 := rfl
      have m2 : IntKind.u8.max = 255 := rfl
      simp [Lit.wf, m1, m2] at wlo wre
      have m3 : maxLen = 9223372036854775807 := rfl
      refine ⟨⟨⟨a, b, c, t, h0, h1⟩, ps, dr, lo.toNat, li, re.toNat, st, pl⟩, A, cp, ?_, ⟨hc, hh0, hh1, by rw [← m3]; exact hpl, fun k h => by rw [← m3]; exact hpw k h⟩, hpa⟩
      rw [a0, a1, a2, a3, a4, a5, hp, hdr, hlo, hli, hre, hst, hpl2]
      simp only
      rw [show ((lo.toNat : Nat) : Int) = lo by omega, show ((re.toNat : Nat) : Int) = re by omega]
set_option maxRecDepth 100000 in
theorem open_rules {r0 : Reach} {b0 : Nat} {v : Value} {d : DataW H} {p : List MemPlace} (hv : Value.okWide Try.prog w r0 b0 27 v) (h : DataW.Trod enc Try.prog w base spare held 27 v d p) :
    ∃ (r : RulesD) (A : Option Addr) (cp : Nat), v = .agg #[.int .i64 r.start.w, .int .i64 r.start.h, .string r.start.cells, .int .i64 r.start.turn, .string r.start.h0, .string r.start.h1, .slice A r.pieces.length cp, .bool r.drops, .int .u8 r.lose, .int .i64 r.line, .int .u8 r.reach, .bool r.stuck, .int .i64 r.plies] ∧ RFit r ∧ PiecesAt w w.heap.size A r.pieces := by
  obtain ⟨cs, rfl, hsz⟩ := okWide_struct Try.underlying27 hv
  obtain ⟨fuel, hf⟩ := h
  obtain ⟨r, A, cp, hcs, h1, h2⟩ := trod_rules hf
  obtain ⟨l⟩ := cs
  refine ⟨r, A, cp, ?_, h1, h2⟩
  exact congrArg Value.agg hcs
set_option maxRecDepth 100000 in
theorem open_move {r0 : Reach} {b0 : Nat} {v : Value} {d : DataW H} {p : List MemPlace} (hv : Value.okWide Try.prog w r0 b0 39 v) (h : DataW.Trod enc Try.prog w base spare held 39 v d p) :
    ∃ (f t : Int) (c : Nat), v = .agg #[.int .i64 f, .int .i64 t, .int .u8 c] := by
  obtain ⟨cs, rfl, hsz⟩ := okWide_struct Try.underlying39 hv
  obtain ⟨fuel, hf⟩ := h
  obtain ⟨xs, n, _, hx, hlen, hxl, hg⟩ := DataW.trod_struct Try.underlying39 hf
  have c6 : Try.prog.cellsOf 39 = 3 := by kernel_rfl
  have ci : Try.prog.cellsOf 3 = 1 := by kernel_rfl
  have cu : Try.prog.cellsOf 5 = 1 := by kernel_rfl
  obtain ⟨l⟩ := cs
  rw [c6] at hlen
  have hl3 : l.length = 3 := by simpa [Value.cells] using hlen
  match l, hl3 with
  | [e0, e1, e2], _ =>
    match xs, hxl with
    | [y0, y1, y2], _ =>
      have g0 : DataW.trod enc Try.prog w base spare held n 3 (([e0, e1, e2].drop 0).take (Try.prog.cellsOf 3)) = [y0, y1, y2][0]? := hg 0 _ rfl
      have g1 : DataW.trod enc Try.prog w base spare held n 3 (([e0, e1, e2].drop 1).take (Try.prog.cellsOf 3)) = [y0, y1, y2][1]? := hg 1 _ rfl
      have g2 : DataW.trod enc Try.prog w base spare held n 5 (([e0, e1, e2].drop 2).take (Try.prog.cellsOf 5)) = [y0, y1, y2][2]? := hg 2 _ rfl
      simp only [ci, cu, List.drop_zero, List.drop_succ_cons, List.take_succ_cons, List.take_zero, List.getElem?_cons_zero, List.getElem?_cons_succ] at g0 g1 g2
      obtain ⟨a, ha, _, _⟩ := DataW.trod_int Try.underlying3 g0
      obtain ⟨b, hb, _, _⟩ := DataW.trod_int Try.underlying3 g1
      obtain ⟨c, hc, _, wc⟩ := DataW.trod_int Try.underlying5 g2
      simp only [List.cons.injEq, and_true] at ha hb hc
      have m1 : IntKind.u8.min = 0 := rfl
      have m2 : IntKind.u8.max = 255 := rfl
      simp [Lit.wf, m1, m2] at wc
      refine ⟨a, b, c.toNat, ?_⟩
      rw [ha, hb, hc, show ((c.toNat : Nat) : Int) = c by omega]
end
end Go.Proofs.Ytdfegpohmaideaa
/- What every law's proof ends with: where a call answers true and leaves all that was there as it was, the row's post-condition holds. -/
namespace Go.Proofs.Ytdfegpohmaideaa
open Go.RowKit Go.WideShapes Go.ChangeShapes
theorem trodAll_stays {H : Type} {enc : TypeId × Value → H} {P : Program} (hl : laidOutB P = true) {W W' : World} (hb : Below W.heap.size W W') {sp' : Nat → Bool} :
    ∀ (ts : List TypeId) (vs : List Value) (ds : List (DataW H)) (ps : List MemPlace), (∀ t ∈ ts, P.readableRec t = true ∧ t < P.types.size) →
      (∀ p ∈ ps, p.block < W.heap.size) → (∀ p ∈ ps, sp' p.block = true) →
      DataW.TrodAll enc P W 0 (fun _ => true) true ts vs ds ps → DataW.TrodAll enc P W' 0 sp' true ts vs ds ps
  | [], [], [], _, _, _, _, h => h
  | t :: ts, v :: vs, d :: ds, ps, hr, hlt, hs, h => by
    obtain ⟨p, q, h1, h2, rfl⟩ := h
    refine ⟨p, q, WideElems.Trod_stays hl (hr t (by simp)).1 (hr t (by simp)).2 h1 (fun x hx => hb.same (hlt x (by simp [hx]))) (fun x hx => hs x (by simp [hx])), ?_, rfl⟩
    exact trodAll_stays hl hb ts vs ds q (fun t ht => hr t (by simp [ht])) (fun x hx => hlt x (by simp [hx])) (fun x hx => hs x (by simp [hx])) h2
  | [], _ :: _, _, _, _, _, _, h => h.elim
  | [], [], _ :: _, _, _, _, _, h => h.elim
  | _ :: _, [], _, _, _, _, _, h => h.elim
  | _ :: _, _ :: _, [], _, _, _, _, h => h.elim

theorem law_post {H : Type} {enc : TypeId × Value → H} {P : Program} {f : Func} {s : ChangeSpec} {W W' : World} {args : Array Value} {ds : List (DataW H)} {before : List MemPlace} {tb : TypeId}
    (hl : laidOutB P = true) (hread0 : (f.params.toList.all fun t => P.readableRec t && decide (t < P.types.size)) = true)
    (hW : DataW.Whole enc P f.params.toList s.vars false W args.toList ds [] before)
    (hvars : s.vars = []) (hrt : f.resultTypes = #[tb]) (ht : P.underlying tb = some .bool)
    (hres : (s.fn H (ds ++ [])).results = [.lit (.bool true)]) (hargs : (s.fn H (ds ++ [])).args = ds) (hvs : (s.fn H (ds ++ [])).vars = [])
    (hb : Below W.heap.size W W') :
    s.post enc P f false true false false W args (.bool true) W' := by
  have hread : ∀ t ∈ f.params.toList, P.readableRec t = true ∧ t < P.types.size := fun t ht => by
    have := List.all_eq_true.1 hread0 t ht
    simpa using this
  have hlt : ∀ p ∈ before, p.block < W.heap.size := fun p hp => hW.lt p hp
  obtain ⟨p, q, hA, hV, hpq, hz, hn⟩ := id hW
  rw [hvars] at hV
  obtain ⟨_, rfl⟩ := trodVars_none hV
  have hp : p = before := by rw [hpq]; simp
  rw [hp] at hA
  have args' : ∀ sp : Nat → Bool, (∀ x ∈ before, sp x.block = true) → DataW.TrodAll enc P W' 0 sp true f.params.toList args.toList (s.fn H (ds ++ [])).args before := fun sp hsp => by
    rw [hargs]; exact trodAll_stays hl hb _ _ _ _ hread hlt hsp hA
  have res' : ∀ (b : Nat) (sp : Nat → Bool) (hd : Bool), DataW.TrodAll enc P W' b sp hd f.resultTypes.toList ((Value.bool true).resultList f.resultTypes.size) (s.fn H (ds ++ [])).results [] := fun _ _ _ => by
    rw [hres, hrt]; exact trodAll_mk1 (shut_bool ht _)
  have vars' : ∀ sp : Nat → Bool, DataW.TrodVars enc P W' sp s.vars (s.fn H (ds ++ [])).vars [] := fun sp => by rw [hvs, hvars]; rfl
  refine ⟨ds, [], before, [], before, [], hW, res' _ _ _, args' _ (fun x hx => by simpa using hlt x hx), vars' _, ?_, fun _ => ?_⟩
  · exact World.keptBut_mono (fun x hx => ⟨hx, .inr (.inl hx)⟩) (hb.frame (· ∈ before))
  · refine ⟨ok_one hrt rfl (okWide_bool_mk ht _), (s.fn H (ds ++ [])).results ++ (s.fn H (ds ++ [])).args, (s.fn H (ds ++ [])).vars, ([] ++ before) ++ [], ⟨[] ++ before, [], ?_, vars' (fun _ => true), rfl, ?_, fun h => by cases h⟩, ?_⟩
    · exact trodAll_append (args' (fun _ => true) (fun _ _ => rfl)) (res' 0 (fun _ => true) true)
    · intro b off hin
      have hin' : MemPlace.cell b off ∈ before := by simpa using hin
      rw [hb.frozen (hlt _ hin')]
      exact hz b off hin'
    · intro x hx _
      simpa using hx
end Go.Proofs.Ytdfegpohmaideaa
/- gamekeep.MovesBack answers true and leaves what was there as it was, for all rules and every position. No condition. -/
namespace Go.Proofs.Ytdfegpohmaideaa
open Go.ChangeShapes Go.WideShapes Go.ChangeAt Go.RowKit Go.ChangeMaps

theorem own_movesBack : ownKnob Try.prog.godebug = none := by kernel_rfl
theorem laidOut_movesBack : laidOutB Try.prog = true := by kernel_rfl

set_option maxRecDepth 100000 in
theorem movesBack_lifted (os : Os) (started : os.Started) (H : Type) (enc : TypeId × Value → H) :
    ReturnsInHanded {} Try.checked os 4 .any (Rows.movesBackSpec.pre6 enc Try.prog Try.f4 Rows.movesBackRow.domain false) (Rows.movesBackSpec.post enc Try.prog Try.f4 false true false false) := by
  refine returnsInHanded_of_change (C := Try.checked) own_movesBack started (by kernel_rfl) Try.func4
    (ChangeSpec.witness6 (enc := enc) (C := Try.checked) false ⟨#[], #[.agg #[.int .i64 0, .int .i64 0, .string ByteArray.empty, .int .i64 0, .string ByteArray.empty, .string ByteArray.empty, .slice none 0 0, .bool false, .int .u8 0, .int .i64 0, .int .u8 0, .bool false, .int .i64 0], .agg #[.int .i64 0, .int .i64 0, .string ByteArray.empty, .int .i64 0, .string ByteArray.empty, .string ByteArray.empty]], []⟩ 8 (by kernel_rfl) (by kernel_rfl) (by kernel_rfl) (by kernel_rfl)) ?_
  intro W base args ds gs before hval0 hW hcnd _
  have hval : ∀ (j : Nat) t v, Try.f4.params[j]? = some t → args[j]? = some v → Value.okWide Try.prog W .any base t v := hval0
  obtain ⟨p, q, hA0, hV, hpq, hfz, hnd⟩ := id hW
  have hA : DataW.TrodAll enc Try.prog W 0 (fun _ => true) true Try.f4.params.toList args.toList ds p := hA0
  obtain ⟨rfl, -⟩ := trodVars_none hV
  rw [Try.params4] at hA hval
  obtain ⟨v0, v1, d0, d1, p0, p1, rfl, rfl, rfl, h0, h1⟩ := trodAll_two hA
  obtain ⟨r, Ar, cr, rfl, hfr, hPr⟩ := open_rules (hval 0 27 v0 rfl rfl) h0
  obtain ⟨wp, hp, cp, tp, z0p, z1p, rfl, rfl, hcp, hyp, hzp, -, -, -⟩ := open_pos (hval 1 24 v1 rfl rfl) h1
  refine (mb_any r Ar cr ⟨wp, hp, cp, tp, z0p, z1p⟩ W hfr ⟨hcp, hyp, hzp⟩ hPr).mono fun e W' ⟨he, hg⟩ => ?_
  subst he
  exact ⟨_, rfl, law_post laidOut_movesBack (by kernel_rfl) hW rfl rfl Try.underlying4 rfl rfl rfl hg⟩

theorem movesBack_holds : Rows.MovesBackSaid :=
  OpenClaim.holds_of_wide 4 Try.f4 rfl rfl rfl rfl rfl rfl rfl ⟨rfl, rfl, rfl, rfl, rfl⟩ rfl rfl rfl rfl rfl (by kernel_rfl) Try.func4 (by kernel_rfl)
    (of_decide_eq_true (by kernel_rfl)) (by unfold Func.isWrapper; first | (rw [if_pos (by decide +kernel)]; kernel_rfl) | (rw [if_neg (by decide +kernel)]; exact ⟨rfl, rfl⟩))
    (fun os started H enc _ => movesBack_lifted os started H enc)
#print axioms movesBack_holds
end Go.Proofs.Ytdfegpohmaideaa
