/- gamekeep.MovesMirror answers true and leaves what was there as it was, for all rules and every position. No condition. -/
import Derived.Test.YtdfegpohmaideaaMmBase
import Derived.Test.YtdfegpohmaideaaMmSym
import Derived.Test.YtdfegpohmaideaaMgTop
import Derived.BigRegion
import Derived.Deep.RegionHeld
import Derived.Deep.CutRange
import Derived.Test.YtdfegpohmaideaaBase
import Derived.Deep.Matrix
import Derived.ProofKit
import Derived.Test.YtdfegpohmaideaaRows
import Derived.OpenShut
import Derived.ChangeMaps5
import Derived.Test.YtdfegpohmaideaaRuCheck
import Derived.ChangeArms
import Derived.Below
import Derived.ChangeSame
import Derived.WalkKit
/- The rules of a small game, plainly. -/
namespace Go.Proofs.Ytdfegpohmaideaa
open Go.RowKit

def kingsP : Pos := ⟨3, 1, ⟨#[75, 46, 107]⟩, 0, ⟨#[]⟩, ⟨#[]⟩⟩
def kingsW : WayD := ⟨1, 0, 1, 0⟩
def kingsR : RulesD := ⟨kingsP, [⟨75, 0, [kingsW]⟩], false, 75, 0, 0, false, 9⟩
theorem handB_nil : handB ⟨#[]⟩ = true := handB_true.2 ⟨by decide, fun k h => absurd h (by simp), fun k h => absurd h (by simp)⟩
theorem kings_pos : PosOk kingsP := by
  refine ⟨by decide, by decide, by decide, by decide, by decide, by decide, by decide, handB_nil, handB_nil, ?_⟩
  unfold CellsOk
  decide
theorem kings_fits : FitsL kingsR.pieces kingsP.all := by
  unfold FitsL
  decide
theorem kings_piece : PieceOk kingsR.pieces 0 ⟨75, 0, [kingsW]⟩ := by
  refine ⟨by decide, by decide, by decide, by decide, by decide, fun k hk => ?_⟩
  have : k = 0 := by simpa using hk
  subst this
  exact (by decide : WayOk kingsW)
theorem kings_rules : RulesOk kingsR := by
  refine ⟨kings_pos, by decide, by decide, by decide, by decide, by decide, fun i hi => ?_, Or.inr ⟨by decide, by decide⟩, Or.inl rfl, kings_fits⟩
  have : i = 0 := by simp [kingsR] at hi; exact hi
  subst this
  exact kings_piece
theorem kings_ok : OfOk kingsR kingsP := ⟨kings_rules, kings_pos, rfl, rfl, kings_fits⟩
theorem kings_all : allL kingsR kingsP = [⟨0, 1, 75⟩, ⟨0, 1, 75⟩] := by kernel_rfl
theorem kings_every : everyL kingsR kingsP = [⟨0, 1, 75⟩] := by
  refine (moves_sorted kings_pos (fun x hx w hw => ?_) (by simp) (fun x => ?_)).symm
  · have : x = ⟨75, 0, [kingsW]⟩ := by simpa [kingsR] using hx
    rw [this] at hw
    have : w = kingsW := by simpa using hw
    rw [this]; decide
  · rw [kings_all]; simp
theorem kings_ends : endsN kingsR kingsP = 0 := by
  unfold endsN
  have h1 : lacksB kingsR kingsP kingsP.turn = false := by rfl
  have h2 : lacksB kingsR kingsP (1 - kingsP.turn) = false := by rfl
  have h3 : ∀ pl, lineB kingsR kingsP pl = false := fun pl => by simp [lineB, kingsR]
  have h4 : ∀ pl, reachB kingsR kingsP pl = false := fun pl => by simp [reachB, kingsR]
  rw [h1, h2, h3, h3, h4, h4, kings_every]
  rfl
theorem kings_moves : movesL kingsR kingsP = [⟨0, 1, 75⟩] := by unfold movesL; rw [if_pos kings_ends, kings_every]
theorem kings_count : countA kingsR kingsP 1 = (1, 0) := by
  have h1 : waysN kingsR 1 kingsP = 1 := by rw [waysN_one, kings_moves]; rfl
  rw [countA_ok (fun j hj => by
    rcases (by omega : j = 0 ∨ j = 1) with rfl | rfl
    · rw [waysN_zero]; omega
    · rw [h1]; omega), h1]
end Go.Proofs.Ytdfegpohmaideaa
/- gamekeep.kings, gamekeep.movable -/
namespace Go.Proofs.Ytdfegpohmaideaa
open Go.RowKit

def KingsOut (W : World) (e : Ending) (w' : World) : Prop := ∃ A, e = .returned (.agg #[.int .i64 kingsR.start.w, .int .i64 kingsR.start.h, .string kingsR.start.cells, .int .i64 kingsR.start.turn, .string kingsR.start.h0, .string kingsR.start.h1, .slice A kingsR.pieces.length 1, .bool kingsR.drops, .int .u8 kingsR.lose, .int .i64 kingsR.line, .int .u8 kingsR.reach, .bool kingsR.stuck, .int .i64 kingsR.plies]) ∧ PiecesAt w' w'.heap.size A kingsR.pieces ∧ Later W w'
set_option maxHeartbeats 4000000 in
set_option maxRecDepth 100000 in
theorem kings_any (W : World) : Calls Try.prog 18 #[] W (KingsOut W) := by
  have Hl : Hid (Later W W) := Later.rfl
  go_enter Try.func18, Try.ntmps18
  go_wp2_with fail
  have hr := ((Blk.new W 27 #[.int .i64 3, .int .i64 1, .string ⟨#[75, 46, 107]⟩, .int .i64 0, .string ⟨#[]⟩, .string ⟨#[]⟩, .slice (some ⟨W.heap.size + 1 + 1, 0, none⟩) 1 1, .bool false, .int .u8 75, .int .i64 0, .int .u8 0, .bool false, .int .i64 9]).alloc (.cells #[.int .i64 1, .int .i64 0, .int .i64 1, .int .i64 0] 66)).alloc (.cells #[.int .u8 75, .int .i64 0, .slice (some ⟨W.heap.size + 1, 0, none⟩) 1 1] 69)
  have hw := (Blk.new (W.alloc (.cells #[.int .i64 3, .int .i64 1, .string ⟨#[75, 46, 107]⟩, .int .i64 0, .string ⟨#[]⟩, .string ⟨#[]⟩, .slice (some ⟨W.heap.size + 1 + 1, 0, none⟩) 1 1, .bool false, .int .u8 75, .int .i64 0, .int .u8 0, .bool false, .int .i64 9] 27)) 66 #[.int .i64 1, .int .i64 0, .int .i64 1, .int .i64 0]).alloc (.cells #[.int .u8 75, .int .i64 0, .slice (some ⟨W.heap.size + 1, 0, none⟩) 1 1] 69)
  have hp := Blk.new ((W.alloc (.cells #[.int .i64 3, .int .i64 1, .string ⟨#[75, 46, 107]⟩, .int .i64 0, .string ⟨#[]⟩, .string ⟨#[]⟩, .slice (some ⟨W.heap.size + 1 + 1, 0, none⟩) 1 1, .bool false, .int .u8 75, .int .i64 0, .int .u8 0, .bool false, .int .i64 9] 27)).alloc (.cells #[.int .i64 1, .int .i64 0, .int .i64 1, .int .i64 0] 66)) 69 #[.int .u8 75, .int .i64 0, .slice (some ⟨W.heap.size + 1, 0, none⟩) 1 1]
  rw [World.size_alloc] at hw hp
  rw [World.size_alloc] at hp
  have hL := ((Hl.out.alloc (.cells #[.int .i64 3, .int .i64 1, .string ⟨#[75, 46, 107]⟩, .int .i64 0, .string ⟨#[]⟩, .string ⟨#[]⟩, .slice (some ⟨W.heap.size + 1 + 1, 0, none⟩) 1 1, .bool false, .int .u8 75, .int .i64 0, .int .u8 0, .bool false, .int .i64 9] 27)).alloc (.cells #[.int .i64 1, .int .i64 0, .int .i64 1, .int .i64 0] 66)).alloc (.cells #[.int .u8 75, .int .i64 0, .slice (some ⟨W.heap.size + 1, 0, none⟩) 1 1] 69)
  obtain ⟨w3, hw3⟩ : ∃ w3, (((W.alloc (.cells #[.int .i64 3, .int .i64 1, .string ⟨#[75, 46, 107]⟩, .int .i64 0, .string ⟨#[]⟩, .string ⟨#[]⟩, .slice (some ⟨W.heap.size + 1 + 1, 0, none⟩) 1 1, .bool false, .int .u8 75, .int .i64 0, .int .u8 0, .bool false, .int .i64 9] 27)).alloc (.cells #[.int .i64 1, .int .i64 0, .int .i64 1, .int .i64 0] 66)).alloc (.cells #[.int .u8 75, .int .i64 0, .slice (some ⟨W.heap.size + 1, 0, none⟩) 1 1] 69)) = w3 := ⟨_, rfl⟩
  rw [hw3] at hr hw hp hL ⊢
  clear hw3
  have x0 : w3.cell? ⟨W.heap.size, 0, none⟩ = some (.int .i64 3) := hr.cellv rfl
  have x1 : w3.cell? ⟨W.heap.size, 1, none⟩ = some (.int .i64 1) := hr.cellv rfl
  have x2 : w3.cell? ⟨W.heap.size, 2, none⟩ = some (.string ⟨#[75, 46, 107]⟩) := hr.cellv rfl
  have x3 : w3.cell? ⟨W.heap.size, 3, none⟩ = some (.int .i64 0) := hr.cellv rfl
  have x4 : w3.cell? ⟨W.heap.size, 4, none⟩ = some (.string ⟨#[]⟩) := hr.cellv rfl
  have x5 : w3.cell? ⟨W.heap.size, 5, none⟩ = some (.string ⟨#[]⟩) := hr.cellv rfl
  have x6 : w3.cell? ⟨W.heap.size, 6, none⟩ = some (.slice (some ⟨W.heap.size + 1 + 1, 0, none⟩) 1 1) := hr.cellv rfl
  have x7 : w3.cell? ⟨W.heap.size, 7, none⟩ = some (.bool false) := hr.cellv rfl
  have x8 : w3.cell? ⟨W.heap.size, 8, none⟩ = some (.int .u8 75) := hr.cellv rfl
  have x9 : w3.cell? ⟨W.heap.size, 9, none⟩ = some (.int .i64 0) := hr.cellv rfl
  have x10 : w3.cell? ⟨W.heap.size, 10, none⟩ = some (.int .u8 0) := hr.cellv rfl
  have x11 : w3.cell? ⟨W.heap.size, 11, none⟩ = some (.bool false) := hr.cellv rfl
  have x12 : w3.cell? ⟨W.heap.size, 12, none⟩ = some (.int .i64 9) := hr.cellv rfl
  refine bodyPost_ret (v := .agg #[.int .i64 3, .int .i64 1, .string ⟨#[75, 46, 107]⟩, .int .i64 0, .string ⟨#[]⟩, .string ⟨#[]⟩, .slice (some ⟨W.heap.size + 1 + 1, 0, none⟩) 1 1, .bool false, .int .u8 75, .int .i64 0, .int .u8 0, .bool false, .int .i64 9]) (by simp [results, Try.results18, go_sem, x0, x1, x2, x3, x4, x5, x6, x7, x8, x9, x10, x11, x12]) rfl ⟨some ⟨W.heap.size + 1 + 1, 0, none⟩, rfl, ⟨[(some ⟨W.heap.size + 1, 0, none⟩, 1)], rfl, ?_, ?_⟩, hL⟩
  · intro _
    refine ⟨W.heap.size + 1 + 1, 0, rfl, hp.lt, fun j hj => ?_⟩
    have hj3 : j < 3 := hj
    rcases (by omega : j = 0 ∨ j = 1 ∨ j = 2) with rfl | rfl | rfl
    · exact hp.cellv (i := 0) rfl
    · exact hp.cellv (i := 1) rfl
    · exact hp.cellv (i := 2) rfl
  · intro k hk
    have hk0 : k = 0 := by simpa [kingsR] using hk
    subst hk0
    refine ⟨Nat.le_refl 1, fun _ => ⟨W.heap.size + 1, 0, rfl, hw.lt, fun j hj => ?_⟩⟩
    have hj4 : j < 4 := hj
    rcases (by omega : j = 0 ∨ j = 1 ∨ j = 2 ∨ j = 3) with rfl | rfl | rfl | rfl
    · exact hw.cellv (i := 0) rfl
    · exact hw.cellv (i := 1) rfl
    · exact hw.cellv (i := 2) rfl
    · exact hw.cellv (i := 3) rfl
set_option maxHeartbeats 4000000 in
set_option maxRecDepth 100000 in
theorem movable_any (W : World) : Calls Try.prog 5 #[] W fun e w' => e = .returned (.bool true) ∧ Later W w' := by
  have Hl : Hid (Later W W) := Later.rfl
  have HK := hide (fun w => kings_any w)
  have hf : RFit kingsR := ⟨by decide, by decide, by decide, by decide, fun k h => by
    have : k = 0 := by simpa [kingsR] using h
    subst this
    exact (by omega : (1 : Nat) ≤ 9223372036854775807)⟩
  have hg : PFit kingsR.start := ⟨by decide, by decide, by decide⟩
  have HM := hide (fun A w (hP : PiecesAt w w.heap.size A kingsR.pieces) => mm_ok kingsR A 1 kingsR.start w hf hg hP kings_ok)
  have HC := hide (fun A w (hP : PiecesAt w w.heap.size A kingsR.pieces) => count_ok (fun e w' => e = .returned (.tuple #[.int .i64 1, .int .i64 0]) ∧ Later w w') kingsR A 1 kingsR.start 1 (by omega) w hf hg hP kings_ok (fun e w' he hw => ⟨by rw [he, show countA kingsR kingsR.start 1 = (1, 0) from kings_count]; rfl, hw⟩))
  rw [show movesL kingsR kingsR.start = [⟨0, 1, 75⟩] from kings_moves] at HM
  clear hf hg
  go_enter Try.func5, Try.ntmps5
  go_upto_region 2 with (go_at_call 18; refine (HK.out _).mono ?_; rintro e w1 ⟨A, rfl, hP1, hw1⟩)
  have Hr2 := hide (Blk.new w1 27 #[.int .i64 kingsR.start.w, .int .i64 kingsR.start.h, .string kingsR.start.cells, .int .i64 kingsR.start.turn, .string kingsR.start.h0, .string kingsR.start.h1, .slice A kingsR.pieces.length 1, .bool kingsR.drops, .int .u8 kingsR.lose, .int .i64 kingsR.line, .int .u8 kingsR.reach, .bool kingsR.stuck, .int .i64 kingsR.plies])
  have hl2 : Later w1 (w1.alloc (.cells #[.int .i64 kingsR.start.w, .int .i64 kingsR.start.h, .string kingsR.start.cells, .int .i64 kingsR.start.turn, .string kingsR.start.h0, .string kingsR.start.h1, .slice A kingsR.pieces.length 1, .bool kingsR.drops, .int .u8 kingsR.lose, .int .i64 kingsR.line, .int .u8 kingsR.reach, .bool kingsR.stuck, .int .i64 kingsR.plies] 27)) := Later.rfl.alloc _
  have HP2 := hide ((hP1.below hl2).more hl2.size)
  have Hw2 := hide (hw1.trans hl2)
  obtain ⟨gr, hgr⟩ : ∃ gr, w1.heap.size = gr := ⟨_, rfl⟩
  obtain ⟨w2, hw2⟩ : ∃ w2, w1.alloc (.cells #[.int .i64 kingsR.start.w, .int .i64 kingsR.start.h, .string kingsR.start.cells, .int .i64 kingsR.start.turn, .string kingsR.start.h0, .string kingsR.start.h1, .slice A kingsR.pieces.length 1, .bool kingsR.drops, .int .u8 kingsR.lose, .int .i64 kingsR.line, .int .u8 kingsR.reach, .bool kingsR.stuck, .int .i64 kingsR.plies] 27) = w2 := ⟨_, rfl⟩
  rw [hw2] at Hr2 HP2 Hw2 ⊢
  rw [hgr] at Hr2 ⊢
  clear hw2 hgr hl2 hP1 hw1 HK
  obtain ⟨x0, x1, x2, x3, x4, x5, x6, x7, x8, x9, x10, x11, x12⟩ := Hr2.out.rules
  go_upto_region 3 with (go_at_call 6; refine (HM.out A _ HP2.out).mono ?_; rintro e w3 ⟨A3, c3, rfl, -, hw3⟩)
  have Hr3 := hide (hw3.blk Hr2.out)
  have HP3 := hide ((HP2.out.below hw3).more hw3.size)
  have Hw3 := hide (Hw2.out.trans hw3)
  clear hw3 Hr2 HP2 Hw2 x0 x1 x2 x3 x4 x5 x6 x7 x8 x9 x10 x11 x12
  obtain ⟨x0, x1, x2, x3, x4, x5, x6, x7, x8, x9, x10, x11, x12⟩ := Hr3.out.rules
  go_upto_region 4 with (go_at_call 13; refine (HC.out A _ HP3.out).mono ?_; rintro e w4 ⟨rfl, hw4⟩)
  go_wp2_with fail
  go_ret
  exact ⟨rfl, Hw3.out.trans hw4⟩
end Go.Proofs.Ytdfegpohmaideaa
/- gamekeep.mirrored, and its inner functions: a cell in a mirror -/
namespace Go.Proofs.Ytdfegpohmaideaa
open Go.RowKit

/-- a move's cell in a mirror; a hand's stays -/
def mirV (fx s : Bool) (p : Pos) (x : Int) : Int := if x < 0 then x else (mirI fx s p x.toNat : Int)
theorem mirV_neg {fx s : Bool} {p : Pos} {x : Int} (h : x < 0) : mirV fx s p x = x := if_pos h
theorem mirV_nat {fx s : Bool} {p : Pos} (a : Nat) : mirV fx s p (a : Int) = (mirI fx s p a : Int) := by
  unfold mirV; rw [if_neg (by omega), Int.toNat_natCast]
theorem mirI_lr {p : Pos} {n : Nat} (hn : p.w = (n : Int)) (hn1 : 1 ≤ n) (a : Nat) : ((mirI true false p a : Nat) : Int) = ((a / n * n : Nat) : Int) + n - 1 - ((a % n : Nat) : Int) := by
  have hx : a % n < n := Nat.mod_lt _ (by omega)
  rw [mirI_eq, hn, Int.toNat_natCast]
  simp only [flipN, if_true, Bool.false_eq_true, if_false]
  omega
theorem mirI_ud {p : Pos} {n m : Nat} (hn : p.w = (n : Int)) (hm : p.h = (m : Int)) (a : Nat) : ((mirI false true p a : Nat) : Int) = (((m - 1 - a / n) * n : Nat) : Int) + ((a % n : Nat) : Int) := by
  rw [mirI_eq, hn, hm, Int.toNat_natCast, Int.toNat_natCast]
  simp only [flipN, if_true, Bool.false_eq_true, if_false]
  omega
set_option maxHeartbeats 1000000 in
set_option maxRecDepth 100000 in
theorem flip_neg (x : Int) (v : Value) (W : World) (h : x < 0) :
    Calls Try.prog 22 #[.int .i64 x, v] W fun e w' => e = .returned (.int .i64 x) ∧ Later W w' := by
  have t1 : decide (x < 0) = true := decide_eq_true h
  clear h
  go_enter Try.func22, Try.ntmps22
  go_wp2_with fail
  go_ret
  exact ⟨rfl, Later.rfl⟩
set_option maxHeartbeats 1000000 in
set_option maxRecDepth 100000 in
theorem flip_nat (a : Nat) (p : Pos) (gp : Nat) (W : World) (hp : PosOk p) (ha : a < p.cells.size) (hb : Blk W gp 24 #[.int .i64 p.w, .int .i64 p.h, .string p.cells, .int .i64 p.turn, .string p.h0, .string p.h1]) :
    Calls Try.prog 22 #[.int .i64 (a : Int), .pointer (some ⟨gp, 0, none⟩)] W fun e w' => e = .returned (.int .i64 (mirI true false p a : Int)) ∧ Later W w' := by
  obtain ⟨n, m, hn, hm, n1, n8, m1, m8, hs, h64⟩ := pos_wh hp
  obtain ⟨p0, p1, p2, p3, p4, p5⟩ := hb.pos6
  have HR := hide (mirI_lr hn n1 a)
  have t1 : decide ((a : Int) < 0) = false := by simp
  have hx : a % n < n := Nat.mod_lt _ (by omega)
  have hy : a / n * n ≤ a := Nat.div_mul_le_self a n
  have ez : ((n : Int) == 0) = false := by simp; omega
  have ex := mod_eqn a n
  have ey := div_eqn a n
  rw [hn] at p0
  obtain ⟨x, hxx⟩ : ∃ x, a % n = x := ⟨_, rfl⟩
  obtain ⟨d, hdd⟩ : ∃ d, a / n = d := ⟨_, rfl⟩
  rw [hxx] at hx ex HR
  rw [hdd] at hy ey HR
  obtain ⟨k, hk⟩ : ∃ k, d * n = k := ⟨_, rfl⟩
  rw [hk] at hy HR
  have em : (d : Int) * (n : Int) = (k : Int) := by rw [← hk]; push_cast; rfl
  have HX := hide (show wrap64 (wrap64 (wrap64 (wrap64 (wrap64 (d : Int) * (n : Int)) + (n : Int)) - 1) - (x : Int)) = (mirI true false p a : Int) from by
    have hd : d ≤ a := by rw [← hdd]; exact Nat.div_le_self a n
    rw [IntWalk.wrap64_in d (by omega), em, IntWalk.wrap64_in k (by omega), IntWalk.wrap64_in ((k : Int) + n) (by omega), IntWalk.wrap64_in ((k : Int) + n - 1) (by omega), IntWalk.wrap64_in ((k : Int) + n - 1 - x) (by omega)]
    exact HR.out.symm)
  clear hp hb hn hm hs hxx hdd hk em
  go_enter Try.func22, Try.ntmps22
  go_wp2_with fail
  go_big_region
  go_wp2_with fail
  go_ret
  exact ⟨by rw [← HX.out] <;> rfl, Later.rfl.drew⟩
set_option maxHeartbeats 1000000 in
set_option maxRecDepth 100000 in
theorem up_neg (x : Int) (v : Value) (W : World) (h : x < 0) :
    Calls Try.prog 11 #[.int .i64 x, v] W fun e w' => e = .returned (.int .i64 x) ∧ Later W w' := by
  have t1 : decide (x < 0) = true := decide_eq_true h
  clear h
  go_enter Try.func11, Try.ntmps11
  go_wp2_with fail
  go_ret
  exact ⟨rfl, Later.rfl⟩
set_option maxHeartbeats 1000000 in
set_option maxRecDepth 100000 in
theorem up_nat (a : Nat) (p : Pos) (gp : Nat) (W : World) (hp : PosOk p) (ha : a < p.cells.size) (hb : Blk W gp 24 #[.int .i64 p.w, .int .i64 p.h, .string p.cells, .int .i64 p.turn, .string p.h0, .string p.h1]) :
    Calls Try.prog 11 #[.int .i64 (a : Int), .pointer (some ⟨gp, 0, none⟩)] W fun e w' => e = .returned (.int .i64 (mirI false true p a : Int)) ∧ Later W w' := by
  obtain ⟨n, m, hn, hm, n1, n8, m1, m8, hs, h64⟩ := pos_wh hp
  obtain ⟨p0, p1, p2, p3, p4, p5⟩ := hb.pos6
  have HR := hide (mirI_ud hn hm a)
  have t1 : decide ((a : Int) < 0) = false := by simp
  have hx : a % n < n := Nat.mod_lt _ (by omega)
  have hy : a / n < m := by
    obtain ⟨_, _, _, h4, _⟩ := hp.xy ha
    rw [hn, hm, Int.toNat_natCast] at h4
    omega
  have ez : ((n : Int) == 0) = false := by simp; omega
  have ex := mod_eqn a n
  have ey := div_eqn a n
  rw [hn] at p0
  rw [hm] at p1
  obtain ⟨x, hxx⟩ : ∃ x, a % n = x := ⟨_, rfl⟩
  obtain ⟨d, hdd⟩ : ∃ d, a / n = d := ⟨_, rfl⟩
  rw [hxx] at hx ex HR
  rw [hdd] at hy ey HR
  obtain ⟨j, hj⟩ : ∃ j, m - 1 - d = j := ⟨_, rfl⟩
  obtain ⟨k, hk⟩ : ∃ k, j * n = k := ⟨_, rfl⟩
  have hk64 : k ≤ 64 := by rw [← hk]; exact Nat.mul_le_mul (show j ≤ 8 by omega) n8
  rw [hj, hk] at HR
  have em : (j : Int) * (n : Int) = (k : Int) := by rw [← hk]; push_cast; rfl
  have HX := hide (show wrap64 (wrap64 (((m : Int) - 1 - (d : Int)) * (n : Int)) + (x : Int)) = (mirI false true p a : Int) from by
    rw [show (m : Int) - 1 - d = (j : Int) by omega, em, IntWalk.wrap64_in k (by omega), IntWalk.wrap64_in ((k : Int) + x) (by omega)]
    exact HR.out.symm)
  clear hp hb hn hm hs hxx hdd hj hk em
  go_enter Try.func11, Try.ntmps11
  go_wp2_with fail
  go_big_region
  go_wp2_with fail
  go_ret
  exact ⟨by rw [← HX.out] <;> rfl, Later.rfl.drew⟩
end Go.Proofs.Ytdfegpohmaideaa
/- gamekeep.mirrored, walked -/
namespace Go.Proofs.Ytdfegpohmaideaa
open Go.RowKit

def CellI (p : Pos) (x : Int) : Prop := x < 0 ∨ (0 ≤ x ∧ x.toNat < p.cells.size)
theorem flip_any (x : Int) (p : Pos) (gp : Nat) (W : World) (hp : PosOk p) (hx : CellI p x) (hb : Blk W gp 24 #[.int .i64 p.w, .int .i64 p.h, .string p.cells, .int .i64 p.turn, .string p.h0, .string p.h1]) :
    Calls Try.prog 22 #[.int .i64 x, .pointer (some ⟨gp, 0, none⟩)] W fun e w' => e = .returned (.int .i64 (mirV true false p x)) ∧ Later W w' := by
  rcases hx with h | ⟨h, h2⟩
  · rw [mirV_neg h]; exact flip_neg x _ W h
  · obtain ⟨a, rfl⟩ := Int.eq_ofNat_of_zero_le h
    rw [mirV_nat]; exact flip_nat a p gp W hp h2 hb
theorem up_any (x : Int) (p : Pos) (gp : Nat) (W : World) (hp : PosOk p) (hx : CellI p x) (hb : Blk W gp 24 #[.int .i64 p.w, .int .i64 p.h, .string p.cells, .int .i64 p.turn, .string p.h0, .string p.h1]) :
    Calls Try.prog 11 #[.int .i64 x, .pointer (some ⟨gp, 0, none⟩)] W fun e w' => e = .returned (.int .i64 (mirV false true p x)) ∧ Later W w' := by
  rcases hx with h | ⟨h, h2⟩
  · rw [mirV_neg h]; exact up_neg x _ W h
  · obtain ⟨a, rfl⟩ := Int.eq_ofNat_of_zero_le h
    rw [mirV_nat]; exact up_nat a p gp W hp h2 hb
theorem later_setrow {a b : World} {g : Nat} {vs : Array Value} (h : Later a b) (hg : a.heap.size ≤ g) : Later a (b.setRow g vs) := Below.trans h ⟨rfl, rfl, rfl, by simp [World.setRow], fun k hk => setRow_other _ _ _ _ (by omega)⟩
theorem setRow_blk4 {w : World} {g : Nat} {t : TypeId} {old vs : Array Value} (h : Blk w g t old) : Blk (w.setRow g vs) g t vs := setRow_heap _ _ _ _ _ _ h
set_option maxHeartbeats 4000000 in
set_option maxRecDepth 100000 in
theorem mirrored_any (p : Pos) (m : Mv) (W : World) (hp : PosOk p) (hf : CellI p m.f) (ht : CellI p m.t) :
    Calls Try.prog 10 #[.agg #[.int .i64 p.w, .int .i64 p.h, .string p.cells, .int .i64 p.turn, .string p.h0, .string p.h1], .agg #[.int .i64 m.f, .int .i64 m.t, .int .u8 m.c]] W fun e w' => e = .returned (.agg #[.int .i64 (mirV true false p m.f), .int .i64 (mirV true false p m.t), .int .u8 m.c]) ∧ Later W w' := by
  have Hbp := hide (((Blk.new W 24 #[.int .i64 p.w, .int .i64 p.h, .string p.cells, .int .i64 p.turn, .string p.h0, .string p.h1]).alloc (.cells #[.int .i64 m.f, .int .i64 m.t, .int .u8 m.c] 39)).alloc (.cells #[.int .i64 0, .int .i64 0, .int .u8 0] 39))
  have hbm := (Blk.new (W.alloc (.cells #[.int .i64 p.w, .int .i64 p.h, .string p.cells, .int .i64 p.turn, .string p.h0, .string p.h1] 24)) 39 #[.int .i64 m.f, .int .i64 m.t, .int .u8 m.c]).alloc (.cells #[.int .i64 0, .int .i64 0, .int .u8 0] 39)
  have hbz := Blk.new ((W.alloc (.cells #[.int .i64 p.w, .int .i64 p.h, .string p.cells, .int .i64 p.turn, .string p.h0, .string p.h1] 24)).alloc (.cells #[.int .i64 m.f, .int .i64 m.t, .int .u8 m.c] 39)) 39 #[.int .i64 0, .int .i64 0, .int .u8 0]
  rw [World.size_alloc] at hbm hbz
  rw [World.size_alloc] at hbz
  have Hbm := hide hbm
  have hbm2 := Blk.new (W.alloc (.cells #[.int .i64 p.w, .int .i64 p.h, .string p.cells, .int .i64 p.turn, .string p.h0, .string p.h1] 24)) 39 #[.int .i64 m.f, .int .i64 m.t, .int .u8 m.c]
  rw [World.size_alloc] at hbm2
  have Hbm2 := hide hbm2
  have Hbz := hide hbz
  have Hw := hide (show Later W (((W.alloc (.cells #[.int .i64 p.w, .int .i64 p.h, .string p.cells, .int .i64 p.turn, .string p.h0, .string p.h1] 24)).alloc (.cells #[.int .i64 m.f, .int .i64 m.t, .int .u8 m.c] 39)).alloc (.cells #[.int .i64 0, .int .i64 0, .int .u8 0] 39)) from ((Later.rfl.alloc _).alloc _).alloc _)
  have HF := hide (fun w (hb : Blk w W.heap.size 24 #[.int .i64 p.w, .int .i64 p.h, .string p.cells, .int .i64 p.turn, .string p.h0, .string p.h1]) => flip_any m.f p W.heap.size w hp hf hb)
  have HT := hide (fun w (hb : Blk w W.heap.size 24 #[.int .i64 p.w, .int .i64 p.h, .string p.cells, .int .i64 p.turn, .string p.h0, .string p.h1]) => flip_any m.t p W.heap.size w hp ht hb)
  clear hbm hbm2 hbz hp hf ht
  go_enter Try.func10, Try.ntmps10
  go_upto_region 1 with (fail)
  obtain ⟨w0, hw0⟩ : ∃ w0, (((W.alloc (.cells #[.int .i64 p.w, .int .i64 p.h, .string p.cells, .int .i64 p.turn, .string p.h0, .string p.h1] 24)).alloc (.cells #[.int .i64 m.f, .int .i64 m.t, .int .u8 m.c] 39)).alloc (.cells #[.int .i64 0, .int .i64 0, .int .u8 0] 39)) = w0 := ⟨_, rfl⟩
  rw [hw0] at Hbp Hbm Hbz Hw ⊢
  have Hl0 := hide (show Later ((W.alloc (.cells #[.int .i64 p.w, .int .i64 p.h, .string p.cells, .int .i64 p.turn, .string p.h0, .string p.h1] 24)).alloc (.cells #[.int .i64 m.f, .int .i64 m.t, .int .u8 m.c] 39)) w0 from hw0 ▸ Later.rfl.alloc _)
  clear hw0
  go_upto_region 2 with (fail)
  have HSh := hide (show ∀ w' : World, Later ((W.alloc (.cells #[.int .i64 p.w, .int .i64 p.h, .string p.cells, .int .i64 p.turn, .string p.h0, .string p.h1] 24)).alloc (.cells #[.int .i64 m.f, .int .i64 m.t, .int .u8 m.c] 39)) w' → (w'.cell? ⟨W.heap.size + 1, 0, none⟩ = some (.int .i64 m.f) ∧ w'.cell? ⟨W.heap.size + 1, 1, none⟩ = some (.int .i64 m.t) ∧ w'.cell? ⟨W.heap.size + 1, 2, none⟩ = some (.int .u8 m.c)) from fun w' hw => by
    obtain ⟨⟨m0, m1, m2⟩, -⟩ := (hw.blk Hbm2.out).mv
    exact ⟨m0, m1, m2⟩)
  refine wp_region_held_drew (S := fun w' : World => (w'.cell? ⟨W.heap.size + 1, 0, none⟩ = some (.int .i64 m.f) ∧ w'.cell? ⟨W.heap.size + 1, 1, none⟩ = some (.int .i64 m.t) ∧ w'.cell? ⟨W.heap.size + 1, 2, none⟩ = some (.int .u8 m.c))) (by kernel_rfl) (HSh.out _ Hl0.out.drew) (fun hHeld => ?_)
  refine wpAnyH_take (i := 0) (oi := ⟨some 7, _, _, _, _, _⟩) (v := ?_) rfl (by kernel_rfl) (by kernel_rfl) (by kernel_rfl) (fun _ _ _ h => h) (Or.inl ⟨by rfl, ?_⟩) (by assumption) ?_
  rotate_left 1
  · intro w hSw
    try dsimp only at hSw
    go_simp <;> with_reducible rfl
  try simp only [Act.put, List.setIfInBounds_toArray, List.set_cons_zero, List.set_cons_succ]
  refine wpAnyH_take (i := 1) (oi := ⟨some 8, _, _, _, _, _⟩) (v := ?_) rfl (by kernel_rfl) (by kernel_rfl) (by kernel_rfl) (fun _ _ _ h => h) (Or.inl ⟨by rfl, ?_⟩) (by assumption) ?_
  rotate_left 1
  · intro w hSw
    try dsimp only at hSw
    go_simp <;> with_reducible rfl
  try simp only [Act.put, List.setIfInBounds_toArray, List.set_cons_zero, List.set_cons_succ]
  refine wpAnyH_take (i := 2) (oi := ⟨some 9, _, _, _, _, _⟩) (v := ?_) rfl (by kernel_rfl) (by kernel_rfl) (by kernel_rfl) (fun _ _ _ h => h) (Or.inl ⟨by rfl, ?_⟩) (by assumption) ?_
  rotate_left 1
  · intro w hSw
    try dsimp only at hSw
    go_simp <;> with_reducible rfl
  try simp only [Act.put, List.setIfInBounds_toArray, List.set_cons_zero, List.set_cons_succ]
  refine wpAnyH_take (i := 4) (oi := ⟨some 11, _, _, _, _, _⟩) (v := ?_) rfl (by kernel_rfl) (by kernel_rfl) (by kernel_rfl) (fun _ _ _ h => h) (Or.inl ⟨by rfl, ?_⟩) (by assumption) ?_
  rotate_left 1
  · intro w hSw
    try dsimp only at hSw
    go_simp <;> with_reducible rfl
  try simp only [Act.put, List.setIfInBounds_toArray, List.set_cons_zero, List.set_cons_succ]
  refine wpAnyH_take (i := 5) (oi := ⟨some 12, _, _, _, _, _⟩) (v := ?_) rfl (by kernel_rfl) (by kernel_rfl) (by kernel_rfl) (fun _ _ _ h => h) (Or.inl ⟨by rfl, ?_⟩) (by assumption) ?_
  rotate_left 1
  · intro w hSw
    try dsimp only at hSw
    go_simp <;> with_reducible rfl
  try simp only [Act.put, List.setIfInBounds_toArray, List.set_cons_zero, List.set_cons_succ]
  refine wpAnyH_take (i := 6) (oi := ⟨some 13, _, _, _, _, _⟩) (v := ?_) rfl (by kernel_rfl) (by kernel_rfl) (by kernel_rfl) (fun _ _ _ h => h) (Or.inl ⟨by rfl, ?_⟩) (by assumption) ?_
  rotate_left 1
  · intro w hSw
    try dsimp only at hSw
    go_simp <;> with_reducible rfl
  try simp only [Act.put, List.setIfInBounds_toArray, List.set_cons_zero, List.set_cons_succ]
  refine wpAnyH_take (i := 8) (oi := ⟨some 15, _, _, _, _, _⟩) (v := ?_) rfl (by kernel_rfl) (by kernel_rfl) (by kernel_rfl) (fun _ _ _ h => h) (Or.inl ⟨by rfl, ?_⟩) (by assumption) ?_
  rotate_left 1
  · intro w hSw
    try dsimp only at hSw
    go_simp <;> with_reducible rfl
  try simp only [Act.put, List.setIfInBounds_toArray, List.set_cons_zero, List.set_cons_succ]
  refine wpAnyH_take (i := 9) (oi := ⟨some 16, _, _, _, _, _⟩) (v := ?_) rfl (by kernel_rfl) (by kernel_rfl) (by kernel_rfl) (fun _ _ _ h => h) (Or.inl ⟨by rfl, ?_⟩) (by assumption) ?_
  rotate_left 1
  · intro w hSw
    try dsimp only at hSw
    go_simp <;> with_reducible rfl
  try simp only [Act.put, List.setIfInBounds_toArray, List.set_cons_zero, List.set_cons_succ]
  refine wpAnyH_ready (rs := [3]) (by kernel_rfl) (by simp) ?_
  refine AllReadyH.cons (o := ⟨some 10, _, _, _, _, _⟩) rfl (fun K hK => ?_) ?_
  · clear hHeld
    go_simp
    go_at_call 22
    refine (HF.out _ (Later.blk (by repeat (first | exact Later.rfl | exact hwq | refine Later.drew ?_)) Hbp.out)).mono ?_
    rintro e wq ⟨rfl, hwx⟩
    have hwq := Later.trans (a := w0) (by repeat (first | exact Later.rfl | exact hwq | refine Later.drew ?_)) hwx
    try go_wp2_with fail
    refine hK.out _ _ (by refine HSh.out _ ?_; first | exact later_setrow (Hl0.out.trans hwq) (by simp) | exact Hl0.out.trans (by repeat (first | exact Later.rfl | exact hwq | refine Later.drew ?_))) (fun hHeld => ?_)
    clear hK K
    try simp only [Act.put, List.setIfInBounds_toArray, List.set_cons_zero, List.set_cons_succ]
    refine wpAnyH_ready (rs := [7]) (by kernel_rfl) (by simp) ?_
    refine AllReadyH.cons (o := ⟨some 14, _, _, _, _, _⟩) rfl (fun K hK => ?_) ?_
    · clear hHeld
      go_simp
      go_at_call 22
      refine (HT.out _ (Later.blk (by repeat (first | exact Later.rfl | exact hwq | refine Later.drew ?_)) Hbp.out)).mono ?_
      rintro e wq ⟨rfl, hwx⟩
      have hwq := Later.trans (a := w0) (by repeat (first | exact Later.rfl | exact hwq | refine Later.drew ?_)) hwx
      try go_wp2_with fail
      refine hK.out _ _ (by refine HSh.out _ ?_; first | exact later_setrow (Hl0.out.trans hwq) (by simp) | exact Hl0.out.trans (by repeat (first | exact Later.rfl | exact hwq | refine Later.drew ?_))) (fun hHeld => ?_)
      clear hK K
      try simp only [Act.put, List.setIfInBounds_toArray, List.set_cons_zero, List.set_cons_succ]
      refine wpAnyH_take (i := 10) (oi := ⟨some 17, _, _, _, _, _⟩) (v := ?_) rfl (by kernel_rfl) (by kernel_rfl) (by kernel_rfl) (fun _ _ _ h => h) (Or.inl ⟨by rfl, ?_⟩) (by assumption) ?_
      rotate_left 1
      · intro w hSw
        try dsimp only at hSw
        go_simp <;> with_reducible rfl
      try simp only [Act.put, List.setIfInBounds_toArray, List.set_cons_zero, List.set_cons_succ]
      refine wpAnyH_ready (rs := [11]) (by kernel_rfl) (by simp) ?_
      refine AllReadyH.cons (o := ⟨none, _, _, _, _, _⟩) rfl (fun K hK => ?_) ?_
      · clear hHeld
        rw [if_pos (by rfl)]
        refine wp_store_row 39 (.tmp 4) (.tmp 17) rfl _ #[.int .i64 (mirV true false p m.f), .int .i64 (mirV true false p m.t), .int .u8 m.c] rfl rfl 39 _ (hwq.blk Hbz.out) (by kernel_rfl) (by simp) (by simp [Value.oneCell']) ?_
        refine hK.out _ _ (by refine HSh.out _ ?_; first | exact later_setrow (Hl0.out.trans hwq) (by simp) | exact Hl0.out.trans (by repeat (first | exact Later.rfl | exact hwq | refine Later.drew ?_))) (fun hHeld => ?_)
        clear hK K
        try simp only [Act.put]
        refine wpAnyH_done (by kernel_rfl) ?_ _
        go_wp2_with fail
        obtain ⟨⟨z0, z1, z2⟩, -⟩ := (setRow_blk4 (vs := #[.int .i64 (mirV true false p m.f), .int .i64 (mirV true false p m.t), .int .u8 m.c]) (hwq.blk Hbz.out)).mv
        refine bodyPost_ret (v := .agg #[.int .i64 (mirV true false p m.f), .int .i64 (mirV true false p m.t), .int .u8 m.c]) (by simp [results, Try.results10, go_sem, z0, z1, z2]) rfl ⟨rfl, ?_⟩
        exact later_setrow (Hw.out.trans (by repeat (first | exact Later.rfl | exact hwq | refine Later.drew ?_))) (by omega)
      exact AllReadyH.nil
    exact AllReadyH.nil
  exact AllReadyH.nil
end Go.Proofs.Ytdfegpohmaideaa
/- gamekeep.MovesMirror, walked -/
namespace Go.Proofs.Ytdfegpohmaideaa
open Go.RowKit Go.Shelf

/-- the boxes of a call with rules and a position -/
structure MmSt (W : World) (R P : Array Value) (w : World) : Prop where
  r : Blk w W.heap.size 27 R
  p : Blk w (W.heap.size + 1) 24 P
  later : Later W w
theorem MmSt.later_ {W w w' : World} {R P : Array Value} (h : MmSt W R P w) (hw : Later w w') : MmSt W R P w' := ⟨hw.blk h.r, hw.blk h.p, h.later.trans hw⟩
theorem MmSt.first {W : World} {R P : Array Value} : MmSt W R P ((W.alloc (.cells R 27)).alloc (.cells P 24)) := by
  refine ⟨(Blk.new W _ R).alloc _, ?_, (Later.rfl.alloc _).alloc _⟩
  have := Blk.new (W.alloc (.cells R 27)) 24 P
  rwa [World.size_alloc] at this
theorem turned_p (p : Pos) (W : World) (hp : PosOk p) : Calls Try.prog 8 #[.agg #[.int .i64 p.w, .int .i64 p.h, .string p.cells, .int .i64 p.turn, .string p.h0, .string p.h1], .int .i64 1] W fun e w' => ∃ q, turnP p 1 = q ∧ e = .returned (.tuple #[.agg #[.int .i64 q.w, .int .i64 q.h, .string q.cells, .int .i64 q.turn, .string q.h0, .string q.h1], .int .i64 0]) ∧ Later W w' := by
  obtain ⟨w, h, c, t, h0, h1⟩ := p
  exact (turned_at w h t c h0 h1 W hp 1 (by omega)).mono fun e w' ⟨he, hw⟩ => ⟨_, rfl, he, hw⟩
theorem swapped_p (p : Pos) (W : World) (hp : PosOk p) : Calls Try.prog 9 #[.agg #[.int .i64 p.w, .int .i64 p.h, .string p.cells, .int .i64 p.turn, .string p.h0, .string p.h1]] W fun e w' => ∃ q, exchP p = q ∧ e = .returned (.tuple #[.agg #[.int .i64 q.w, .int .i64 q.h, .string q.cells, .int .i64 q.turn, .string q.h0, .string q.h1], .int .i64 0]) ∧ Later W w' := by
  obtain ⟨w, h, c, t, h0, h1⟩ := p
  exact (swapped_at w h t c h0 h1 W hp).mono fun e w' ⟨he, hw⟩ => ⟨_, rfl, he, hw⟩
theorem pfit_of {p : Pos} (h : PosOk p) : PFit p := by
  have := posOk_sizes h
  exact ⟨by omega, by omega, by omega⟩
theorem mv_cells {r : RulesD} {p : Pos} (ho : OfOk r p) {m : Mv} (h : m ∈ movesL r p) : CellI p m.f ∧ CellI p m.t ∧ ∀ fx s, (⟨mirV fx s p m.f, mirV fx s p m.t, m.c⟩ : Mv) = symM (mirI fx s p) m := by
  obtain ⟨h0, h1, h2⟩ := every_form ho.pos.turn01 (moves_every h)
  refine ⟨?_, .inr ⟨h0, h1⟩, fun fx s => ?_⟩
  · rcases h2 with ⟨e, _⟩ | ⟨e1, e2, _⟩
    · left; rw [e]; decide
    · exact .inr ⟨e1, e2⟩
  · refine Mv.ext_ ?_ ?_ rfl
    · simp only [symM, mirV]
    · simp only [symM, mirV]
      rw [if_neg (by omega)]
set_option maxHeartbeats 4000000 in
set_option maxRecDepth 100000 in
theorem mi_no (r : RulesD) (A : Option Addr) (cp : Nat) (p : Pos) (W : World) (hf : RFit r) (hg : PFit p) (hP : PiecesAt W W.heap.size A r.pieces) (hno : ¬ OfOk r p) :
    Calls Try.prog 3 #[.agg #[.int .i64 r.start.w, .int .i64 r.start.h, .string r.start.cells, .int .i64 r.start.turn, .string r.start.h0, .string r.start.h1, .slice A r.pieces.length cp, .bool r.drops, .int .u8 r.lose, .int .i64 r.line, .int .u8 r.reach, .bool r.stuck, .int .i64 r.plies], .agg #[.int .i64 p.w, .int .i64 p.h, .string p.cells, .int .i64 p.turn, .string p.h0, .string p.h1]] W fun e w' => e = .returned (.bool true) ∧ Later W w' := by
  have Hst := hide (MmSt.first (W := W) (R := #[.int .i64 r.start.w, .int .i64 r.start.h, .string r.start.cells, .int .i64 r.start.turn, .string r.start.h0, .string r.start.h1, .slice A r.pieces.length cp, .bool r.drops, .int .u8 r.lose, .int .i64 r.line, .int .u8 r.reach, .bool r.stuck, .int .i64 r.plies]) (P := #[.int .i64 p.w, .int .i64 p.h, .string p.cells, .int .i64 p.turn, .string p.h0, .string p.h1]))
  have Hmm := hide (fun w (hw : Later W w) => mm_no r A cp p w hf hg ((hP.below hw).more hw.size) hno)
  have Hmo := hide (fun w (hw : Later W w) => mo_no r A cp p w hf hg ((hP.below hw).more hw.size) hno)
  clear hf hg hP hno
  go_enter Try.func3, Try.ntmps3
  go_upto_region 1 with (fail)
  obtain ⟨w0, hw0⟩ : ∃ w0, (W.alloc (.cells #[.int .i64 r.start.w, .int .i64 r.start.h, .string r.start.cells, .int .i64 r.start.turn, .string r.start.h0, .string r.start.h1, .slice A r.pieces.length cp, .bool r.drops, .int .u8 r.lose, .int .i64 r.line, .int .u8 r.reach, .bool r.stuck, .int .i64 r.plies] 27)).alloc (.cells #[.int .i64 p.w, .int .i64 p.h, .string p.cells, .int .i64 p.turn, .string p.h0, .string p.h1] 24) = w0 := ⟨_, rfl⟩
  rw [hw0] at Hst ⊢
  clear hw0
  go_upto_region 3 with (go_at_call 5; refine (movable_any _).mono ?_; rintro e w1 ⟨rfl, hw1⟩)
  have Hst1 := hide (Hst.out.later_ hw1)
  clear hw1 Hst
  obtain ⟨x0, x1, x2, x3, x4, x5, x6, x7, x8, x9, x10, x11, x12⟩ := Hst1.out.r.rules
  obtain ⟨p0, p1, p2, p3, p4, p5⟩ := Hst1.out.p.pos6
  go_upto_region 4 with (go_at_call 6; refine (Hmm.out _ Hst1.out.later).mono ?_; rintro e w2 ⟨rfl, hw2⟩)
  have Hst2 := hide (Hst1.out.later_ hw2)
  clear hw2 Hst1 x0 x1 x2 x3 x4 x5 x6 x7 x8 x9 x10 x11 x12 p0 p1 p2 p3 p4 p5
  obtain ⟨x0, x1, x2, x3, x4, x5, x6, x7, x8, x9, x10, x11, x12⟩ := Hst2.out.r.rules
  obtain ⟨p0, p1, p2, p3, p4, p5⟩ := Hst2.out.p.pos6
  go_upto_region 5 with (go_at_call 7; refine (Hmo.out _ Hst2.out.later).mono ?_; rintro e w3 ⟨rfl, hw3⟩)
  have HL := hide (Hst2.out.later.trans hw3)
  clear hw3 Hst2 x0 x1 x2 x3 x4 x5 x6 x7 x8 x9 x10 x11 x12 p0 p1 p2 p3 p4 p5
  go_wp2_with fail
  go_ret
  exact ⟨rfl, HL.out⟩
set_option maxHeartbeats 16000000 in
set_option maxRecDepth 100000 in
theorem mi_ok (r : RulesD) (A : Option Addr) (cp : Nat) (p : Pos) (W : World) (hf : RFit r) (hP : PiecesAt W W.heap.size A r.pieces) (hok : OfOk r p) :
    Calls Try.prog 3 #[.agg #[.int .i64 r.start.w, .int .i64 r.start.h, .string r.start.cells, .int .i64 r.start.turn, .string r.start.h0, .string r.start.h1, .slice A r.pieces.length cp, .bool r.drops, .int .u8 r.lose, .int .i64 r.line, .int .u8 r.reach, .bool r.stuck, .int .i64 r.plies], .agg #[.int .i64 p.w, .int .i64 p.h, .string p.cells, .int .i64 p.turn, .string p.h0, .string p.h1]] W fun e w' => e = .returned (.bool true) ∧ Later W w' := by
  have Hst := hide (MmSt.first (W := W) (R := #[.int .i64 r.start.w, .int .i64 r.start.h, .string r.start.cells, .int .i64 r.start.turn, .string r.start.h0, .string r.start.h1, .slice A r.pieces.length cp, .bool r.drops, .int .u8 r.lose, .int .i64 r.line, .int .u8 r.reach, .bool r.stuck, .int .i64 r.plies]) (P := #[.int .i64 p.w, .int .i64 p.h, .string p.cells, .int .i64 p.turn, .string p.h0, .string p.h1]))
  have Hmm := hide (fun q (hq : OfOk r q) w (hw : Later W w) => mm_ok r A cp q w hf (pfit_of hq.pos) ((hP.below hw).more hw.size) hq)
  have Hmo := hide (fun q (hq : OfOk r q) w (hw : Later W w) => mo_ok r A cp q w hf (pfit_of hq.pos) ((hP.below hw).more hw.size) hq)
  have S1 := turn_sym hok.pos
  have S2 := exch_sym hok.pos
  have hlo : r.lose = 0 ∨ upB r.lose = true := hok.rules.lose.imp id (fun h => h.1)
  have hre : r.reach = 0 ∨ upB r.reach = true := hok.rules.reach.imp id (fun h => h.1)
  have He1 := S1.ends hlo hre
  have He2 := S2.ends hlo hre
  have Hm1 := S1.moves hlo hre
  have Hm2 := S2.moves hlo hre
  have Hq1 := S1.ofOk hok
  have Hq2 := S2.ofOk hok
  have hll : (movesL r p).length ≤ 10000 := movesL_len hok.pos
  have Hc := hide (fun (m : Mv) (hm : m ∈ movesL r p) => mv_cells hok hm)
  have Hp := hide hok.pos
  have HT := hide (fun w => turned_p p w hok.pos)
  have HS := hide (fun w => swapped_p p w hok.pos)
  have ho := ends_range (r := r) hok.pos.turn01
  obtain ⟨ov, hov⟩ : ∃ n, endsN r p = n := ⟨_, rfl⟩
  rw [hov] at ho
  rw [hov] at He1 He2
  have e1 : swI false ov = ov := by simp [swI]
  rw [e1] at He1
  have HmmP := hide (fun w hw => Hmm.out p hok w hw)
  have HmoP := hide (fun w hw => Hmo.out p hok w hw)
  have HmmQ := hide (fun w hw => Hmm.out _ Hq1 w hw)
  have HmoQ := hide (fun w hw => Hmo.out _ Hq1 w hw)
  have HmmS := hide (fun w hw => Hmm.out _ Hq2 w hw)
  have HmoS := hide (fun w hw => Hmo.out _ Hq2 w hw)
  rw [hov] at HmoP
  rw [He1] at HmoQ
  rw [He2] at HmoS
  obtain ⟨L, hL⟩ : ∃ L, movesL r p = L := ⟨_, rfl⟩
  obtain ⟨La, hLa⟩ : ∃ L, movesL r (turnP p 1) = L := ⟨_, rfl⟩
  obtain ⟨Lb, hLb⟩ : ∃ L, movesL r (exchP p) = L := ⟨_, rfl⟩
  rw [hL] at Hm1 Hm2 hll
  simp only [hL] at Hc HmmP
  rw [hLa] at Hm1
  simp only [hLa] at HmmQ
  rw [hLb] at Hm2
  simp only [hLb] at HmmS
  obtain ⟨q, hq⟩ : ∃ q, turnP p 1 = q := ⟨_, rfl⟩
  obtain ⟨s, hs⟩ : ∃ q, exchP p = q := ⟨_, rfl⟩
  simp only [hq] at HmmQ HmoQ
  simp only [hs] at HmmS HmoS
  have Hq := hide hq
  have Hs := hide hs
  have Hla := hide Hm1.1
  have Hlb := hide Hm2.1
  have HA := hide Hm1.2
  have HB := hide Hm2.2
  have te : ((La.length : Int) != (L.length : Int)) = false := by rw [Hm1.1]; simp
  have te2 : ((Lb.length : Int) != (L.length : Int)) = false := by rw [Hm2.1]; simp
  have teo : ((ov : Int) != ov) = false := by simp
  clear hf hP hok S1 S2 hlo hre He1 He2 Hm1 Hm2 Hq1 Hq2 hov e1 hL hLa hLb hq hs Hmm Hmo
  go_enter Try.func3, Try.ntmps3
  go_upto_region 1 with (fail)
  obtain ⟨w0, hw0⟩ : ∃ w0, (W.alloc (.cells #[.int .i64 r.start.w, .int .i64 r.start.h, .string r.start.cells, .int .i64 r.start.turn, .string r.start.h0, .string r.start.h1, .slice A r.pieces.length cp, .bool r.drops, .int .u8 r.lose, .int .i64 r.line, .int .u8 r.reach, .bool r.stuck, .int .i64 r.plies] 27)).alloc (.cells #[.int .i64 p.w, .int .i64 p.h, .string p.cells, .int .i64 p.turn, .string p.h0, .string p.h1] 24) = w0 := ⟨_, rfl⟩
  rw [hw0] at Hst ⊢
  clear hw0
  go_upto_region 3 with (go_at_call 5; refine (movable_any _).mono ?_; rintro e w1 ⟨rfl, hw1⟩)
  have Hst1 := hide (Hst.out.later_ hw1)
  clear hw1 Hst
  obtain ⟨x0, x1, x2, x3, x4, x5, x6, x7, x8, x9, x10, x11, x12⟩ := Hst1.out.r.rules
  obtain ⟨p0, p1, p2, p3, p4, p5⟩ := Hst1.out.p.pos6
  go_upto_region 4 with (go_at_call 6; refine (HmmP.out _ Hst1.out.later).mono ?_; rintro e w2 ⟨A2, c2, rfl, hc2, hw2⟩)
  have Hst2 := hide (Hst1.out.later_ hw2)
  have Hl2 := hide hc2
  clear hw2 hc2 Hst1 HmmP x0 x1 x2 x3 x4 x5 x6 x7 x8 x9 x10 x11 x12 p0 p1 p2 p3 p4 p5
  obtain ⟨x0, x1, x2, x3, x4, x5, x6, x7, x8, x9, x10, x11, x12⟩ := Hst2.out.r.rules
  obtain ⟨p0, p1, p2, p3, p4, p5⟩ := Hst2.out.p.pos6
  go_upto_region 7 with (go_at_call 7; refine (HmoP.out _ Hst2.out.later).mono ?_; rintro e w3 ⟨rfl, hw3⟩)
  have Hst3 := hide (Hst2.out.later_ hw3)
  have Hl3 := hide ((Hl2.out.below hw3).more hw3.size)
  clear hw3 Hst2 Hl2 HmoP x0 x1 x2 x3 x4 x5 x6 x7 x8 x9 x10 x11 x12 p0 p1 p2 p3 p4 p5
  obtain ⟨x0, x1, x2, x3, x4, x5, x6, x7, x8, x9, x10, x11, x12⟩ := Hst3.out.r.rules
  obtain ⟨p0, p1, p2, p3, p4, p5⟩ := Hst3.out.p.pos6
  go_upto_region 8 with (go_at_call 8; refine (HT.out _).mono ?_; rintro e w4 ⟨q', hq', rfl, hw4⟩; obtain rfl := Hq.out.symm.trans hq'; clear hq')
  have hst := (Hst3.out.later_ (hw4.alloc (.cells #[.int .i64 q.w, .int .i64 q.h, .string q.cells, .int .i64 q.turn, .string q.h0, .string q.h1] 24)))
  have hl := (Hl3.out.below (hw4.alloc (.cells #[.int .i64 q.w, .int .i64 q.h, .string q.cells, .int .i64 q.turn, .string q.h0, .string q.h1] 24))).more (hw4.alloc (.cells #[.int .i64 q.w, .int .i64 q.h, .string q.cells, .int .i64 q.turn, .string q.h0, .string q.h1] 24)).size
  have hb := Blk.new w4 24 #[.int .i64 q.w, .int .i64 q.h, .string q.cells, .int .i64 q.turn, .string q.h0, .string q.h1]
  have hla := hw4.alloc (.cells #[.int .i64 q.w, .int .i64 q.h, .string q.cells, .int .i64 q.turn, .string q.h0, .string q.h1] 24)
  obtain ⟨g4, hg4⟩ : ∃ g, w4.heap.size = g := ⟨_, rfl⟩
  obtain ⟨v4, hv4⟩ : ∃ v, w4.alloc (.cells #[.int .i64 q.w, .int .i64 q.h, .string q.cells, .int .i64 q.turn, .string q.h0, .string q.h1] 24) = v := ⟨_, rfl⟩
  rw [hv4] at hst hl hb hla ⊢
  rw [hg4] at hb ⊢
  have Hst4 := hide hst
  have Hl4 := hide hl
  have Hbq := hide hb
  have HLt4 := hide hla
  clear hst hl hb hla hw4 hv4 hg4 Hst3 Hl3 x0 x1 x2 x3 x4 x5 x6 x7 x8 x9 x10 x11 x12 p0 p1 p2 p3 p4 p5
  obtain ⟨x0, x1, x2, x3, x4, x5, x6, x7, x8, x9, x10, x11, x12⟩ := Hst4.out.r.rules
  obtain ⟨p0, p1, p2, p3, p4, p5⟩ := Hst4.out.p.pos6
  obtain ⟨q0, q1, q2, q3, q4, q5⟩ := Hbq.out.pos6
  go_upto_region 9 with (go_at_call 6; refine (HmmQ.out _ Hst4.out.later).mono ?_; rintro e w5 ⟨A5, c5, rfl, hc5, hw5⟩)
  have Hst5 := hide (Hst4.out.later_ hw5)
  have Hl5 := hide ((Hl4.out.below hw5).more hw5.size)
  have Hla5 := hide hc5
  have Hbq5 := hide (hw5.blk Hbq.out)
  clear hw5 hc5 Hst4 Hl4 Hbq HmmQ q0 q1 q2 q3 q4 q5 x0 x1 x2 x3 x4 x5 x6 x7 x8 x9 x10 x11 x12 p0 p1 p2 p3 p4 p5
  obtain ⟨x0, x1, x2, x3, x4, x5, x6, x7, x8, x9, x10, x11, x12⟩ := Hst5.out.r.rules
  obtain ⟨p0, p1, p2, p3, p4, p5⟩ := Hst5.out.p.pos6
  obtain ⟨q0, q1, q2, q3, q4, q5⟩ := Hbq5.out.pos6
  go_upto_region 12 with (go_at_call 7; refine (HmoQ.out _ Hst5.out.later).mono ?_; rintro e w6 ⟨rfl, hw6⟩)
  have Hst6 := hide (Hst5.out.later_ hw6)
  have Hl6 := hide ((Hl5.out.below hw6).more hw6.size)
  have Hla6 := hide ((Hla5.out.below hw6).more hw6.size)
  clear hw6 Hst5 Hl5 Hla5 Hbq5 HmoQ q0 q1 q2 q3 q4 q5 x0 x1 x2 x3 x4 x5 x6 x7 x8 x9 x10 x11 x12 p0 p1 p2 p3 p4 p5
  obtain ⟨x0, x1, x2, x3, x4, x5, x6, x7, x8, x9, x10, x11, x12⟩ := Hst6.out.r.rules
  obtain ⟨p0, p1, p2, p3, p4, p5⟩ := Hst6.out.p.pos6
  go_upto_region 13 with (go_at_call 9; refine (HS.out _).mono ?_; rintro e w7 ⟨q', hq', rfl, hw7⟩; obtain rfl := Hs.out.symm.trans hq'; clear hq')
  have hst := (Hst6.out.later_ (hw7.alloc (.cells #[.int .i64 s.w, .int .i64 s.h, .string s.cells, .int .i64 s.turn, .string s.h0, .string s.h1] 24)))
  have hl := (Hl6.out.below (hw7.alloc (.cells #[.int .i64 s.w, .int .i64 s.h, .string s.cells, .int .i64 s.turn, .string s.h0, .string s.h1] 24))).more (hw7.alloc (.cells #[.int .i64 s.w, .int .i64 s.h, .string s.cells, .int .i64 s.turn, .string s.h0, .string s.h1] 24)).size
  have hb := Blk.new w7 24 #[.int .i64 s.w, .int .i64 s.h, .string s.cells, .int .i64 s.turn, .string s.h0, .string s.h1]
  have hla := hw7.alloc (.cells #[.int .i64 s.w, .int .i64 s.h, .string s.cells, .int .i64 s.turn, .string s.h0, .string s.h1] 24)
  obtain ⟨g7, hg7⟩ : ∃ g, w7.heap.size = g := ⟨_, rfl⟩
  obtain ⟨v7, hv7⟩ : ∃ v, w7.alloc (.cells #[.int .i64 s.w, .int .i64 s.h, .string s.cells, .int .i64 s.turn, .string s.h0, .string s.h1] 24) = v := ⟨_, rfl⟩
  rw [hv7] at hst hl hb hla ⊢
  rw [hg7] at hb ⊢
  have Hst7 := hide hst
  have Hl7 := hide hl
  have Hbs := hide hb
  have HLt7 := hide hla
  clear hst hl hb hla hw7 hv7 hg7 Hst6 Hl6 x0 x1 x2 x3 x4 x5 x6 x7 x8 x9 x10 x11 x12 p0 p1 p2 p3 p4 p5
  have Hla7 := hide ((Hla6.out.below HLt7.out).more HLt7.out.size)
  clear Hla6
  obtain ⟨x0, x1, x2, x3, x4, x5, x6, x7, x8, x9, x10, x11, x12⟩ := Hst7.out.r.rules
  obtain ⟨p0, p1, p2, p3, p4, p5⟩ := Hst7.out.p.pos6
  obtain ⟨q0, q1, q2, q3, q4, q5⟩ := Hbs.out.pos6
  go_upto_region 14 with (go_at_call 6; refine (HmmS.out _ Hst7.out.later).mono ?_; rintro e w8 ⟨A8, c8, rfl, hc8, hw8⟩)
  have Hst8 := hide (Hst7.out.later_ hw8)
  have Hl8 := hide ((Hl7.out.below hw8).more hw8.size)
  have Hla8 := hide ((Hla7.out.below hw8).more hw8.size)
  have Hlb8 := hide hc8
  have Hbs8 := hide (hw8.blk Hbs.out)
  clear hw8 hc8 Hst7 Hl7 Hla7 Hbs HmmS q0 q1 q2 q3 q4 q5 x0 x1 x2 x3 x4 x5 x6 x7 x8 x9 x10 x11 x12 p0 p1 p2 p3 p4 p5
  obtain ⟨x0, x1, x2, x3, x4, x5, x6, x7, x8, x9, x10, x11, x12⟩ := Hst8.out.r.rules
  obtain ⟨p0, p1, p2, p3, p4, p5⟩ := Hst8.out.p.pos6
  obtain ⟨q0, q1, q2, q3, q4, q5⟩ := Hbs8.out.pos6
  go_upto_region 17 with (go_at_call 7; refine (HmoS.out _ Hst8.out.later).mono ?_; rintro e w9 ⟨rfl, hw9⟩)
  have Hst9 := hide (Hst8.out.later_ hw9)
  have Hl9 := hide ((Hl8.out.below hw9).more hw9.size)
  have Hla9 := hide ((Hla8.out.below hw9).more hw9.size)
  have Hlb9 := hide ((Hlb8.out.below hw9).more hw9.size)
  clear hw9 Hst8 Hl8 Hla8 Hlb8 Hbs8 HmoS te te2 teo q0 q1 q2 q3 q4 q5 x0 x1 x2 x3 x4 x5 x6 x7 x8 x9 x10 x11 x12 p0 p1 p2 p3 p4 p5
  have hy0 : ∀ b, decide (ov = 1 ∨ ov = 2) = b → swI true ov = if b then 3 - ov else ov := by
    intro b hb; subst hb; unfold swI; by_cases h : ov = 1 ∨ ov = 2 <;> simp [h]
  have Hy := hide hy0
  clear hy0
  obtain ⟨b, hb⟩ : ∃ b, decide (ov = 1 ∨ ov = 2) = b := ⟨_, rfl⟩
  have Hyb := hide (Hy.out b hb)
  have Hb := hide hb
  clear Hy hb
  obtain ⟨y, hy⟩ : ∃ y, swI true ov = y := ⟨_, rfl⟩
  rw [hy] at Hyb ⊢
  clear hy
  skip
  go_cut [125] from 120 to 125 (fun bv w' => bv = .bool b ∧ w' = w9)
  case first =>
    by_cases h1 : ov = 1
    · have t1 : (ov == 1) = true := by simp [h1]
      have Hb1 := hide (show b = true by rw [← Hb.out]; simp [h1])
      clear h1
      go_wp2_with fail
      go_meet
      case rel => exact ⟨by rw [Hb1.out] <;> rfl, rfl⟩
    · have t1 : (ov == 1) = false := by simp [h1]
      by_cases h2 : ov = 2
      · have t2 : (ov == 2) = true := by simp [h2]
        have Hb1 := hide (show b = true by rw [← Hb.out]; simp [h2])
        clear h1 h2
        go_wp2_with fail
        go_meet
        case rel => exact ⟨by rw [Hb1.out] <;> rfl, rfl⟩
      · have t2 : (ov == 2) = false := by simp [h2]
        have Hb1 := hide (show b = false by rw [← Hb.out]; simp [h1, h2])
        clear h1 h2
        go_wp2_with fail
        go_meet
        case rel => exact ⟨by rw [Hb1.out] <;> rfl, rfl⟩
  case rest =>
    obtain ⟨rfl, rfl⟩ := hcut
    go_upto_if 125 with (fail)
    go_cut [7] from 126 to 127 (fun yv w' => yv = .int .i64 y ∧ w' = wc)
    case first =>
      cases b
      · have Hy2 := hide (show y = ov from Hyb.out.trans (by simp))
        go_wp2_with fail
        go_meet
        case rel => exact ⟨by rw [Hy2.out] <;> rfl, rfl⟩
      · have Hy2 := hide (show y = 3 - ov from Hyb.out.trans (by simp))
        go_wp2_with fail
        go_meet
        case rel => exact ⟨by rw [Hy2.out] <;> go_num, rfl⟩
    case rest =>
      obtain ⟨rfl, rfl⟩ := hcut
      rename World => w9
      clear Hyb Hb ho
      go_wp2_with fail
      go_loopw [130] (fun kv wr => ∃ k : Nat, k ≤ L.length ∧ kv = .int .i64 (k : Int) ∧ Later w9 wr) (fun kv _ => L.length - (intOf kv).toNat)
      case atStart => exact ⟨0, by omega, rfl, Later.rfl⟩
      case round =>
        rename World => wr
        obtain ⟨k, hk, rfl, hw⟩ := hrel
        have Hstr := hide (Hst9.out.later_ hw)
        have Hlr := hide ((Hl9.out.below hw).more hw.size)
        have Hlar := hide ((Hla9.out.below hw).more hw.size)
        have Hlbr := hide ((Hlb9.out.below hw).more hw.size)
        have Hwr := hide hw
        clear hw
        by_cases hlt : k < L.length
        · have t1 : decide ((k : Int) < (L.length : Int)) = true := by simp; omega
          have t1n : decide (k < L.length) = true := by simp; omega
          obtain ⟨bm, om, rfl, hbm, y0, y1, y2⟩ := mv_at Hlr.out hlt
          have hk1 : (0 : Int) ≤ (k : Int) := by omega
          have hk2 : (k : Int) < (L.length : Int) := by omega
          have hm := List.getElem_mem hlt
          obtain ⟨m, hmm⟩ : ∃ m, L[k] = m := ⟨_, rfl⟩
          rw [hmm] at y0 y1 y2 hm
          obtain ⟨hf, ht, hs⟩ := Hc.out m hm
          have ha := HA.out m hm
          have hb := HB.out m hm
          rw [← hs true false] at ha
          rw [← hs false true] at hb
          have Hmir := hide (fun w => mirrored_any p m w Hp.out hf ht)
          have HupF := hide (fun w (hb : Blk w (W.heap.size + 1) 24 #[.int .i64 p.w, .int .i64 p.h, .string p.cells, .int .i64 p.turn, .string p.h0, .string p.h1]) => up_any m.f p (W.heap.size + 1) w Hp.out hf hb)
          have HupT := hide (fun w (hb : Blk w (W.heap.size + 1) 24 #[.int .i64 p.w, .int .i64 p.h, .string p.cells, .int .i64 p.turn, .string p.h0, .string p.h1]) => up_any m.t p (W.heap.size + 1) w Hp.out ht hb)
          have hda := decide_eq_true ha
          have hdb := decide_eq_true hb
          have HinA := hide (fun w (hw : Later w9 w) => in_any A5 c5 La ⟨mirV true false p m.f, mirV true false p m.t, m.c⟩ w (by rw [Hla.out]; omega) ((Hla9.out.below hw).more hw.size))
          have HinB := hide (fun w (hw : Later w9 w) => in_any A8 c8 Lb ⟨mirV false true p m.f, mirV false true p m.t, m.c⟩ w (by rw [Hlb.out]; omega) ((Hlb9.out.below hw).more hw.size))
          simp only [hda] at HinA
          simp only [hdb] at HinB
          have HS22 := hide (show ∀ w' : World, Later wr w' → (w'.cell? ⟨W.heap.size + 1, 0, none⟩ = some (.int .i64 p.w) ∧ w'.cell? ⟨W.heap.size + 1, 1, none⟩ = some (.int .i64 p.h) ∧ w'.cell? ⟨W.heap.size + 1, 2, none⟩ = some (.string p.cells) ∧ w'.cell? ⟨W.heap.size + 1, 3, none⟩ = some (.int .i64 p.turn) ∧ w'.cell? ⟨W.heap.size + 1, 4, none⟩ = some (.string p.h0) ∧ w'.cell? ⟨W.heap.size + 1, 5, none⟩ = some (.string p.h1) ∧ w'.cell? ⟨bm, om + k * 3, none⟩ = some (.int .i64 m.f) ∧ w'.cell? ⟨bm, om + k * 3 + 1, none⟩ = some (.int .i64 m.t) ∧ w'.cell? ⟨bm, om + k * 3 + 2, none⟩ = some (.int .u8 m.c)) from fun w' hw => by
            obtain ⟨p0, p1, p2, p3, p4, p5⟩ := (hw.blk Hstr.out.p).pos6
            obtain ⟨b', o', hbb, -, z0, z1, z2⟩ := mv_at ((Hlr.out.below hw).more hw.size) hlt
            injection hbb with hbb
            injection hbb with hbb1 hbb2
            subst hbb1
            subst hbb2
            rw [hmm] at z0 z1 z2
            exact ⟨p0, p1, p2, p3, p4, p5, z0, z1, z2⟩)
          obtain ⟨mf, hmf⟩ : ∃ x, mirV true false p m.f = x := ⟨_, rfl⟩
          obtain ⟨mt, hmt⟩ : ∃ x, mirV true false p m.t = x := ⟨_, rfl⟩
          obtain ⟨uf, huf⟩ : ∃ x, mirV false true p m.f = x := ⟨_, rfl⟩
          obtain ⟨ut, hut⟩ : ∃ x, mirV false true p m.t = x := ⟨_, rfl⟩
          simp only [hmf, hmt] at Hmir HinA
          simp only [huf, hut] at HupF HupT HinB
          clear hmf hmt huf hut hda hdb ha hb hs hf ht hm hmm y0 y1 y2
          go_upto_region 22 with (fail)
          go_cut [17] from 131 to 164 (fun mv w' => ∃ gm, mv = .pointer (some ⟨gm, 0, none⟩) ∧ Blk w' gm 39 #[.int .i64 mf, .int .i64 mt, .int .u8 m.c] ∧ Later wr w')
          case first =>
            refine wp_region_held_drew (S := fun w' : World => (w'.cell? ⟨W.heap.size + 1, 0, none⟩ = some (.int .i64 p.w) ∧ w'.cell? ⟨W.heap.size + 1, 1, none⟩ = some (.int .i64 p.h) ∧ w'.cell? ⟨W.heap.size + 1, 2, none⟩ = some (.string p.cells) ∧ w'.cell? ⟨W.heap.size + 1, 3, none⟩ = some (.int .i64 p.turn) ∧ w'.cell? ⟨W.heap.size + 1, 4, none⟩ = some (.string p.h0) ∧ w'.cell? ⟨W.heap.size + 1, 5, none⟩ = some (.string p.h1) ∧ w'.cell? ⟨bm, om + k * 3, none⟩ = some (.int .i64 m.f) ∧ w'.cell? ⟨bm, om + k * 3 + 1, none⟩ = some (.int .i64 m.t) ∧ w'.cell? ⟨bm, om + k * 3 + 2, none⟩ = some (.int .u8 m.c))) (by kernel_rfl) (HS22.out _ Later.rfl.drew) (fun hHeld => ?_)
            refine wpAnyH_take (i := 0) (oi := ⟨some 133, _, _, _, _, _⟩) (v := ?_) rfl (by kernel_rfl) (by kernel_rfl) (by kernel_rfl) (fun _ _ _ h => h) (Or.inl ⟨by rfl, ?_⟩) (by assumption) ?_
            rotate_left 1
            · intro w hSw
              try dsimp only at hSw
              go_simp <;> with_reducible rfl
            try simp only [Act.put, List.setIfInBounds_toArray, List.set_cons_zero, List.set_cons_succ]
            refine wpAnyH_take (i := 1) (oi := ⟨some 134, _, _, _, _, _⟩) (v := ?_) rfl (by kernel_rfl) (by kernel_rfl) (by kernel_rfl) (fun _ _ _ h => h) (Or.inl ⟨by rfl, ?_⟩) (by assumption) ?_
            rotate_left 1
            · intro w hSw
              try dsimp only at hSw
              go_simp <;> with_reducible rfl
            try simp only [Act.put, List.setIfInBounds_toArray, List.set_cons_zero, List.set_cons_succ]
            refine wpAnyH_take (i := 2) (oi := ⟨some 135, _, _, _, _, _⟩) (v := ?_) rfl (by kernel_rfl) (by kernel_rfl) (by kernel_rfl) (fun _ _ _ h => h) (Or.inl ⟨by rfl, ?_⟩) (by assumption) ?_
            rotate_left 1
            · intro w hSw
              try dsimp only at hSw
              go_simp <;> with_reducible rfl
            try simp only [Act.put, List.setIfInBounds_toArray, List.set_cons_zero, List.set_cons_succ]
            refine wpAnyH_take (i := 3) (oi := ⟨some 136, _, _, _, _, _⟩) (v := ?_) rfl (by kernel_rfl) (by kernel_rfl) (by kernel_rfl) (fun _ _ _ h => h) (Or.inl ⟨by rfl, ?_⟩) (by assumption) ?_
            rotate_left 1
            · intro w hSw
              try dsimp only at hSw
              go_simp <;> with_reducible rfl
            try simp only [Act.put, List.setIfInBounds_toArray, List.set_cons_zero, List.set_cons_succ]
            refine wpAnyH_take (i := 4) (oi := ⟨some 137, _, _, _, _, _⟩) (v := ?_) rfl (by kernel_rfl) (by kernel_rfl) (by kernel_rfl) (fun _ _ _ h => h) (Or.inl ⟨by rfl, ?_⟩) (by assumption) ?_
            rotate_left 1
            · intro w hSw
              try dsimp only at hSw
              go_simp <;> with_reducible rfl
            try simp only [Act.put, List.setIfInBounds_toArray, List.set_cons_zero, List.set_cons_succ]
            refine wpAnyH_ready (rs := [5, 6]) (by kernel_rfl) (by simp) ?_
            refine AllReadyH.cons (o := ⟨some 138, _, _, _, _, _⟩) rfl (fun K hK => ?_) ?_
            · clear hHeld
              go_simp
              go_at_call 10
              refine (Hmir.out _).mono ?_
              rintro e wq ⟨rfl, hwx⟩
              have hwq : Later wr wq := Later.trans (by repeat (first | exact Later.rfl | refine Later.drew ?_ | refine Later.alloc ?_ _)) hwx
              try go_wp2_with fail
              refine hK.out _ _ (by refine HS22.out _ ?_; repeat (first | exact Later.rfl | exact hwq | refine Later.drew ?_ | refine Later.alloc ?_ _ | refine later_setrow ?_ (by first | exact Nat.le_refl _ | exact hwq.size))) (fun hHeld => ?_)
              clear hK K
              try simp only [Act.put, List.setIfInBounds_toArray, List.set_cons_zero, List.set_cons_succ]
              refine wpAnyH_ready (rs := [6]) (by kernel_rfl) (by simp) ?_
              refine AllReadyH.cons (o := ⟨some 17, _, _, _, _, _⟩) rfl (fun K hK => ?_) ?_
              · clear hHeld
                go_simp
                refine hK.out _ _ (by refine HS22.out _ ?_; repeat (first | exact Later.rfl | exact hwq | refine Later.drew ?_ | refine Later.alloc ?_ _ | refine later_setrow ?_ (by first | exact Nat.le_refl _ | exact hwq.size))) (fun hHeld => ?_)
                clear hK K
                try simp only [Act.put, List.setIfInBounds_toArray, List.set_cons_zero, List.set_cons_succ]
                refine wpAnyH_ready (rs := [7]) (by kernel_rfl) (by simp) ?_
                refine AllReadyH.cons (o := ⟨none, _, _, _, _, _⟩) rfl (fun K hK => ?_) ?_
                · clear hHeld
                  rw [if_pos (by rfl)]
                  refine wp_store_row 39 (.tmp 17) (.tmp 138) rfl _ #[.int .i64 mf, .int .i64 mt, .int .u8 m.c] rfl rfl 39 _ (by first | exact hwx.blk ((Blk.new wr 39 #[.int .i64 0, .int .i64 0, .int .u8 0]).drewN 1) | exact hwx.blk (Blk.new _ 39 #[.int .i64 0, .int .i64 0, .int .u8 0]) | exact Blk.new _ _ _) (by kernel_rfl) (by simp) (by simp [Value.oneCell']) ?_
                  refine hK.out _ _ (by refine HS22.out _ ?_; repeat (first | exact Later.rfl | exact hwq | refine Later.drew ?_ | refine Later.alloc ?_ _ | refine later_setrow ?_ (by first | exact Nat.le_refl _ | exact hwq.size))) (fun hHeld => ?_)
                  clear hK K
                  try simp only [Act.put]
                  refine wpAnyH_done (by kernel_rfl) ?_ _
                  go_wp2_with fail
                  go_meet
                  case rel => exact ⟨_, rfl, setRow_blk4 (by first | exact hwx.blk ((Blk.new wr 39 #[.int .i64 0, .int .i64 0, .int .u8 0]).drewN 1) | exact hwx.blk (Blk.new _ 39 #[.int .i64 0, .int .i64 0, .int .u8 0]) | exact Blk.new _ _ _), by repeat (first | exact Later.rfl | exact hwq | refine Later.drew ?_ | refine Later.alloc ?_ _ | refine later_setrow ?_ (by first | exact Nat.le_refl _ | exact hwq.size))⟩
                exact AllReadyH.nil
              exact AllReadyH.nil
            refine AllReadyH.cons (o := ⟨some 17, _, _, _, _, _⟩) rfl (fun K hK => ?_) ?_
            · clear hHeld
              go_simp
              refine hK.out _ _ (by refine HS22.out _ ?_; repeat (first | exact Later.rfl | exact hwq | refine Later.drew ?_ | refine Later.alloc ?_ _ | refine later_setrow ?_ (by first | exact Nat.le_refl _ | exact hwq.size))) (fun hHeld => ?_)
              clear hK K
              try simp only [Act.put, List.setIfInBounds_toArray, List.set_cons_zero, List.set_cons_succ]
              refine wpAnyH_ready (rs := [5]) (by kernel_rfl) (by simp) ?_
              refine AllReadyH.cons (o := ⟨some 138, _, _, _, _, _⟩) rfl (fun K hK => ?_) ?_
              · clear hHeld
                go_simp
                go_at_call 10
                refine (Hmir.out _).mono ?_
                rintro e wq ⟨rfl, hwx⟩
                have hwq : Later wr wq := Later.trans (by repeat (first | exact Later.rfl | refine Later.drew ?_ | refine Later.alloc ?_ _)) hwx
                try go_wp2_with fail
                refine hK.out _ _ (by refine HS22.out _ ?_; repeat (first | exact Later.rfl | exact hwq | refine Later.drew ?_ | refine Later.alloc ?_ _ | refine later_setrow ?_ (by first | exact Nat.le_refl _ | exact hwq.size))) (fun hHeld => ?_)
                clear hK K
                try simp only [Act.put, List.setIfInBounds_toArray, List.set_cons_zero, List.set_cons_succ]
                refine wpAnyH_ready (rs := [7]) (by kernel_rfl) (by simp) ?_
                refine AllReadyH.cons (o := ⟨none, _, _, _, _, _⟩) rfl (fun K hK => ?_) ?_
                · clear hHeld
                  rw [if_pos (by rfl)]
                  refine wp_store_row 39 (.tmp 17) (.tmp 138) rfl _ #[.int .i64 mf, .int .i64 mt, .int .u8 m.c] rfl rfl 39 _ (by first | exact hwx.blk ((Blk.new wr 39 #[.int .i64 0, .int .i64 0, .int .u8 0]).drewN 1) | exact hwx.blk (Blk.new _ 39 #[.int .i64 0, .int .i64 0, .int .u8 0]) | exact Blk.new _ _ _) (by kernel_rfl) (by simp) (by simp [Value.oneCell']) ?_
                  refine hK.out _ _ (by refine HS22.out _ ?_; repeat (first | exact Later.rfl | exact hwq | refine Later.drew ?_ | refine Later.alloc ?_ _ | refine later_setrow ?_ (by first | exact Nat.le_refl _ | exact hwq.size))) (fun hHeld => ?_)
                  clear hK K
                  try simp only [Act.put]
                  refine wpAnyH_done (by kernel_rfl) ?_ _
                  go_wp2_with fail
                  go_meet
                  case rel => exact ⟨_, rfl, setRow_blk4 (by first | exact hwx.blk ((Blk.new wr 39 #[.int .i64 0, .int .i64 0, .int .u8 0]).drewN 1) | exact hwx.blk (Blk.new _ 39 #[.int .i64 0, .int .i64 0, .int .u8 0]) | exact Blk.new _ _ _), by repeat (first | exact Later.rfl | exact hwq | refine Later.drew ?_ | refine Later.alloc ?_ _ | refine later_setrow ?_ (by first | exact Nat.le_refl _ | exact hwq.size))⟩
                exact AllReadyH.nil
              exact AllReadyH.nil
            exact AllReadyH.nil
          case rest =>
            obtain ⟨gm, rfl, hbm6, hl6⟩ := hcut
            rename World => w6
            have Hm6 := hide hbm6
            have Hl6 := hide hl6
            clear hbm6 hl6
            obtain ⟨p0, p1, p2, p3, p4, p5, z0, z1, z2⟩ := HS22.out _ Hl6.out
            go_upto_region 24 with (fail)
            have hn := Blk.new w6 39 #[.int .i64 m.f, .int .i64 m.t, .int .u8 m.c]
            have hl7 := hide (show Later w6 (w6.alloc (.cells #[.int .i64 m.f, .int .i64 m.t, .int .u8 m.c] 39)) from Later.rfl.alloc _)
            obtain ⟨gn, hgn⟩ : ∃ g, w6.heap.size = g := ⟨_, rfl⟩
            obtain ⟨w7, hw7⟩ : ∃ v, w6.alloc (.cells #[.int .i64 m.f, .int .i64 m.t, .int .u8 m.c] 39) = v := ⟨_, rfl⟩
            rw [hw7] at hn hl7 ⊢
            rw [hgn] at hn ⊢
            have Hn := hide hn
            have hgn2 : w6.heap.size ≤ gn := by omega
            have Hgn := hide hgn2
            have Hm7 := hide (hl7.out.blk Hm6.out)
            have Hp7 := hide (hl7.out.blk (Hl6.out.blk Hstr.out.p))
            have Hl7 := hl7
            clear hn hl7 hw7 hgn hgn2 z0 z1 z2 p0 p1 p2 p3 p4 p5
            go_upto_region 25 with (fail)
            go_cut [] from 131 to 164 (fun w' => Blk w' gn 39 #[.int .i64 uf, .int .i64 ut, .int .u8 m.c] ∧ Later w6 w')
            case first =>
              obtain ⟨⟨n0, n1, n2⟩, -⟩ := Hn.out.mv
              have n3 := Hn.out.free 0
              have n4 := Hn.out.free 1
              skip
              refine wp_region_held_drew (S := fun _ : World => True) (by kernel_rfl) (trivial) (fun hHeld => ?_)
              refine wpAnyH_take (i := 0) (oi := ⟨some 144, _, _, _, _, _⟩) (v := ?_) rfl (by kernel_rfl) (by kernel_rfl) (by kernel_rfl) (fun _ _ _ h => h) (Or.inl ⟨by rfl, ?_⟩) (by assumption) ?_
              rotate_left 1
              · intro w hSw
                try dsimp only at hSw
                go_simp <;> with_reducible rfl
              try simp only [Act.put, List.setIfInBounds_toArray, List.set_cons_zero, List.set_cons_succ]
              refine wpAnyH_take (i := 1) (oi := ⟨some 145, _, _, _, _, _⟩) (v := ?_) rfl (by kernel_rfl) (by kernel_rfl) (by kernel_rfl) (fun _ _ _ h => h) (Or.inl ⟨by rfl, ?_⟩) (by assumption) ?_
              rotate_left 1
              · intro w hSw
                try dsimp only at hSw
                go_simp <;> with_reducible rfl
              try simp only [Act.put, List.setIfInBounds_toArray, List.set_cons_zero, List.set_cons_succ]
              refine wpAnyH_take (i := 4) (oi := ⟨some 148, _, _, _, _, _⟩) (v := ?_) rfl (by kernel_rfl) (by kernel_rfl) (by kernel_rfl) (fun _ _ _ h => h) (Or.inl ⟨by rfl, ?_⟩) (by assumption) ?_
              rotate_left 1
              · intro w hSw
                try dsimp only at hSw
                go_simp <;> with_reducible rfl
              try simp only [Act.put, List.setIfInBounds_toArray, List.set_cons_zero, List.set_cons_succ]
              refine wpAnyH_take (i := 5) (oi := ⟨some 149, _, _, _, _, _⟩) (v := ?_) rfl (by kernel_rfl) (by kernel_rfl) (by kernel_rfl) (fun _ _ _ h => h) (Or.inl ⟨by rfl, ?_⟩) (by assumption) ?_
              rotate_left 1
              · intro w hSw
                try dsimp only at hSw
                go_simp <;> with_reducible rfl
              try simp only [Act.put, List.setIfInBounds_toArray, List.set_cons_zero, List.set_cons_succ]
              refine wpAnyH_ready (rs := [2, 6]) (by kernel_rfl) (by simp) ?_
              refine AllReadyH.cons (o := ⟨some 146, _, _, _, _, _⟩) rfl (fun K hK => ?_) ?_
              · clear hHeld
                go_simp
                refine hK.out _ _ (by trivial) (fun hHeld => ?_)
                clear hK K
                try simp only [Act.put, List.setIfInBounds_toArray, List.set_cons_zero, List.set_cons_succ]
                refine wpAnyH_ready (rs := [3, 6]) (by kernel_rfl) (by simp) ?_
                refine AllReadyH.cons (o := ⟨some 147, _, _, _, _, _⟩) rfl (fun K hK => ?_) ?_
                · clear hHeld
                  go_simp
                  go_at_call 11
                  refine (HupF.out _ (Hp7.out.drew)).mono ?_
                  rintro e wq ⟨rfl, hwx⟩
                  have HwT := hide (show Later w7 wq from Later.trans (Later.rfl.drew) hwx)
                  obtain ⟨⟨n0, n1, n2⟩, -⟩ := (HwT.out.blk Hn.out).mv; have n3 := (HwT.out.blk Hn.out).free 0; have n4 := (HwT.out.blk Hn.out).free 1
                  clear hwx
                  try go_wp2_with fail
                  refine hK.out _ _ (by trivial) (fun hHeld => ?_)
                  clear hK K
                  try simp only [Act.put, List.setIfInBounds_toArray, List.set_cons_zero, List.set_cons_succ]
                  refine wpAnyH_ready (rs := [6]) (by kernel_rfl) (by simp) ?_
                  refine AllReadyH.cons (o := ⟨some 150, _, _, _, _, _⟩) rfl (fun K hK => ?_) ?_
                  · clear hHeld
                    go_simp
                    refine hK.out _ _ (by trivial) (fun hHeld => ?_)
                    clear hK K
                    try simp only [Act.put, List.setIfInBounds_toArray, List.set_cons_zero, List.set_cons_succ]
                    refine wpAnyH_take (i := 8) (oi := ⟨some 152, _, _, _, _, _⟩) (v := ?_) rfl (by kernel_rfl) (by kernel_rfl) (by kernel_rfl) (fun _ _ _ h => h) (Or.inl ⟨by rfl, ?_⟩) (by assumption) ?_
                    rotate_left 1
                    · intro w hSw
                      try dsimp only at hSw
                      go_simp <;> with_reducible rfl
                    try simp only [Act.put, List.setIfInBounds_toArray, List.set_cons_zero, List.set_cons_succ]
                    refine wpAnyH_ready (rs := [7]) (by kernel_rfl) (by simp) ?_
                    refine AllReadyH.cons (o := ⟨some 151, _, _, _, _, _⟩) rfl (fun K hK => ?_) ?_
                    · clear hHeld
                      go_simp
                      go_at_call 11
                      refine (HupT.out _ (HwT.out.blk Hp7.out)).mono ?_
                      rintro e wt ⟨rfl, hwx⟩
                      have HwT := hide (Later.trans HwT.out hwx)
                      obtain ⟨⟨n0, n1, n2⟩, -⟩ := (HwT.out.blk Hn.out).mv; have n3 := (HwT.out.blk Hn.out).free 0; have n4 := (HwT.out.blk Hn.out).free 1
                      clear hwx
                      try go_wp2_with fail
                      refine hK.out _ _ (by trivial) (fun hHeld => ?_)
                      clear hK K
                      try simp only [Act.put, List.setIfInBounds_toArray, List.set_cons_zero, List.set_cons_succ]
                      refine wpAnyH_ready (rs := [9]) (by kernel_rfl) (by simp) ?_
                      refine AllReadyH.cons (o := ⟨none, _, _, _, _, _⟩) rfl (fun K hK => ?_) ?_
                      · clear hHeld
                        go_simp
                        refine hK.out _ _ (by trivial) (fun hHeld => ?_)
                        clear hK K
                        try simp only [Act.put]
                        refine wpAnyH_take (i := 10) (oi := ⟨some 153, _, _, _, _, _⟩) (v := ?_) rfl (by kernel_rfl) (by kernel_rfl) (by kernel_rfl) (fun _ _ _ h => h) (Or.inl ⟨by rfl, ?_⟩) (by assumption) ?_
                        rotate_left 1
                        · intro w hSw
                          try dsimp only at hSw
                          go_simp <;> with_reducible rfl
                        try simp only [Act.put, List.setIfInBounds_toArray, List.set_cons_zero, List.set_cons_succ]
                        refine wpAnyH_ready (rs := [11]) (by kernel_rfl) (by simp) ?_
                        refine AllReadyH.cons (o := ⟨none, _, _, _, _, _⟩) rfl (fun K hK => ?_) ?_
                        · clear hHeld
                          go_simp
                          refine hK.out _ _ (by trivial) (fun hHeld => ?_)
                          clear hK K
                          try simp only [Act.put]
                          refine wpAnyH_done (by kernel_rfl) ?_ _
                          go_wp2_with fail
                          go_meet
                          case rel => exact ⟨((HwT.out.blk Hn.out).set_ 0 _).set_ 1 _, ((Later.trans Hl7.out HwT.out).setCell Hgn.out _).setCell Hgn.out _⟩
                        exact AllReadyH.nil
                      exact AllReadyH.nil
                    exact AllReadyH.nil
                  exact AllReadyH.nil
                refine AllReadyH.cons (o := ⟨some 150, _, _, _, _, _⟩) rfl (fun K hK => ?_) ?_
                · clear hHeld
                  go_simp
                  refine hK.out _ _ (by trivial) (fun hHeld => ?_)
                  clear hK K
                  try simp only [Act.put, List.setIfInBounds_toArray, List.set_cons_zero, List.set_cons_succ]
                  refine wpAnyH_ready (rs := [3]) (by kernel_rfl) (by simp) ?_
                  refine AllReadyH.cons (o := ⟨some 147, _, _, _, _, _⟩) rfl (fun K hK => ?_) ?_
                  · clear hHeld
                    go_simp
                    go_at_call 11
                    refine (HupF.out _ (Hp7.out.drew)).mono ?_
                    rintro e wq ⟨rfl, hwx⟩
                    have HwT := hide (show Later w7 wq from Later.trans (Later.rfl.drew) hwx)
                    obtain ⟨⟨n0, n1, n2⟩, -⟩ := (HwT.out.blk Hn.out).mv; have n3 := (HwT.out.blk Hn.out).free 0; have n4 := (HwT.out.blk Hn.out).free 1
                    clear hwx
                    try go_wp2_with fail
                    refine hK.out _ _ (by trivial) (fun hHeld => ?_)
                    clear hK K
                    try simp only [Act.put, List.setIfInBounds_toArray, List.set_cons_zero, List.set_cons_succ]
                    refine wpAnyH_take (i := 8) (oi := ⟨some 152, _, _, _, _, _⟩) (v := ?_) rfl (by kernel_rfl) (by kernel_rfl) (by kernel_rfl) (fun _ _ _ h => h) (Or.inl ⟨by rfl, ?_⟩) (by assumption) ?_
                    rotate_left 1
                    · intro w hSw
                      try dsimp only at hSw
                      go_simp <;> with_reducible rfl
                    try simp only [Act.put, List.setIfInBounds_toArray, List.set_cons_zero, List.set_cons_succ]
                    refine wpAnyH_ready (rs := [7]) (by kernel_rfl) (by simp) ?_
                    refine AllReadyH.cons (o := ⟨some 151, _, _, _, _, _⟩) rfl (fun K hK => ?_) ?_
                    · clear hHeld
                      go_simp
                      go_at_call 11
                      refine (HupT.out _ (HwT.out.blk Hp7.out)).mono ?_
                      rintro e wt ⟨rfl, hwx⟩
                      have HwT := hide (Later.trans HwT.out hwx)
                      obtain ⟨⟨n0, n1, n2⟩, -⟩ := (HwT.out.blk Hn.out).mv; have n3 := (HwT.out.blk Hn.out).free 0; have n4 := (HwT.out.blk Hn.out).free 1
                      clear hwx
                      try go_wp2_with fail
                      refine hK.out _ _ (by trivial) (fun hHeld => ?_)
                      clear hK K
                      try simp only [Act.put, List.setIfInBounds_toArray, List.set_cons_zero, List.set_cons_succ]
                      refine wpAnyH_ready (rs := [9]) (by kernel_rfl) (by simp) ?_
                      refine AllReadyH.cons (o := ⟨none, _, _, _, _, _⟩) rfl (fun K hK => ?_) ?_
                      · clear hHeld
                        go_simp
                        refine hK.out _ _ (by trivial) (fun hHeld => ?_)
                        clear hK K
                        try simp only [Act.put]
                        refine wpAnyH_take (i := 10) (oi := ⟨some 153, _, _, _, _, _⟩) (v := ?_) rfl (by kernel_rfl) (by kernel_rfl) (by kernel_rfl) (fun _ _ _ h => h) (Or.inl ⟨by rfl, ?_⟩) (by assumption) ?_
                        rotate_left 1
                        · intro w hSw
                          try dsimp only at hSw
                          go_simp <;> with_reducible rfl
                        try simp only [Act.put, List.setIfInBounds_toArray, List.set_cons_zero, List.set_cons_succ]
                        refine wpAnyH_ready (rs := [11]) (by kernel_rfl) (by simp) ?_
                        refine AllReadyH.cons (o := ⟨none, _, _, _, _, _⟩) rfl (fun K hK => ?_) ?_
                        · clear hHeld
                          go_simp
                          refine hK.out _ _ (by trivial) (fun hHeld => ?_)
                          clear hK K
                          try simp only [Act.put]
                          refine wpAnyH_done (by kernel_rfl) ?_ _
                          go_wp2_with fail
                          go_meet
                          case rel => exact ⟨((HwT.out.blk Hn.out).set_ 0 _).set_ 1 _, ((Later.trans Hl7.out HwT.out).setCell Hgn.out _).setCell Hgn.out _⟩
                        exact AllReadyH.nil
                      exact AllReadyH.nil
                    exact AllReadyH.nil
                  exact AllReadyH.nil
                exact AllReadyH.nil
              refine AllReadyH.cons (o := ⟨some 150, _, _, _, _, _⟩) rfl (fun K hK => ?_) ?_
              · clear hHeld
                go_simp
                refine hK.out _ _ (by trivial) (fun hHeld => ?_)
                clear hK K
                try simp only [Act.put, List.setIfInBounds_toArray, List.set_cons_zero, List.set_cons_succ]
                refine wpAnyH_ready (rs := [2]) (by kernel_rfl) (by simp) ?_
                refine AllReadyH.cons (o := ⟨some 146, _, _, _, _, _⟩) rfl (fun K hK => ?_) ?_
                · clear hHeld
                  go_simp
                  refine hK.out _ _ (by trivial) (fun hHeld => ?_)
                  clear hK K
                  try simp only [Act.put, List.setIfInBounds_toArray, List.set_cons_zero, List.set_cons_succ]
                  refine wpAnyH_ready (rs := [3]) (by kernel_rfl) (by simp) ?_
                  refine AllReadyH.cons (o := ⟨some 147, _, _, _, _, _⟩) rfl (fun K hK => ?_) ?_
                  · clear hHeld
                    go_simp
                    go_at_call 11
                    refine (HupF.out _ (Hp7.out.drew)).mono ?_
                    rintro e wq ⟨rfl, hwx⟩
                    have HwT := hide (show Later w7 wq from Later.trans (Later.rfl.drew) hwx)
                    obtain ⟨⟨n0, n1, n2⟩, -⟩ := (HwT.out.blk Hn.out).mv; have n3 := (HwT.out.blk Hn.out).free 0; have n4 := (HwT.out.blk Hn.out).free 1
                    clear hwx
                    try go_wp2_with fail
                    refine hK.out _ _ (by trivial) (fun hHeld => ?_)
                    clear hK K
                    try simp only [Act.put, List.setIfInBounds_toArray, List.set_cons_zero, List.set_cons_succ]
                    refine wpAnyH_take (i := 8) (oi := ⟨some 152, _, _, _, _, _⟩) (v := ?_) rfl (by kernel_rfl) (by kernel_rfl) (by kernel_rfl) (fun _ _ _ h => h) (Or.inl ⟨by rfl, ?_⟩) (by assumption) ?_
                    rotate_left 1
                    · intro w hSw
                      try dsimp only at hSw
                      go_simp <;> with_reducible rfl
                    try simp only [Act.put, List.setIfInBounds_toArray, List.set_cons_zero, List.set_cons_succ]
                    refine wpAnyH_ready (rs := [7]) (by kernel_rfl) (by simp) ?_
                    refine AllReadyH.cons (o := ⟨some 151, _, _, _, _, _⟩) rfl (fun K hK => ?_) ?_
                    · clear hHeld
                      go_simp
                      go_at_call 11
                      refine (HupT.out _ (HwT.out.blk Hp7.out)).mono ?_
                      rintro e wt ⟨rfl, hwx⟩
                      have HwT := hide (Later.trans HwT.out hwx)
                      obtain ⟨⟨n0, n1, n2⟩, -⟩ := (HwT.out.blk Hn.out).mv; have n3 := (HwT.out.blk Hn.out).free 0; have n4 := (HwT.out.blk Hn.out).free 1
                      clear hwx
                      try go_wp2_with fail
                      refine hK.out _ _ (by trivial) (fun hHeld => ?_)
                      clear hK K
                      try simp only [Act.put, List.setIfInBounds_toArray, List.set_cons_zero, List.set_cons_succ]
                      refine wpAnyH_ready (rs := [9]) (by kernel_rfl) (by simp) ?_
                      refine AllReadyH.cons (o := ⟨none, _, _, _, _, _⟩) rfl (fun K hK => ?_) ?_
                      · clear hHeld
                        go_simp
                        refine hK.out _ _ (by trivial) (fun hHeld => ?_)
                        clear hK K
                        try simp only [Act.put]
                        refine wpAnyH_take (i := 10) (oi := ⟨some 153, _, _, _, _, _⟩) (v := ?_) rfl (by kernel_rfl) (by kernel_rfl) (by kernel_rfl) (fun _ _ _ h => h) (Or.inl ⟨by rfl, ?_⟩) (by assumption) ?_
                        rotate_left 1
                        · intro w hSw
                          try dsimp only at hSw
                          go_simp <;> with_reducible rfl
                        try simp only [Act.put, List.setIfInBounds_toArray, List.set_cons_zero, List.set_cons_succ]
                        refine wpAnyH_ready (rs := [11]) (by kernel_rfl) (by simp) ?_
                        refine AllReadyH.cons (o := ⟨none, _, _, _, _, _⟩) rfl (fun K hK => ?_) ?_
                        · clear hHeld
                          go_simp
                          refine hK.out _ _ (by trivial) (fun hHeld => ?_)
                          clear hK K
                          try simp only [Act.put]
                          refine wpAnyH_done (by kernel_rfl) ?_ _
                          go_wp2_with fail
                          go_meet
                          case rel => exact ⟨((HwT.out.blk Hn.out).set_ 0 _).set_ 1 _, ((Later.trans Hl7.out HwT.out).setCell Hgn.out _).setCell Hgn.out _⟩
                        exact AllReadyH.nil
                      exact AllReadyH.nil
                    exact AllReadyH.nil
                  exact AllReadyH.nil
                exact AllReadyH.nil
              exact AllReadyH.nil
            case rest =>
              obtain ⟨hbn, hl8⟩ := hcut
              rename World => w8
              have Hn8 := hide hbn
              have Hl8 := hide (Later.trans Hl6.out hl8)
              have Hm8 := hide (hl8.blk Hm6.out)
              clear hbn hl8 HupF HupT Hmir Hn Hm7 Hp7 Hl7
              obtain ⟨⟨m0, m1, m2⟩, -⟩ := Hm8.out.mv
              obtain ⟨⟨n0, n1, n2⟩, -⟩ := Hn8.out.mv
              go_wp2_with (first | (go_at_call 12; with_reducible refine (HinA.out _ (Hwr.out.trans Hl8.out)).mono ?_; rintro e wa ⟨rfl, hwa⟩; have Hwa := hide hwa; clear hwa n0 n1 n2 m0 m1 m2; obtain ⟨⟨n0, n1, n2⟩, -⟩ := (Hwa.out.blk Hn8.out).mv) | (go_at_call 12; with_reducible refine (HinB.out _ ((Hwr.out.trans Hl8.out).trans Hwa.out)).mono ?_; rintro e wb ⟨rfl, hwb⟩; have Hwb := hide hwb; clear hwb n0 n1 n2))
              go_roundw
              case rel => exact ⟨k + 1, by omega, by go_num, ((Hwr.out.trans Hl8.out).trans Hwa.out).trans Hwb.out⟩
              case measure => simp [intOf]; omega
        · obtain rfl : L.length = k := by omega
          have t1 : decide ((L.length : Int) < (L.length : Int)) = false := by simp
          have t1n : decide (L.length < L.length) = false := by simp
          have ty : (y == y) = true := by simp
          go_wp2_with fail
          go_ret
          exact ⟨rfl, Hstr.out.later⟩
theorem mi_any (r : RulesD) (A : Option Addr) (cp : Nat) (p : Pos) (W : World) (hf : RFit r) (hg : PFit p) (hP : PiecesAt W W.heap.size A r.pieces) :
    Calls Try.prog 3 #[.agg #[.int .i64 r.start.w, .int .i64 r.start.h, .string r.start.cells, .int .i64 r.start.turn, .string r.start.h0, .string r.start.h1, .slice A r.pieces.length cp, .bool r.drops, .int .u8 r.lose, .int .i64 r.line, .int .u8 r.reach, .bool r.stuck, .int .i64 r.plies], .agg #[.int .i64 p.w, .int .i64 p.h, .string p.cells, .int .i64 p.turn, .string p.h0, .string p.h1]] W fun e w' => e = .returned (.bool true) ∧ Later W w' := by
  by_cases hok : OfOk r p
  · exact mi_ok r A cp p W hf hP hok
  · exact mi_no r A cp p W hf hg hP hok
end Go.Proofs.Ytdfegpohmaideaa
/- Arguments opened into the words of Base. -/
namespace Go.Proofs.Ytdfegpohmaideaa
open Go.RowKit Go.ChangeShapes Go.WideShapes Go.Deep

theorem addr_of_cell {w : World} {a : Addr} {v : Value} (h : w.cell? a = some v) : a = ⟨a.block, a.off, none⟩ := by
  obtain ⟨b, o, s⟩ := a
  cases s with
  | none => rfl
  | some x =>
    unfold World.cell? at h
    split at h <;> simp at h

section
variable {H : Type} {enc : TypeId × Value → H} {P : Program} {w : World}

theorem cells_of {a : Addr} {xs : List Value} (h : ∀ k (hk : k < xs.length), w.cell? (a.add k) = some xs[k]) : Cells w w.heap.size (some a) xs := fun hn => by
  have h0 := h 0 hn
  have ha : a = ⟨a.block, a.off, none⟩ := by
    have := addr_of_cell h0
    simpa [Addr.add] using this
  refine ⟨a.block, a.off, by rw [← ha], ?_, fun k hk => ?_⟩
  · have := World.block_lt_of_cell? w _ h0
    simpa [Addr.add] using this
  · have h1 := h k hk
    rw [ha] at h1
    simp only [Addr.add_lit] at h1
    exact h1

theorem open_ints1 {t e : TypeId} (ht : P.underlying t = some (.slice e)) (he : P.underlying e = some (.int .i64)) (ce : P.cellsOf e = 1)
    {v : Value} {d : DataW H} {ps : List MemPlace} (hok : ∃ a n c, v = .slice a n c) (h : DataW.Trod enc P w 0 (fun _ => true) true t v d ps) :
    ∃ A c l, v = .slice A l.length c ∧ l.length ≤ c ∧ c ≤ maxLen ∧ Cells w w.heap.size A (ints l) ∧ (∀ x ∈ l, -9223372036854775808 ≤ x ∧ x ≤ 9223372036854775807) := by
  obtain ⟨a0, n0, c0, rfl⟩ := hok
  obtain ⟨fuel, hf⟩ := h
  rcases open_ints ht he ce hf with ⟨hcs, hx⟩ | ⟨a, len, cap, zs, hcs, _, hl, hm, hz, hx, hcell, hwz⟩
  · simp [Value.cells] at hcs
    obtain ⟨rfl, rfl, rfl⟩ := hcs
    exact ⟨none, 0, [], rfl, by simp, by simp [maxLen], Cells.nil_, by simp⟩
  · simp [Value.cells] at hcs
    obtain ⟨rfl, rfl, rfl⟩ := hcs
    simp only [if_true] at hz
    have hlen : (zs.take n0).length = n0 := by simp; omega
    refine ⟨some a, c0, zs.take n0, by rw [hlen], by omega, hm, cells_of (fun k hk => ?_), fun x hx => ?_⟩
    · rw [ints_get]
      simp only [ints_length, hlen] at hk
      rw [hcell k (by omega)]
      simp [List.getD_eq_getElem?_getD, hz, Nat.lt_of_lt_of_le hk hl]
    · have := hwz x (List.mem_of_mem_take hx)
      have h1 : IntKind.i64.min = -9223372036854775808 := rfl
      have h2 : IntKind.i64.max = 9223372036854775807 := rfl
      simp [Lit.wf, h1, h2] at this
      omega

theorem open_rows2 {t e q : TypeId} (ht : P.underlying t = some (.slice e)) (he : P.underlying e = some (.slice q)) (hq : P.underlying q = some (.int .i64))
    (ce : P.cellsOf e = 1) (cq : P.cellsOf q = 1) {v : Value} {d : DataW H} {ps : List MemPlace} (hok : ∃ a n c, v = .slice a n c) (h : DataW.Trod enc P w 0 (fun _ => true) true t v d ps) :
    ∃ A c rows, v = .slice A rows.length c ∧ rows.length ≤ c ∧ c ≤ maxLen ∧ Rows2 w w.heap.size A rows ∧ (∀ k (hk : k < rows.length), rows[k].length ≤ maxLen) := by
  obtain ⟨a0, n0, c0, rfl⟩ := hok
  obtain ⟨fuel, hf⟩ := h
  rcases open_int_rows ht he hq ce cq hf with ⟨hcs, hx⟩ | ⟨a, len, cap, A, L, C, Z, hcs, _, hl, hm, hx, hr⟩
  · simp [Value.cells] at hcs
    obtain ⟨rfl, rfl, rfl⟩ := hcs
    exact ⟨none, 0, [], rfl, by simp, by simp [maxLen], ⟨[], rfl, Cells.nil_, fun k h => by simp at h⟩, fun k h => by simp at h⟩
  · simp [Value.cells] at hcs
    obtain ⟨rfl, rfl, rfl⟩ := hcs
    have hlen : ((List.range n0).map fun r => (Z r).take (L r)).length = n0 := by simp
    have hrow : ∀ k (hk : k < ((List.range n0).map fun r => (Z r).take (L r)).length), ((List.range n0).map fun r => (Z r).take (L r))[k] = (Z k).take (L k) := fun k hk => by simp
    have hZ : ∀ k, k < n0 → ((Z k).take (L k)).length = L k := fun k hk => by
      obtain ⟨_, h1, _, h3, _⟩ := hr k (by omega)
      simp; omega
    refine ⟨some a, c0, (List.range n0).map fun r => (Z r).take (L r), by rw [hlen], by omega, hm, ⟨(List.range n0).map fun r => .slice (A r) (L r) (C r), by simp, cells_of (fun k hk => ?_), fun k hk => ?_⟩, fun k hk => ?_⟩
    · simp only [List.length_map, List.length_range] at hk
      rw [(hr k (by omega)).1]
      simp
    · have hk' : k < n0 := by rw [hlen] at hk; exact hk
      obtain ⟨h0, h1, h2, h3, h4, h5, h6⟩ := hr k (by omega)
      refine ⟨A k, C k, ?_, ?_, ?_⟩
      · rw [hrow, hZ k hk']; exact h1
      · rw [hrow, hZ k hk']; simp [hk']
      · rw [hrow]
        cases hA : A k with
        | none =>
          have : L k = 0 := by have := h5 hA; omega
          rw [this]
          exact Cells.nil_
        | some a' =>
          refine cells_of (fun c hc => ?_)
          rw [ints_get]
          simp only [ints_length, hZ k hk'] at hc
          rw [(h6 a' hA).2 c (by omega)]
          simp [List.getD_eq_getElem?_getD, h3, Nat.lt_of_lt_of_le hc h1]
    · have hk' : k < n0 := by rw [hlen] at hk; exact hk
      obtain ⟨h0, h1, h2, h3, h4, h5, h6⟩ := hr k (by omega)
      rw [hrow, hZ k hk']
      omega
end
end Go.Proofs.Ytdfegpohmaideaa
/- A position as an argument, opened. -/
namespace Go.Proofs.Ytdfegpohmaideaa
open Go.RowKit Go.ChangeShapes Go.WideShapes Go.Deep Go.ChangeMaps

section
variable {H : Type} {enc : TypeId × Value → H} {w : World} {base : Nat} {spare : Nat → Bool} {held : Bool}

set_option maxRecDepth 100000 in
/-- the six cells of a position, wherever they stand -/
theorem trod_pos {fuel : Nat} {cs : List Value} {x : DataW H × List MemPlace} (h : DataW.trod enc Try.prog w base spare held fuel 24 cs = some x) :
    ∃ (a b : Int) (c : ByteArray) (t : Int) (h0 h1 : ByteArray), cs = [.int .i64 a, .int .i64 b, .string c, .int .i64 t, .string h0, .string h1] ∧ x.2 = [] ∧
      c.size ≤ 9223372036854775807 ∧ h0.size ≤ 9223372036854775807 ∧ h1.size ≤ 9223372036854775807 ∧ (-9223372036854775808 ≤ a ∧ a ≤ 9223372036854775807) ∧ (-9223372036854775808 ≤ b ∧ b ≤ 9223372036854775807) ∧ (-9223372036854775808 ≤ t ∧ t ≤ 9223372036854775807) := by
  obtain ⟨xs, n, _, hx, hlen, hxl, hg⟩ := DataW.trod_struct Try.underlying24 h
  have c6 : Try.prog.cellsOf 24 = 6 := by kernel_rfl
  have ci : Try.prog.cellsOf 3 = 1 := by kernel_rfl
  have cst : Try.prog.cellsOf 9 = 1 := by kernel_rfl
  have c2 : Try.prog.cellsOf 22 = 2 := by kernel_rfl
  rw [c6] at hlen
  match cs, hlen with
  | [e0, e1, e2, e3, e4, e5], _ =>
    match xs, hxl with
    | [y0, y1, y2, y3, y4], _ =>
      have g0 : DataW.trod enc Try.prog w base spare held n 3 (([e0, e1, e2, e3, e4, e5].drop 0).take (Try.prog.cellsOf 3)) = [y0, y1, y2, y3, y4][0]? := hg 0 _ rfl
      have g1 : DataW.trod enc Try.prog w base spare held n 3 (([e0, e1, e2, e3, e4, e5].drop 1).take (Try.prog.cellsOf 3)) = [y0, y1, y2, y3, y4][1]? := hg 1 _ rfl
      have g2 : DataW.trod enc Try.prog w base spare held n 9 (([e0, e1, e2, e3, e4, e5].drop 2).take (Try.prog.cellsOf 9)) = [y0, y1, y2, y3, y4][2]? := hg 2 _ rfl
      have g3 : DataW.trod enc Try.prog w base spare held n 3 (([e0, e1, e2, e3, e4, e5].drop 3).take (Try.prog.cellsOf 3)) = [y0, y1, y2, y3, y4][3]? := hg 3 _ rfl
      have g4 : DataW.trod enc Try.prog w base spare held n 22 (([e0, e1, e2, e3, e4, e5].drop 4).take (Try.prog.cellsOf 22)) = [y0, y1, y2, y3, y4][4]? := hg 4 _ rfl
      simp only [ci, cst, c2, List.drop_zero, List.drop_succ_cons, List.take_succ_cons, List.take_zero, List.getElem?_cons_zero, List.getElem?_cons_succ] at g0 g1 g2 g3 g4
      obtain ⟨a, ha, ea, wa⟩ := DataW.trod_int Try.underlying3 g0
      obtain ⟨b, hb, eb, wb⟩ := DataW.trod_int Try.underlying3 g1
      obtain ⟨c, hc, ec, wc⟩ := DataW.trod_string Try.underlying9 g2
      obtain ⟨t, ht, et, wt⟩ := DataW.trod_int Try.underlying3 g3
      obtain ⟨zs, m, _, hz, _, hzl, hzg⟩ := DataW.trod_array Try.underlying22 g4
      match zs, hzl with
      | [z0, z1], _ =>
        have k0 := hzg 0 (by omega)
        have k1 := hzg 1 (by omega)
        simp only [cst, Nat.zero_mul, Nat.one_mul, List.drop_zero, List.drop_succ_cons, List.take_succ_cons, List.take_zero, List.getElem?_cons_zero, List.getElem?_cons_succ] at k0 k1
        obtain ⟨h0, q0, r0, s0⟩ := DataW.trod_string Try.underlying9 k0
        obtain ⟨h1, q1, r1, s1⟩ := DataW.trod_string Try.underlying9 k1
        simp only [List.cons.injEq, and_true] at ha hb hc ht q0 q1
        have m1 : IntKind.i64.min = -9223372036854775808 := rfl
        have m2 : IntKind.i64.max = 9223372036854775807 := rfl
        simp [Lit.wf, m1, m2] at wa wb wt
        have m3 : maxLen = 9223372036854775807 := rfl
        rw [m3] at wc s0 s1
        refine ⟨a, b, c, t, h0, h1, by rw [ha, hb, hc, ht, q0, q1], ?_, by omega, by omega, by omega, wa, wb, wt⟩
        rw [hx]
        simp [ea, eb, ec, et, hz, r0, r1]

set_option maxRecDepth 100000 in
theorem open_pos {r : Reach} {b0 : Nat} {v : Value} {d : DataW H} {p : List MemPlace} (hv : Value.okWide Try.prog w r b0 24 v) (h : DataW.Trod enc Try.prog w base spare held 24 v d p) :
    ∃ (a b : Int) (c : ByteArray) (t : Int) (h0 h1 : ByteArray), v = .agg #[.int .i64 a, .int .i64 b, .string c, .int .i64 t, .string h0, .string h1] ∧ p = [] ∧
      c.size ≤ 9223372036854775807 ∧ h0.size ≤ 9223372036854775807 ∧ h1.size ≤ 9223372036854775807 ∧ (-9223372036854775808 ≤ a ∧ a ≤ 9223372036854775807) ∧ (-9223372036854775808 ≤ b ∧ b ≤ 9223372036854775807) ∧ (-9223372036854775808 ≤ t ∧ t ≤ 9223372036854775807) := by
  obtain ⟨cs, rfl, hsz⟩ := okWide_struct Try.underlying24 hv
  obtain ⟨fuel, hf⟩ := h
  obtain ⟨a, b, c, t, h0, h1, hcs, hp, rest⟩ := trod_pos hf
  obtain ⟨l⟩ := cs
  refine ⟨a, b, c, t, h0, h1, ?_, hp, rest⟩
  have hcs2 : l = [.int .i64 a, .int .i64 b, .string c, .int .i64 t, .string h0, .string h1] := by simpa [Value.cells] using hcs
  rw [hcs2]
end
end Go.Proofs.Ytdfegpohmaideaa
/- Rules as an argument, opened. -/
namespace Go.Proofs.Ytdfegpohmaideaa
open Go.RowKit Go.ChangeShapes Go.WideShapes Go.Deep Go.ChangeMaps

theorem each_of {α : Type} {P : Nat → α → Prop} : ∀ {n : Nat} (_ : ∀ i, i < n → ∃ x, P i x), ∃ xs : List α, xs.length = n ∧ ∀ i (hi : i < xs.length), P i xs[i]
  | 0, _ => ⟨[], rfl, fun i hi => absurd hi (by simp)⟩
  | n + 1, h => by
    obtain ⟨xs, hl, hx⟩ := each_of (n := n) (fun i hi => h i (by omega))
    obtain ⟨x, hp⟩ := h n (by omega)
    refine ⟨xs ++ [x], by simp [hl], fun i hi => ?_⟩
    by_cases hi' : i < xs.length
    · rw [List.getElem_append_left hi']; exact hx i hi'
    · have : i = n := by simp at hi; omega
      subst this
      rw [List.getElem_append_right (by omega)]
      simpa [hl] using hp
theorem flat_get {α : Type} (f : α → List Value) (k : Nat) (hf : ∀ x, (f x).length = k) : ∀ (xs : List α) (i j : Nat) (hi : i < xs.length), j < k → (xs.flatMap f)[i * k + j]? = (f xs[i])[j]?
  | [], i, _, hi, _ => absurd hi (by simp)
  | x :: xs, 0, j, _, hj => by
    rw [List.flatMap_cons, Nat.zero_mul, Nat.zero_add, List.getElem?_append_left (by rw [hf]; exact hj)]
    rfl
  | x :: xs, i + 1, j, hi, hj => by
    have e : (i + 1) * k + j = k + (i * k + j) := by rw [Nat.succ_mul]; omega
    rw [List.flatMap_cons, e, List.getElem?_append_right (by rw [hf]; omega), hf, Nat.add_sub_cancel_left, flat_get f k hf xs i j (by simpa using hi) hj]
    rfl
theorem flat_length {α : Type} (f : α → List Value) (k : Nat) (hf : ∀ x, (f x).length = k) : ∀ xs : List α, (xs.flatMap f).length = xs.length * k
  | [] => by simp
  | x :: xs => by rw [List.flatMap_cons, List.length_append, hf, flat_length f k hf xs, List.length_cons, Nat.succ_mul]; omega

section
variable {H : Type} {enc : TypeId × Value → H} {w : World} {base : Nat} {spare : Nat → Bool} {held : Bool}

theorem cells_rows {α : Type} (f : α → List Value) (k : Nat) (hk : 0 < k) (hf : ∀ x, (f x).length = k) (a : Addr) (xs : List α) (h : ∀ i (hi : i < xs.length), w.cells? base (a.add (i * k)) k = some (f xs[i])) :
    Cells w w.heap.size (some a) (xs.flatMap f) := by
  refine cells_of (fun j hj => ?_)
  rw [flat_length f k hf] at hj
  have hi : j / k < xs.length := (Nat.div_lt_iff_lt_mul hk).2 hj
  have hjk : j % k < k := Nat.mod_lt _ hk
  obtain ⟨_, _, h1⟩ := World.cells?_some (h _ hi)
  have h2 := h1 (j % k) hjk
  have hdm : j / k * k + j % k = j := by rw [Nat.mul_comm]; exact Nat.div_add_mod j k
  have ha : a = ⟨a.block, a.off, none⟩ := by
    obtain ⟨_, _, z1⟩ := World.cells?_some (h 0 (Nat.lt_of_le_of_lt (Nat.zero_le _) hi))
    have hz : 0 < (f (xs[0]'(Nat.lt_of_le_of_lt (Nat.zero_le _) hi))).length := by rw [hf]; exact hk
    have z2 := addr_of_cell ((z1 0 hk).trans (List.getElem?_eq_getElem hz))
    simpa [Addr.add] using z2
  have e0 : (a.add (j / k * k)).add (j % k) = a.add j := by
    rw [ha]
    simp only [Addr.add_lit]
    rw [Nat.add_assoc, hdm]
  rw [e0] at h2
  rw [h2, ← flat_get f k hf xs (j / k) (j % k) hi hjk, hdm, List.getElem?_eq_getElem (by rw [flat_length f k hf]; exact hj)]

def wayV (r : WayD) : List Value := [.int .i64 r.kind, .int .i64 r.x, .int .i64 r.y, .int .i64 r.take]
theorem wayV_flat (ws : List WayD) : ws.flatMap wayV = ints (flatW ws) := by
  induction ws with
  | nil => rfl
  | cons x ws ih => rw [List.flatMap_cons, ih]; simp [flatW, ints, wayV]
set_option maxRecDepth 100000 in
theorem trod_way {fuel : Nat} {cs : List Value} {x : DataW H × List MemPlace} (h : DataW.trod enc Try.prog w base spare held fuel 66 cs = some x) : ∃ r : WayD, cs = wayV r := by
  obtain ⟨xs, n, _, hx, hlen, hxl, hg⟩ := DataW.trod_struct Try.underlying66 h
  have c6 : Try.prog.cellsOf 66 = 4 := by kernel_rfl
  have ci : Try.prog.cellsOf 3 = 1 := by kernel_rfl
  rw [c6] at hlen
  match cs, hlen with
  | [e0, e1, e2, e3], _ =>
    match xs, hxl with
    | [y0, y1, y2, y3], _ =>
      have g0 : DataW.trod enc Try.prog w base spare held n 3 (([e0, e1, e2, e3].drop 0).take (Try.prog.cellsOf 3)) = [y0, y1, y2, y3][0]? := hg 0 _ rfl
      have g1 : DataW.trod enc Try.prog w base spare held n 3 (([e0, e1, e2, e3].drop 1).take (Try.prog.cellsOf 3)) = [y0, y1, y2, y3][1]? := hg 1 _ rfl
      have g2 : DataW.trod enc Try.prog w base spare held n 3 (([e0, e1, e2, e3].drop 2).take (Try.prog.cellsOf 3)) = [y0, y1, y2, y3][2]? := hg 2 _ rfl
      have g3 : DataW.trod enc Try.prog w base spare held n 3 (([e0, e1, e2, e3].drop 3).take (Try.prog.cellsOf 3)) = [y0, y1, y2, y3][3]? := hg 3 _ rfl
      simp only [ci, List.drop_zero, List.drop_succ_cons, List.take_succ_cons, List.take_zero, List.getElem?_cons_zero, List.getElem?_cons_succ] at g0 g1 g2 g3
      obtain ⟨a, ha, _, _⟩ := DataW.trod_int Try.underlying3 g0
      obtain ⟨b, hb, _, _⟩ := DataW.trod_int Try.underlying3 g1
      obtain ⟨c, hc, _, _⟩ := DataW.trod_int Try.underlying3 g2
      obtain ⟨d, hd, _, _⟩ := DataW.trod_int Try.underlying3 g3
      simp only [List.cons.injEq, and_true] at ha hb hc hd
      exact ⟨⟨a, b, c, d⟩, by rw [ha, hb, hc, hd]; rfl⟩
theorem trod_ways {fuel : Nat} {cs : List Value} {x : DataW H × List MemPlace} (h : DataW.trod enc Try.prog w base spare held fuel 67 cs = some x) :
    ∃ A c ws, cs = [.slice A ws.length c] ∧ ws.length ≤ c ∧ c ≤ maxLen ∧ WaysAt w w.heap.size A ws := by
  have c4 : Try.prog.cellsOf 66 = 4 := by kernel_rfl
  rcases DataW.trod_slice Try.underlying67 h with ⟨hcs, _⟩ | ⟨a, len, cap, elems, rest, n, _, hcs, _, _, hl, hm, he, hg, _⟩
  · exact ⟨none, 0, [], hcs, by simp, by simp [maxLen], Cells.nil_⟩
  · rw [c4] at hg
    have hall : ∀ i, i < len → ∃ r : WayD, w.cells? base (a.add (i * 4)) 4 = some (wayV r) := fun i hi => by
      have h1 := hg i hi
      rw [List.getElem?_eq_getElem (by omega)] at h1
      obtain ⟨cs, q1, q2⟩ := Option.bind_eq_some_iff.1 h1
      obtain ⟨r, rfl⟩ := trod_way q2
      exact ⟨r, q1⟩
    obtain ⟨ws, hlen, hws⟩ := each_of hall
    subst hlen
    refine ⟨some a, cap, ws, hcs, hl, hm, ?_⟩
    have := cells_rows wayV 4 (by decide) (fun _ => rfl) a ws hws
    rw [wayV_flat] at this
    exact this
/-- a piece, with where its ways lie -/
def pieceV (z : PieceD × (Option Addr × Nat)) : List Value := [.int .u8 z.1.letter, .int .i64 z.1.worth, .slice z.2.1 z.1.ways.length z.2.2]
theorem pieceV_flat : ∀ zs : List (PieceD × (Option Addr × Nat)), zs.flatMap pieceV = cellsP (zs.map (·.1)) (zs.map (·.2))
  | [] => rfl
  | z :: zs => by rw [List.flatMap_cons, pieceV_flat zs]; rfl
set_option maxRecDepth 100000 in
theorem trod_piece {fuel : Nat} {cs : List Value} {x : DataW H × List MemPlace} (h : DataW.trod enc Try.prog w base spare held fuel 69 cs = some x) :
    ∃ z : PieceD × (Option Addr × Nat), cs = pieceV z ∧ z.1.ways.length ≤ z.2.2 ∧ z.2.2 ≤ maxLen ∧ WaysAt w w.heap.size z.2.1 z.1.ways := by
  obtain ⟨xs, n, _, hx, hlen, hxl, hg⟩ := DataW.trod_struct Try.underlying69 h
  have c6 : Try.prog.cellsOf 69 = 3 := by kernel_rfl
  have ci : Try.prog.cellsOf 3 = 1 := by kernel_rfl
  have cu : Try.prog.cellsOf 5 = 1 := by kernel_rfl
  have cs1 : Try.prog.cellsOf 67 = 1 := by kernel_rfl
  rw [c6] at hlen
  match cs, hlen with
  | [e0, e1, e2], _ =>
    match xs, hxl with
    | [y0, y1, y2], _ =>
      have g0 : DataW.trod enc Try.prog w base spare held n 5 (([e0, e1, e2].drop 0).take (Try.prog.cellsOf 5)) = [y0, y1, y2][0]? := hg 0 _ rfl
      have g1 : DataW.trod enc Try.prog w base spare held n 3 (([e0, e1, e2].drop 1).take (Try.prog.cellsOf 3)) = [y0, y1, y2][1]? := hg 1 _ rfl
      have g2 : DataW.trod enc Try.prog w base spare held n 67 (([e0, e1, e2].drop 2).take (Try.prog.cellsOf 67)) = [y0, y1, y2][2]? := hg 2 _ rfl
      simp only [ci, cu, cs1, List.drop_zero, List.drop_succ_cons, List.take_succ_cons, List.take_zero, List.getElem?_cons_zero, List.getElem?_cons_succ] at g0 g1 g2
      obtain ⟨a, ha, _, wa⟩ := DataW.trod_int Try.underlying5 g0
      obtain ⟨b, hb, _, _⟩ := DataW.trod_int Try.underlying3 g1
      obtain ⟨A, c, ws, hc, hl, hm, hw⟩ := trod_ways g2
      simp only [List.cons.injEq, and_true] at ha hb hc
      have m1 : IntKind.u8.min = 0 := rfl
      have m2 : IntKind.u8.max = 255 := rfl
      simp [Lit.wf, m1, m2] at wa
      refine ⟨(⟨a.toNat, b, ws⟩, (A, c)), ?_, hl, hm, hw⟩
      rw [ha, hb, hc]
      simp only [pieceV]
      rw [show ((a.toNat : Nat) : Int) = a by omega]
theorem trod_pieces {fuel : Nat} {cs : List Value} {x : DataW H × List MemPlace} (h : DataW.trod enc Try.prog w base spare held fuel 25 cs = some x) :
    ∃ A c ps, cs = [.slice A ps.length c] ∧ ps.length ≤ maxLen ∧ (∀ k (h : k < ps.length), ps[k].ways.length ≤ maxLen) ∧ PiecesAt w w.heap.size A ps := by
  have c3 : Try.prog.cellsOf 69 = 3 := by kernel_rfl
  rcases DataW.trod_slice Try.underlying25 h with ⟨hcs, _⟩ | ⟨a, len, cap, elems, rest, n, _, hcs, _, _, hl, hm, he, hg, _⟩
  · exact ⟨none, 0, [], hcs, by simp [maxLen], fun k h => by simp at h, [], rfl, Cells.nil_, fun k h => by simp at h⟩
  · rw [c3] at hg
    have hall : ∀ i, i < len → ∃ z : PieceD × (Option Addr × Nat), w.cells? base (a.add (i * 3)) 3 = some (pieceV z) ∧ z.1.ways.length ≤ z.2.2 ∧ z.2.2 ≤ maxLen ∧ WaysAt w w.heap.size z.2.1 z.1.ways := fun i hi => by
      have h1 := hg i hi
      rw [List.getElem?_eq_getElem (by omega)] at h1
      obtain ⟨cs, q1, q2⟩ := Option.bind_eq_some_iff.1 h1
      obtain ⟨z, rfl, q3⟩ := trod_piece q2
      exact ⟨z, q1, q3⟩
    obtain ⟨zs, hlen, hzs⟩ := each_of hall
    subst hlen
    refine ⟨some a, cap, zs.map (·.1), by rw [List.length_map]; exact hcs, by rw [List.length_map]; omega, fun k hk => ?_, zs.map (·.2), by simp, ?_, fun k hk => ?_⟩
    · rw [List.length_map] at hk
      rw [List.getElem_map]
      have := hzs k hk
      omega
    · have := cells_rows pieceV 3 (by decide) (fun _ => rfl) a zs (fun i hi => (hzs i hi).1)
      rw [pieceV_flat] at this
      exact this
    · rw [List.length_map] at hk
      rw [List.getElem_map, List.getElem_map]
      exact ⟨(hzs k hk).2.1, (hzs k hk).2.2.2⟩
set_option maxRecDepth 100000 in
theorem trod_rules {fuel : Nat} {cs : List Value} {x : DataW H × List MemPlace} (h : DataW.trod enc Try.prog w base spare held fuel 27 cs = some x) :
    ∃ (r : RulesD) (A : Option Addr) (cp : Nat), cs.toArray = #[.int .i64 r.start.w, .int .i64 r.start.h, .string r.start.cells, .int .i64 r.start.turn, .string r.start.h0, .string r.start.h1, .slice A r.pieces.length cp, .bool r.drops, .int .u8 r.lose, .int .i64 r.line, .int .u8 r.reach, .bool r.stuck, .int .i64 r.plies] ∧ RFit r ∧ PiecesAt w w.heap.size A r.pieces := by
  obtain ⟨xs, n, _, hx, hlen, hxl, hg⟩ := DataW.trod_struct Try.underlying27 h
  have c13 : Try.prog.cellsOf 27 = 13 := by kernel_rfl
  have c6 : Try.prog.cellsOf 24 = 6 := by kernel_rfl
  have ci : Try.prog.cellsOf 3 = 1 := by kernel_rfl
  have cu : Try.prog.cellsOf 5 = 1 := by kernel_rfl
  have cb : Try.prog.cellsOf 4 = 1 := by kernel_rfl
  have cs1 : Try.prog.cellsOf 25 = 1 := by kernel_rfl
  rw [c13] at hlen
  match cs, hlen with
  | [e0, e1, e2, e3, e4, e5, e6, e7, e8, e9, e10, e11, e12], _ =>
    match xs, hxl with
    | [y0, y1, y2, y3, y4, y5, y6, y7], _ =>
      have g0 : DataW.trod enc Try.prog w base spare held n 24 (([e0, e1, e2, e3, e4, e5, e6, e7, e8, e9, e10, e11, e12].drop 0).take (Try.prog.cellsOf 24)) = [y0, y1, y2, y3, y4, y5, y6, y7][0]? := hg 0 _ rfl
      have g1 : DataW.trod enc Try.prog w base spare held n 25 (([e0, e1, e2, e3, e4, e5, e6, e7, e8, e9, e10, e11, e12].drop 6).take (Try.prog.cellsOf 25)) = [y0, y1, y2, y3, y4, y5, y6, y7][1]? := hg 1 _ rfl
      have g2 : DataW.trod enc Try.prog w base spare held n 4 (([e0, e1, e2, e3, e4, e5, e6, e7, e8, e9, e10, e11, e12].drop 7).take (Try.prog.cellsOf 4)) = [y0, y1, y2, y3, y4, y5, y6, y7][2]? := hg 2 _ rfl
      have g3 : DataW.trod enc Try.prog w base spare held n 5 (([e0, e1, e2, e3, e4, e5, e6, e7, e8, e9, e10, e11, e12].drop 8).take (Try.prog.cellsOf 5)) = [y0, y1, y2, y3, y4, y5, y6, y7][3]? := hg 3 _ rfl
      have g4 : DataW.trod enc Try.prog w base spare held n 3 (([e0, e1, e2, e3, e4, e5, e6, e7, e8, e9, e10, e11, e12].drop 9).take (Try.prog.cellsOf 3)) = [y0, y1, y2, y3, y4, y5, y6, y7][4]? := hg 4 _ rfl
      have g5 : DataW.trod enc Try.prog w base spare held n 5 (([e0, e1, e2, e3, e4, e5, e6, e7, e8, e9, e10, e11, e12].drop 10).take (Try.prog.cellsOf 5)) = [y0, y1, y2, y3, y4, y5, y6, y7][5]? := hg 5 _ rfl
      have g6 : DataW.trod enc Try.prog w base spare held n 4 (([e0, e1, e2, e3, e4, e5, e6, e7, e8, e9, e10, e11, e12].drop 11).take (Try.prog.cellsOf 4)) = [y0, y1, y2, y3, y4, y5, y6, y7][6]? := hg 6 _ rfl
      have g7 : DataW.trod enc Try.prog w base spare held n 3 (([e0, e1, e2, e3, e4, e5, e6, e7, e8, e9, e10, e11, e12].drop 12).take (Try.prog.cellsOf 3)) = [y0, y1, y2, y3, y4, y5, y6, y7][7]? := hg 7 _ rfl
      simp only [c6, ci, cu, cb, cs1, List.drop_zero, List.drop_succ_cons, List.take_succ_cons, List.take_zero, List.getElem?_cons_zero, List.getElem?_cons_succ] at g0 g1 g2 g3 g4 g5 g6 g7
      obtain ⟨a, b, c, t, h0, h1, ha, _, hc, hh0, hh1, _⟩ := trod_pos g0
      obtain ⟨A, cp, ps, hp, hpl, hpw, hpa⟩ := trod_pieces g1
      obtain ⟨dr, hdr, _⟩ := DataW.trod_bool Try.underlying4 g2
      obtain ⟨lo, hlo, _, wlo⟩ := DataW.trod_int Try.underlying5 g3
      obtain ⟨li, hli, _, _⟩ := DataW.trod_int Try.underlying3 g4
      obtain ⟨re, hre, _, wre⟩ := DataW.trod_int Try.underlying5 g5
      obtain ⟨st, hst, _⟩ := DataW.trod_bool Try.underlying4 g6
      obtain ⟨pl, hpl2, _, _⟩ := DataW.trod_int Try.underlying3 g7
      simp only [List.cons.injEq, and_true] at ha hp hdr hlo hli hre hst hpl2
      obtain ⟨a0, a1, a2, a3, a4, a5⟩ := ha
      have m1 : IntKind.u8.min = 0 := rfl
      have m2 : IntKind.u8.max = 255 := rfl
      simp [Lit.wf, m1, m2] at wlo wre
      have m3 : maxLen = 9223372036854775807 := rfl
      refine ⟨⟨⟨a, b, c, t, h0, h1⟩, ps, dr, lo.toNat, li, re.toNat, st, pl⟩, A, cp, ?_, ⟨hc, hh0, hh1, by rw [← m3]; exact hpl, fun k h => by rw [← m3]; exact hpw k h⟩, hpa⟩
      rw [a0, a1, a2, a3, a4, a5, hp, hdr, hlo, hli, hre, hst, hpl2]
      simp only
      rw [show ((lo.toNat : Nat) : Int) = lo by omega, show ((re.toNat : Nat) : Int) = re by omega]
set_option maxRecDepth 100000 in
theorem open_rules {r0 : Reach} {b0 : Nat} {v : Value} {d : DataW H} {p : List MemPlace} (hv : Value.okWide Try.prog w r0 b0 27 v) (h : DataW.Trod enc Try.prog w base spare held 27 v d p) :
    ∃ (r : RulesD) (A : Option Addr) (cp : Nat), v = .agg #[.int .i64 r.start.w, .int .i64 r.start.h, .string r.start.cells, .int .i64 r.start.turn, .string r.start.h0, .string r.start.h1, .slice A r.pieces.length cp, .bool r.drops, .int .u8 r.lose, .int .i64 r.line, .int .u8 r.reach, .bool r.stuck, .int .i64 r.plies] ∧ RFit r ∧ PiecesAt w w.heap.size A r.pieces := by
  obtain ⟨cs, rfl, hsz⟩ := okWide_struct Try.underlying27 hv
  obtain ⟨fuel, hf⟩ := h
  obtain ⟨r, A, cp, hcs, h1, h2⟩ := trod_rules hf
  obtain ⟨l⟩ := cs
  refine ⟨r, A, cp, ?_, h1, h2⟩
  exact congrArg Value.agg hcs
set_option maxRecDepth 100000 in
theorem open_move {r0 : Reach} {b0 : Nat} {v : Value} {d : DataW H} {p : List MemPlace} (hv : Value.okWide Try.prog w r0 b0 39 v) (h : DataW.Trod enc Try.prog w base spare held 39 v d p) :
    ∃ (f t : Int) (c : Nat), v = .agg #[.int .i64 f, .int .i64 t, .int .u8 c] := by
  obtain ⟨cs, rfl, hsz⟩ := okWide_struct Try.underlying39 hv
  obtain ⟨fuel, hf⟩ := h
  obtain ⟨xs, n, _, hx, hlen, hxl, hg⟩ := DataW.trod_struct Try.underlying39 hf
  have c6 : Try.prog.cellsOf 39 = 3 := by kernel_rfl
  have ci : Try.prog.cellsOf 3 = 1 := by kernel_rfl
  have cu : Try.prog.cellsOf 5 = 1 := by kernel_rfl
  obtain ⟨l⟩ := cs
  rw [c6] at hlen
  have hl3 : l.length = 3 := by simpa [Value.cells] using hlen
  match l, hl3 with
  | [e0, e1, e2], _ =>
    match xs, hxl with
    | [y0, y1, y2], _ =>
      have g0 : DataW.trod enc Try.prog w base spare held n 3 (([e0, e1, e2].drop 0).take (Try.prog.cellsOf 3)) = [y0, y1, y2][0]? := hg 0 _ rfl
      have g1 : DataW.trod enc Try.prog w base spare held n 3 (([e0, e1, e2].drop 1).take (Try.prog.cellsOf 3)) = [y0, y1, y2][1]? := hg 1 _ rfl
      have g2 : DataW.trod enc Try.prog w base spare held n 5 (([e0, e1, e2].drop 2).take (Try.prog.cellsOf 5)) = [y0, y1, y2][2]? := hg 2 _ rfl
      simp only [ci, cu, List.drop_zero, List.drop_succ_cons, List.take_succ_cons, List.take_zero, List.getElem?_cons_zero, List.getElem?_cons_succ] at g0 g1 g2
      obtain ⟨a, ha, _, _⟩ := DataW.trod_int Try.underlying3 g0
      obtain ⟨b, hb, _, _⟩ := DataW.trod_int Try.underlying3 g1
      obtain ⟨c, hc, _, wc⟩ := DataW.trod_int Try.underlying5 g2
      simp only [List.cons.injEq, and_true] at ha hb hc
      have m1 : IntKind.u8.min = 0 := rfl
      have m2 : IntKind.u8.max = 255 := rfl
      simp [Lit.wf, m1, m2] at wc
      refine ⟨a, b, c.toNat, ?_⟩
      rw [ha, hb, hc, show ((c.toNat : Nat) : Int) = c by omega]
end
end Go.Proofs.Ytdfegpohmaideaa
/- What every law's proof ends with: where a call answers true and leaves all that was there as it was, the row's post-condition holds. -/
namespace Go.Proofs.Ytdfegpohmaideaa
open Go.RowKit Go.WideShapes Go.ChangeShapes
theorem trodAll_stays {H : Type} {enc : TypeId × Value → H} {P : Program} (hl : laidOutB P = true) {W W' : World} (hb : Below W.heap.size W W') {sp' : Nat → Bool} :
    ∀ (ts : List TypeId) (vs : List Value) (ds : List (DataW H)) (ps : List MemPlace), (∀ t ∈ ts, P.readableRec t = true ∧ t < P.types.size) →
      (∀ p ∈ ps, p.block < W.heap.size) → (∀ p ∈ ps, sp' p.block = true) →
      DataW.TrodAll enc P W 0 (fun _ => true) true ts vs ds ps → DataW.TrodAll enc P W' 0 sp' true ts vs ds ps
  | [], [], [], _, _, _, _, h => h
  | t :: ts, v :: vs, d :: ds, ps, hr, hlt, hs, h => by
    obtain ⟨p, q, h1, h2, rfl⟩ := h
    refine ⟨p, q, WideElems.Trod_stays hl (hr t (by simp)).1 (hr t (by simp)).2 h1 (fun x hx => hb.same (hlt x (by simp [hx]))) (fun x hx => hs x (by simp [hx])), ?_, rfl⟩
    exact trodAll_stays hl hb ts vs ds q (fun t ht => hr t (by simp [ht])) (fun x hx => hlt x (by simp [hx])) (fun x hx => hs x (by simp [hx])) h2
  | [], _ :: _, _, _, _, _, _, h => h.elim
  | [], [], _ :: _, _, _, _, _, h => h.elim
  | _ :: _, [], _, _, _, _, _, h => h.elim
  | _ :: _, _ :: _, [], _, _, _, _, h => h.elim

theorem law_post {H : Type} {enc : TypeId × Value → H} {P : Program} {f : Func} {s : ChangeSpec} {W W' : World} {args : Array Value} {ds : List (DataW H)} {before : List MemPlace} {tb : TypeId}
    (hl : laidOutB P = true) (hread0 : (f.params.toList.all fun t => P.readableRec t && decide (t < P.types.size)) = true)
    (hW : DataW.Whole enc P f.params.toList s.vars false W args.toList ds [] before)
    (hvars : s.vars = []) (hrt : f.resultTypes = #[tb]) (ht : P.underlying tb = some .bool)
    (hres : (s.fn H (ds ++ [])).results = [.lit (.bool true)]) (hargs : (s.fn H (ds ++ [])).args = ds) (hvs : (s.fn H (ds ++ [])).vars = [])
    (hb : Below W.heap.size W W') :
    s.post enc P f false true false false W args (.bool true) W' := by
  have hread : ∀ t ∈ f.params.toList, P.readableRec t = true ∧ t < P.types.size := fun t ht => by
    have := List.all_eq_true.1 hread0 t ht
    simpa using this
  have hlt : ∀ p ∈ before, p.block < W.heap.size := fun p hp => hW.lt p hp
  obtain ⟨p, q, hA, hV, hpq, hz, hn⟩ := id hW
  rw [hvars] at hV
  obtain ⟨_, rfl⟩ := trodVars_none hV
  have hp : p = before := by rw [hpq]; simp
  rw [hp] at hA
  have args' : ∀ sp : Nat → Bool, (∀ x ∈ before, sp x.block = true) → DataW.TrodAll enc P W' 0 sp true f.params.toList args.toList (s.fn H (ds ++ [])).args before := fun sp hsp => by
    rw [hargs]; exact trodAll_stays hl hb _ _ _ _ hread hlt hsp hA
  have res' : ∀ (b : Nat) (sp : Nat → Bool) (hd : Bool), DataW.TrodAll enc P W' b sp hd f.resultTypes.toList ((Value.bool true).resultList f.resultTypes.size) (s.fn H (ds ++ [])).results [] := fun _ _ _ => by
    rw [hres, hrt]; exact trodAll_mk1 (shut_bool ht _)
  have vars' : ∀ sp : Nat → Bool, DataW.TrodVars enc P W' sp s.vars (s.fn H (ds ++ [])).vars [] := fun sp => by rw [hvs, hvars]; rfl
  refine ⟨ds, [], before, [], before, [], hW, res' _ _ _, args' _ (fun x hx => by simpa using hlt x hx), vars' _, ?_, fun _ => ?_⟩
  · exact World.keptBut_mono (fun x hx => ⟨hx, .inr (.inl hx)⟩) (hb.frame (· ∈ before))
  · refine ⟨ok_one hrt rfl (okWide_bool_mk ht _), (s.fn H (ds ++ [])).results ++ (s.fn H (ds ++ [])).args, (s.fn H (ds ++ [])).vars, ([] ++ before) ++ [], ⟨[] ++ before, [], ?_, vars' (fun _ => true), rfl, ?_, fun h => by cases h⟩, ?_⟩
    · exact trodAll_append (args' (fun _ => true) (fun _ _ => rfl)) (res' 0 (fun _ => true) true)
    · intro b off hin
      have hin' : MemPlace.cell b off ∈ before := by simpa using hin
      rw [hb.frozen (hlt _ hin')]
      exact hz b off hin'
    · intro x hx _
      simpa using hx
end Go.Proofs.Ytdfegpohmaideaa
/- gamekeep.MovesMirror answers true and leaves what was there as it was, for all rules and every position. No condition. -/
namespace Go.Proofs.Ytdfegpohmaideaa
open Go.ChangeShapes Go.WideShapes Go.ChangeAt Go.RowKit Go.ChangeMaps

theorem own_movesMirror : ownKnob Try.prog.godebug = none := by kernel_rfl
theorem laidOut_movesMirror : laidOutB Try.prog = true := by kernel_rfl

set_option maxRecDepth 100000 in
theorem movesMirror_lifted (os : Os) (started : os.Started) (H : Type) (enc : TypeId × Value → H) :
    ReturnsInHanded {} Try.checked os 3 .any (Rows.movesMirrorSpec.pre6 enc Try.prog Try.f3 Rows.movesMirrorRow.domain false) (Rows.movesMirrorSpec.post enc Try.prog Try.f3 false true false false) := by
  refine returnsInHanded_of_change (C := Try.checked) own_movesMirror started (by kernel_rfl) Try.func3
    (ChangeSpec.witness6 (enc := enc) (C := Try.checked) false ⟨#[], #[.agg #[.int .i64 0, .int .i64 0, .string ByteArray.empty, .int .i64 0, .string ByteArray.empty, .string ByteArray.empty, .slice none 0 0, .bool false, .int .u8 0, .int .i64 0, .int .u8 0, .bool false, .int .i64 0], .agg #[.int .i64 0, .int .i64 0, .string ByteArray.empty, .int .i64 0, .string ByteArray.empty, .string ByteArray.empty]], []⟩ 8 (by kernel_rfl) (by kernel_rfl) (by kernel_rfl) (by kernel_rfl)) ?_
  intro W base args ds gs before hval0 hW hcnd _
  have hval : ∀ (j : Nat) t v, Try.f3.params[j]? = some t → args[j]? = some v → Value.okWide Try.prog W .any base t v := hval0
  obtain ⟨p, q, hA0, hV, hpq, hfz, hnd⟩ := id hW
  have hA : DataW.TrodAll enc Try.prog W 0 (fun _ => true) true Try.f3.params.toList args.toList ds p := hA0
  obtain ⟨rfl, -⟩ := trodVars_none hV
  rw [Try.params3] at hA hval
  obtain ⟨v0, v1, d0, d1, p0, p1, rfl, rfl, rfl, h0, h1⟩ := trodAll_two hA
  obtain ⟨r, Ar, cr, rfl, hfr, hPr⟩ := open_rules (hval 0 27 v0 rfl rfl) h0
  obtain ⟨wp, hp, cp, tp, z0p, z1p, rfl, rfl, hcp, hyp, hzp, -, -, -⟩ := open_pos (hval 1 24 v1 rfl rfl) h1
  refine (mi_any r Ar cr ⟨wp, hp, cp, tp, z0p, z1p⟩ W hfr ⟨hcp, hyp, hzp⟩ hPr).mono fun e W' ⟨he, hg⟩ => ?_
  subst he
  exact ⟨_, rfl, law_post laidOut_movesMirror (by kernel_rfl) hW rfl rfl Try.underlying4 rfl rfl rfl hg⟩

theorem movesMirror_holds : Rows.MovesMirrorSaid :=
  OpenClaim.holds_of_wide 3 Try.f3 rfl rfl rfl rfl rfl rfl rfl ⟨rfl, rfl, rfl, rfl, rfl⟩ rfl rfl rfl rfl rfl (by kernel_rfl) Try.func3 (by kernel_rfl)
    (of_decide_eq_true (by kernel_rfl)) (by unfold Func.isWrapper; first | (rw [if_pos (by decide +kernel)]; kernel_rfl) | (rw [if_neg (by decide +kernel)]; exact ⟨rfl, rfl⟩))
    (fun os started H enc _ => movesMirror_lifted os started H enc)
#print axioms movesMirror_holds
end Go.Proofs.Ytdfegpohmaideaa
