/- gamelaw.HouseOpens answers true and leaves what was there as it was, for all rules, every time, every text and every list of messages of bulk at most 1048576, where the library's variables that the row lists hold what their own initialisers lay in them (tied to its text). -/
import Derived.Test.YtcdfeaodfmfdnaaGreatDoorRows
import Derived.ProofKit
import Derived.LaidMore
import Derived.OpenShut
import Derived.Stop.Joined
import Derived.HandedShaped
import Derived.Lay
import Derived.SevenTiedAt
import Derived.Handed
import Derived.Test.YtcdfeaodfmfdnaaGreatDoorOqKit
import Derived.LaidSub
import Derived.Stop.LaidErr
import Derived.Lib.LaidTab
import Derived.LaidLaws
import Derived.ChangeArms
import Derived.Below
import Derived.ChangeSame
import Derived.WalkKit
import Derived.Test.YtcdfeaodfmfdnaaGreatDoorOqHoOpens
import Derived.Test.YtcdfeaodfmfdnaaGreatDoorCards
import Derived.Test.YtcdfeaodfmfdnaaGreatDoorTie
import Derived.ChangeMaps5
import Derived.Deep.DeepHandedRow
namespace Go.Proofs.YtcdfeaodfmfdnaaGreatDoor
open Go.ChangeShapes Go.WideShapes Go.ChangeAt Go.WideMaps Go.WideElems Go.RowKit

def laidW : List (String × DataW Unit) := [("unicode/utf8.acceptRanges", Rows.laid_unicode_utf8_acceptRanges), ("unicode/utf8.first", Rows.laid_unicode_utf8_first)]
theorem own_door : ownKnob Tryz.prog.godebug = none := by kernel_rfl
theorem door_met (os : Os) (args : Array Value) : laidMetH Tryz.prog laidW ((World.laidAll Tryz.prog os laidW).forCall (fun _ _ => 0) ⟨#[], args, []⟩).memory := by
  rw [MakeChecks.laidMetH_plain _ _ _ (by kernel_rfl)]
  exact laidMet_laidAll _ (by kernel_rfl) (by kernel_rfl)
theorem handed_shaped {H : Type} {enc : TypeId × Value → H} {a : Assume} {C : Checked} {os : Os} {f : FuncId} {fn : Func} {s : ChangeSpec} {conds : List PathCond} {apart fresh handsOn again : Bool} {X : World → Array Value → Prop}
    (hX : ∀ (w w' : World) (args : Array Value), w.heap = w'.heap → X w args → X w' args)
    (own : ownKnob C.prog.godebug = none) (started : os.Started) (noInit : C.prog.inits.idxOf? f = none) (hfn : C.prog.funcs[f]? = some fn)
    (witness : ∃ (w : World) (tape : Tape) (i : Input), w.os = os ∧ (w.forCall tape i).Shaped C.prog ∧ i.vars = [] ∧ Input.okWide C.prog (w.forCall tape i) .any w.heap.size f i ∧
      ((s.pre enc C.prog fn conds apart (w.forCall tape i).memory i.args ∧ X (w.forCall tape i).memory i.args) ∧ sizedMet enc C.prog fn (OpenSpec.ofChange s) apart (w.forCall tape i).memory i.args) ∧ a.holds C.prog (lone (Frame.enter C.prog f i.args .normal) [] (w.forCall tape i)))
    (contract : ∀ (W : World) (base : Nat) (args : Array Value) (ds gs : List (DataW H)) (before : List MemPlace),
      (∀ (j : Nat) t v, fn.params[j]? = some t → args[j]? = some v → Value.okWide C.prog W .any base t v) →
      DataW.Whole enc C.prog fn.params.toList s.vars apart W args.toList ds gs before →
      (DataW.weightsEach C.prog (fn.params.toList ++ s.plain.varTypes C.prog) (ds ++ gs)).all (· ≤ reachBytes) = true → X W args → W.ShapedOpen C.prog →
      Calls C.prog f args W fun e W' => ∃ v, e = .returned v ∧ s.post enc C.prog fn apart fresh handsOn again W args v W') :
    ReturnsInHanded a C os f .any (fun w args => (s.pre enc C.prog fn conds apart w args ∧ X w args) ∧ sizedMet enc C.prog fn (OpenSpec.ofChange s) apart w args) (s.post enc C.prog fn apart fresh handsOn again) := by
  refine returnsInHanded_of_calls own started noInit witness ?_
  intro w tape i _ hsh _ hok hpre _
  obtain ⟨_, _, _, fn', hfn', _, _, _, _, hval⟩ := hok
  have e : fn' = fn := Option.some.inj (hfn'.symm.trans hfn)
  subst e
  obtain ⟨⟨⟨ds, gs, before, hw, _⟩, hx⟩, hz⟩ := hpre
  have hw' := DataW.Whole.of_heap (w' := w.forCall tape i) (by rfl) hw
  refine (contract (w.forCall tape i) w.heap.size i.args ds gs before hval hw' (hz.weights hw) (hX _ _ _ (by rfl) hx) hsh).mono fun e W' ⟨v, he, hp⟩ => ?_
  subst he
  exact ChangeSpec.post_blind hp
end Go.Proofs.YtcdfeaodfmfdnaaGreatDoor
namespace Go.Proofs.YtcdfeaodfmfdnaaGreatDoor
open Go.ChangeShapes Go.WideShapes Go.ChangeAt Go.RowKit

theorem row_err (u : TypeId) (h : Tryz.prog.typeName? 3 u = some "*errors.errorString") : u = 256 :=
  typeName_ptr_named (nm := "errors.errorString") (by rw [show "*" ++ "errors.errorString" = "*errors.errorString" by decide]; kernel_rfl) (by kernel_rfl) (by decide) u (by rw [show "*" ++ "errors.errorString" = "*errors.errorString" by decide]; exact h)
theorem env_laid {W : World} (h0 : laidMetH Tryz.prog Rows.houseOpensUptoRow.laid W) (hsh : W.ShapedOpen Tryz.prog) : Env W := by
  rw [MakeChecks.laidMetH_plain _ _ _ (by kernel_rfl)] at h0
  have hr := h0.filter (fun x => x.1 == "strconv.ErrRange")
  have hs := h0.filter (fun x => x.1 == "strconv.ErrSyntax")
  have ht := h0.filter (fun x => x.1 == "internal/strconv.uint64pow10")
  rw [show (Rows.houseOpensUptoRow.laid.filter fun x => x.1 == "strconv.ErrRange") = [("strconv.ErrRange", Rows.laid_strconv_ErrRange)] from by rfl] at hr
  rw [show (Rows.houseOpensUptoRow.laid.filter fun x => x.1 == "strconv.ErrSyntax") = [("strconv.ErrSyntax", Rows.laid_strconv_ErrSyntax)] from by rfl] at hs
  rw [show (Rows.houseOpensUptoRow.laid.filter fun x => x.1 == "internal/strconv.uint64pow10") = [("internal/strconv.uint64pow10", Rows.laid_internal_strconv_uint64pow10)] from by rfl] at ht
  obtain ⟨ar, sr, hvr, -⟩ := laid_sentinel (g := 4) (tp := 256) (te := 258) (ts := 9) hr (by kernel_rfl) (by kernel_rfl) Tryz.underlying126 row_err Tryz.underlying256 Tryz.underlying258 rfl rfl Tryz.underlying9 (by kernel_rfl) (by kernel_rfl)
  obtain ⟨a2, s2, hvs, -⟩ := laid_sentinel (g := 3) (tp := 256) (te := 258) (ts := 9) hs (by kernel_rfl) (by kernel_rfl) Tryz.underlying126 row_err Tryz.underlying256 Tryz.underlying258 rfl rfl Tryz.underlying9 (by kernel_rfl) (by kernel_rfl)
  have htb : Lib.TabIs Tryz.prog W "internal/strconv.uint64pow10" .u64 Lib.pow10Tab :=
    Lib.tabIs_of_head (rest := []) (g := (Tryz.prog.globalNamed "internal/strconv.uint64pow10").getD 0) (by kernel_rfl) (by kernel_rfl) Tryz.underlying231 Tryz.underlying206 (by kernel_rfl) (by kernel_rfl) (show laidMet Tryz.prog [("internal/strconv.uint64pow10", Lib.tabData .u64 Lib.pow10Tab)] W from ht)
  have cs := World.var?_cell (g := 3) (by kernel_rfl) hvs 0
  have cr := World.var?_cell (g := 4) (by kernel_rfl) hvr 0
  exact ⟨Tryz.laysM146.s1_3 W hsh, ⟨_, cs, .inr ⟨_, _, rfl⟩⟩, ⟨_, cr, .inr ⟨_, _, rfl⟩⟩, htb⟩
end Go.Proofs.YtcdfeaodfmfdnaaGreatDoor
namespace Go.Proofs.YtcdfeaodfmfdnaaGreatDoor
open Go.RowKit Go.ChangeShapes Go.WideShapes Go.Deep Go.ChangeMaps

theorem each_of {α : Type} {P : Nat → α → Prop} : ∀ {n : Nat} (_ : ∀ i, i < n → ∃ x, P i x), ∃ xs : List α, xs.length = n ∧ ∀ i (hi : i < xs.length), P i xs[i]
  | 0, _ => ⟨[], rfl, fun i hi => absurd hi (by simp)⟩
  | n + 1, h => by
    obtain ⟨xs, hl, hx⟩ := each_of (n := n) (fun i hi => h i (by omega))
    obtain ⟨x, hp⟩ := h n (by omega)
    refine ⟨xs ++ [x], by simp [hl], fun i hi => ?_⟩
    by_cases hi' : i < xs.length
    · rw [List.getElem_append_left hi']; exact hx i hi'
    · have : i = n := by simp at hi; omega
      subst this
      rw [List.getElem_append_right (by omega)]
      simpa [hl] using hp
theorem flat_get {α : Type} (f : α → List Value) (k : Nat) (hf : ∀ x, (f x).length = k) : ∀ (xs : List α) (i j : Nat) (hi : i < xs.length), j < k → (xs.flatMap f)[i * k + j]? = (f xs[i])[j]?
  | [], i, _, hi, _ => absurd hi (by simp)
  | x :: xs, 0, j, _, hj => by
    rw [List.flatMap_cons, Nat.zero_mul, Nat.zero_add, List.getElem?_append_left (by rw [hf]; exact hj)]
    rfl
  | x :: xs, i + 1, j, hi, hj => by
    have e : (i + 1) * k + j = k + (i * k + j) := by rw [Nat.succ_mul]; omega
    rw [List.flatMap_cons, e, List.getElem?_append_right (by rw [hf]; omega), hf, Nat.add_sub_cancel_left, flat_get f k hf xs i j (by simpa using hi) hj]
    rfl
theorem flat_length {α : Type} (f : α → List Value) (k : Nat) (hf : ∀ x, (f x).length = k) : ∀ xs : List α, (xs.flatMap f).length = xs.length * k
  | [] => by simp
  | x :: xs => by rw [List.flatMap_cons, List.length_append, hf, flat_length f k hf xs, List.length_cons, Nat.succ_mul]; omega

section
variable {H : Type} {enc : TypeId × Value → H} {w : World} {base : Nat} {spare : Nat → Bool} {held : Bool}

theorem cells_rows {α : Type} (f : α → List Value) (k : Nat) (hk : 0 < k) (hf : ∀ x, (f x).length = k) (a : Addr) (xs : List α) (h : ∀ i (hi : i < xs.length), w.cells? base (a.add (i * k)) k = some (f xs[i])) :
    Cells w w.heap.size (some a) (xs.flatMap f) := by
  refine cells_of (fun j hj => ?_)
  rw [flat_length f k hf] at hj
  have hi : j / k < xs.length := (Nat.div_lt_iff_lt_mul hk).2 hj
  have hjk : j % k < k := Nat.mod_lt _ hk
  obtain ⟨_, _, h1⟩ := World.cells?_some (h _ hi)
  have h2 := h1 (j % k) hjk
  have hdm : j / k * k + j % k = j := by rw [Nat.mul_comm]; exact Nat.div_add_mod j k
  have ha : a = ⟨a.block, a.off, none⟩ := by
    obtain ⟨_, _, z1⟩ := World.cells?_some (h 0 (Nat.lt_of_le_of_lt (Nat.zero_le _) hi))
    have hz : 0 < (f (xs[0]'(Nat.lt_of_le_of_lt (Nat.zero_le _) hi))).length := by rw [hf]; exact hk
    have z2 := addr_of_cell ((z1 0 hk).trans (List.getElem?_eq_getElem hz))
    simpa [Addr.add] using z2
  have e0 : (a.add (j / k * k)).add (j % k) = a.add j := by
    rw [ha]
    simp only [Addr.add_lit]
    rw [Nat.add_assoc, hdm]
  rw [e0] at h2
  rw [h2, ← flat_get f k hf xs (j / k) (j % k) hi hjk, hdm, List.getElem?_eq_getElem (by rw [flat_length f k hf]; exact hj)]

def wayV (r : WayD) : List Value := [.int .i64 r.kind, .int .i64 r.x, .int .i64 r.y, .int .i64 r.take]
theorem wayV_flat (ws : List WayD) : ws.flatMap wayV = ints (flatW ws) := by
  induction ws with
  | nil => rfl
  | cons x ws ih => rw [List.flatMap_cons, ih]; simp [flatW, ints, wayV]
set_option maxRecDepth 100000 in
theorem trod_way {fuel : Nat} {cs : List Value} {x : DataW H × List MemPlace} (h : DataW.trod enc Tryz.prog w base spare held fuel 80 cs = some x) : ∃ r : WayD, cs = wayV r := by
  obtain ⟨xs, n, _, hx, hlen, hxl, hg⟩ := DataW.trod_struct Tryz.underlying80 h
  have c6 : Tryz.prog.cellsOf 80 = 4 := by kernel_rfl
  have ci : Tryz.prog.cellsOf 3 = 1 := by kernel_rfl
  rw [c6] at hlen
  match cs, hlen with
  | [e0, e1, e2, e3], _ =>
    match xs, hxl with
    | [y0, y1, y2, y3], _ =>
      have g0 : DataW.trod enc Tryz.prog w base spare held n 3 (([e0, e1, e2, e3].drop 0).take (Tryz.prog.cellsOf 3)) = [y0, y1, y2, y3][0]? := hg 0 _ rfl
      have g1 : DataW.trod enc Tryz.prog w base spare held n 3 (([e0, e1, e2, e3].drop 1).take (Tryz.prog.cellsOf 3)) = [y0, y1, y2, y3][1]? := hg 1 _ rfl
      have g2 : DataW.trod enc Tryz.prog w base spare held n 3 (([e0, e1, e2, e3].drop 2).take (Tryz.prog.cellsOf 3)) = [y0, y1, y2, y3][2]? := hg 2 _ rfl
      have g3 : DataW.trod enc Tryz.prog w base spare held n 3 (([e0, e1, e2, e3].drop 3).take (Tryz.prog.cellsOf 3)) = [y0, y1, y2, y3][3]? := hg 3 _ rfl
      simp only [ci, List.drop_zero, List.drop_succ_cons, List.take_succ_cons, List.take_zero, List.getElem?_cons_zero, List.getElem?_cons_succ] at g0 g1 g2 g3
      obtain ⟨a, ha, _, _⟩ := DataW.trod_int Tryz.underlying3 g0
      obtain ⟨b, hb, _, _⟩ := DataW.trod_int Tryz.underlying3 g1
      obtain ⟨c, hc, _, _⟩ := DataW.trod_int Tryz.underlying3 g2
      obtain ⟨d, hd, _, _⟩ := DataW.trod_int Tryz.underlying3 g3
      simp only [List.cons.injEq, and_true] at ha hb hc hd
      exact ⟨⟨a, b, c, d⟩, by rw [ha, hb, hc, hd]; rfl⟩
theorem trod_ways {fuel : Nat} {cs : List Value} {x : DataW H × List MemPlace} (h : DataW.trod enc Tryz.prog w base spare held fuel 75 cs = some x) :
    ∃ A c ws, cs = [.slice A ws.length c] ∧ ws.length ≤ c ∧ c ≤ maxLen ∧ WaysAt w w.heap.size A ws := by
  have c4 : Tryz.prog.cellsOf 80 = 4 := by kernel_rfl
  rcases DataW.trod_slice Tryz.underlying75 h with ⟨hcs, _⟩ | ⟨a, len, cap, elems, rest, n, _, hcs, _, _, hl, hm, he, hg, _⟩
  · exact ⟨none, 0, [], hcs, by simp, by simp [maxLen], Cells.nil_⟩
  · rw [c4] at hg
    have hall : ∀ i, i < len → ∃ r : WayD, w.cells? base (a.add (i * 4)) 4 = some (wayV r) := fun i hi => by
      have h1 := hg i hi
      rw [List.getElem?_eq_getElem (by omega)] at h1
      obtain ⟨cs, q1, q2⟩ := Option.bind_eq_some_iff.1 h1
      obtain ⟨r, rfl⟩ := trod_way q2
      exact ⟨r, q1⟩
    obtain ⟨ws, hlen, hws⟩ := each_of hall
    subst hlen
    refine ⟨some a, cap, ws, hcs, hl, hm, ?_⟩
    have := cells_rows wayV 4 (by decide) (fun _ => rfl) a ws hws
    rw [wayV_flat] at this
    exact this
/-- a piece, with where its ways lie -/
def pieceV (z : PieceD × (Option Addr × Nat)) : List Value := [.int .u8 z.1.letter, .int .i64 z.1.worth, .slice z.2.1 z.1.ways.length z.2.2]
theorem pieceV_flat : ∀ zs : List (PieceD × (Option Addr × Nat)), zs.flatMap pieceV = cellsP (zs.map (·.1)) (zs.map (·.2))
  | [] => rfl
  | z :: zs => by rw [List.flatMap_cons, pieceV_flat zs]; rfl
set_option maxRecDepth 100000 in
theorem trod_piece {fuel : Nat} {cs : List Value} {x : DataW H × List MemPlace} (h : DataW.trod enc Tryz.prog w base spare held fuel 77 cs = some x) :
    ∃ z : PieceD × (Option Addr × Nat), cs = pieceV z ∧ z.1.ways.length ≤ z.2.2 ∧ z.2.2 ≤ maxLen ∧ WaysAt w w.heap.size z.2.1 z.1.ways := by
  obtain ⟨xs, n, _, hx, hlen, hxl, hg⟩ := DataW.trod_struct Tryz.underlying77 h
  have c6 : Tryz.prog.cellsOf 77 = 3 := by kernel_rfl
  have ci : Tryz.prog.cellsOf 3 = 1 := by kernel_rfl
  have cu : Tryz.prog.cellsOf 5 = 1 := by kernel_rfl
  have cs1 : Tryz.prog.cellsOf 75 = 1 := by kernel_rfl
  rw [c6] at hlen
  match cs, hlen with
  | [e0, e1, e2], _ =>
    match xs, hxl with
    | [y0, y1, y2], _ =>
      have g0 : DataW.trod enc Tryz.prog w base spare held n 5 (([e0, e1, e2].drop 0).take (Tryz.prog.cellsOf 5)) = [y0, y1, y2][0]? := hg 0 _ rfl
      have g1 : DataW.trod enc Tryz.prog w base spare held n 3 (([e0, e1, e2].drop 1).take (Tryz.prog.cellsOf 3)) = [y0, y1, y2][1]? := hg 1 _ rfl
      have g2 : DataW.trod enc Tryz.prog w base spare held n 75 (([e0, e1, e2].drop 2).take (Tryz.prog.cellsOf 75)) = [y0, y1, y2][2]? := hg 2 _ rfl
      simp only [ci, cu, cs1, List.drop_zero, List.drop_succ_cons, List.take_succ_cons, List.take_zero, List.getElem?_cons_zero, List.getElem?_cons_succ] at g0 g1 g2
      obtain ⟨a, ha, _, wa⟩ := DataW.trod_int Tryz.underlying5 g0
      obtain ⟨b, hb, _, _⟩ := DataW.trod_int Tryz.underlying3 g1
      obtain ⟨A, c, ws, hc, hl, hm, hw⟩ := trod_ways g2
      simp only [List.cons.injEq, and_true] at ha hb hc
      have m1 : IntKind.u8.min = 0 := rfl
      have m2 : IntKind.u8.max = 255 := rfl
      simp [Lit.wf, m1, m2] at wa
      refine ⟨(⟨a.toNat, b, ws⟩, (A, c)), ?_, hl, hm, hw⟩
      rw [ha, hb, hc]
      simp only [pieceV]
      rw [show ((a.toNat : Nat) : Int) = a by omega]
theorem trod_pieces {fuel : Nat} {cs : List Value} {x : DataW H × List MemPlace} (h : DataW.trod enc Tryz.prog w base spare held fuel 25 cs = some x) :
    ∃ A c ps, cs = [.slice A ps.length c] ∧ ps.length ≤ maxLen ∧ (∀ k (h : k < ps.length), ps[k].ways.length ≤ maxLen) ∧ PiecesAt w w.heap.size A ps := by
  have c3 : Tryz.prog.cellsOf 77 = 3 := by kernel_rfl
  rcases DataW.trod_slice Tryz.underlying25 h with ⟨hcs, _⟩ | ⟨a, len, cap, elems, rest, n, _, hcs, _, _, hl, hm, he, hg, _⟩
  · exact ⟨none, 0, [], hcs, by simp [maxLen], fun k h => by simp at h, [], rfl, Cells.nil_, fun k h => by simp at h⟩
  · rw [c3] at hg
    have hall : ∀ i, i < len → ∃ z : PieceD × (Option Addr × Nat), w.cells? base (a.add (i * 3)) 3 = some (pieceV z) ∧ z.1.ways.length ≤ z.2.2 ∧ z.2.2 ≤ maxLen ∧ WaysAt w w.heap.size z.2.1 z.1.ways := fun i hi => by
      have h1 := hg i hi
      rw [List.getElem?_eq_getElem (by omega)] at h1
      obtain ⟨cs, q1, q2⟩ := Option.bind_eq_some_iff.1 h1
      obtain ⟨z, rfl, q3⟩ := trod_piece q2
      exact ⟨z, q1, q3⟩
    obtain ⟨zs, hlen, hzs⟩ := each_of hall
    subst hlen
    refine ⟨some a, cap, zs.map (·.1), by rw [List.length_map]; exact hcs, by rw [List.length_map]; omega, fun k hk => ?_, zs.map (·.2), by simp, ?_, fun k hk => ?_⟩
    · rw [List.length_map] at hk
      rw [List.getElem_map]
      have := hzs k hk
      omega
    · have := cells_rows pieceV 3 (by decide) (fun _ => rfl) a zs (fun i hi => (hzs i hi).1)
      rw [pieceV_flat] at this
      exact this
    · rw [List.length_map] at hk
      rw [List.getElem_map, List.getElem_map]
      exact ⟨(hzs k hk).2.1, (hzs k hk).2.2.2⟩
set_option maxRecDepth 100000 in
theorem trod_rules {fuel : Nat} {cs : List Value} {x : DataW H × List MemPlace} (h : DataW.trod enc Tryz.prog w base spare held fuel 27 cs = some x) :
    ∃ (r : RulesD) (A : Option Addr) (cp : Nat), cs.toArray = #[.int .i64 r.start.w, .int .i64 r.start.h, .string r.start.cells, .int .i64 r.start.turn, .string r.start.h0, .string r.start.h1, .slice A r.pieces.length cp, .bool r.drops, .int .u8 r.lose, .int .i64 r.line, .int .u8 r.reach, .bool r.stuck, .int .i64 r.plies] ∧ RFit r ∧ PiecesAt w w.heap.size A r.pieces := by
  obtain ⟨xs, n, _, hx, hlen, hxl, hg⟩ := DataW.trod_struct Tryz.underlying27 h
  have c13 : Tryz.prog.cellsOf 27 = 13 := by kernel_rfl
  have c6 : Tryz.prog.cellsOf 24 = 6 := by kernel_rfl
  have ci : Tryz.prog.cellsOf 3 = 1 := by kernel_rfl
  have cu : Tryz.prog.cellsOf 5 = 1 := by kernel_rfl
  have cb : Tryz.prog.cellsOf 4 = 1 := by kernel_rfl
  have cs1 : Tryz.prog.cellsOf 25 = 1 := by kernel_rfl
  rw [c13] at hlen
  match cs, hlen with
  | [e0, e1, e2, e3, e4, e5, e6, e7, e8, e9, e10, e11, e12], _ =>
    match xs, hxl with
    | [y0, y1, y2, y3, y4, y5, y6, y7], _ =>
      have g0 : DataW.trod enc Tryz.prog w base spare held n 24 (([e0, e1, e2, e3, e4, e5, e6, e7, e8, e9, e10, e11, e12].drop 0).take (Tryz.prog.cellsOf 24)) = [y0, y1, y2, y3, y4, y5, y6, y7][0]? := hg 0 _ rfl
      have g1 : DataW.trod enc Tryz.prog w base spare held n 25 (([e0, e1, e2, e3, e4, e5, e6, e7, e8, e9, e10, e11, e12].drop 6).take (Tryz.prog.cellsOf 25)) = [y0, y1, y2, y3, y4, y5, y6, y7][1]? := hg 1 _ rfl
      have g2 : DataW.trod enc Tryz.prog w base spare held n 4 (([e0, e1, e2, e3, e4, e5, e6, e7, e8, e9, e10, e11, e12].drop 7).take (Tryz.prog.cellsOf 4)) = [y0, y1, y2, y3, y4, y5, y6, y7][2]? := hg 2 _ rfl
      have g3 : DataW.trod enc Tryz.prog w base spare held n 5 (([e0, e1, e2, e3, e4, e5, e6, e7, e8, e9, e10, e11, e12].drop 8).take (Tryz.prog.cellsOf 5)) = [y0, y1, y2, y3, y4, y5, y6, y7][3]? := hg 3 _ rfl
      have g4 : DataW.trod enc Tryz.prog w base spare held n 3 (([e0, e1, e2, e3, e4, e5, e6, e7, e8, e9, e10, e11, e12].drop 9).take (Tryz.prog.cellsOf 3)) = [y0, y1, y2, y3, y4, y5, y6, y7][4]? := hg 4 _ rfl
      have g5 : DataW.trod enc Tryz.prog w base spare held n 5 (([e0, e1, e2, e3, e4, e5, e6, e7, e8, e9, e10, e11, e12].drop 10).take (Tryz.prog.cellsOf 5)) = [y0, y1, y2, y3, y4, y5, y6, y7][5]? := hg 5 _ rfl
      have g6 : DataW.trod enc Tryz.prog w base spare held n 4 (([e0, e1, e2, e3, e4, e5, e6, e7, e8, e9, e10, e11, e12].drop 11).take (Tryz.prog.cellsOf 4)) = [y0, y1, y2, y3, y4, y5, y6, y7][6]? := hg 6 _ rfl
      have g7 : DataW.trod enc Tryz.prog w base spare held n 3 (([e0, e1, e2, e3, e4, e5, e6, e7, e8, e9, e10, e11, e12].drop 12).take (Tryz.prog.cellsOf 3)) = [y0, y1, y2, y3, y4, y5, y6, y7][7]? := hg 7 _ rfl
      simp only [c6, ci, cu, cb, cs1, List.drop_zero, List.drop_succ_cons, List.take_succ_cons, List.take_zero, List.getElem?_cons_zero, List.getElem?_cons_succ] at g0 g1 g2 g3 g4 g5 g6 g7
      obtain ⟨a, b, c, t, h0, h1, ha, _, hc, hh0, hh1, _⟩ := trod_pos g0
      obtain ⟨A, cp, ps, hp, hpl, hpw, hpa⟩ := trod_pieces g1
      obtain ⟨dr, hdr, _⟩ := DataW.trod_bool Tryz.underlying4 g2
      obtain ⟨lo, hlo, _, wlo⟩ := DataW.trod_int Tryz.underlying5 g3
      obtain ⟨li, hli, _, _⟩ := DataW.trod_int Tryz.underlying3 g4
      obtain ⟨re, hre, _, wre⟩ := DataW.trod_int Tryz.underlying5 g5
      obtain ⟨st, hst, _⟩ := DataW.trod_bool Tryz.underlying4 g6
      obtain ⟨pl, hpl2, _, _⟩ := DataW.trod_int Tryz.underlying3 g7
      simp only [List.cons.injEq, and_true] at ha hp hdr hlo hli hre hst hpl2
      obtain ⟨a0, a1, a2, a3, a4, a5⟩ := ha
      have m1 : IntKind.u8.min = 0 := rfl
      have m2 : IntKind.u8.max = 255 := rfl
      simp [Lit.wf, m1, m2] at wlo wre
      have m3 : maxLen = 9223372036854775807 := rfl
      refine ⟨⟨⟨a, b, c, t, h0, h1⟩, ps, dr, lo.toNat, li, re.toNat, st, pl⟩, A, cp, ?_, ⟨hc, hh0, hh1, by rw [← m3]; exact hpl, fun k h => by rw [← m3]; exact hpw k h⟩, hpa⟩
      rw [a0, a1, a2, a3, a4, a5, hp, hdr, hlo, hli, hre, hst, hpl2]
      simp only
      rw [show ((lo.toNat : Nat) : Int) = lo by omega, show ((re.toNat : Nat) : Int) = re by omega]
set_option maxRecDepth 100000 in
theorem open_rules {r0 : Reach} {b0 : Nat} {v : Value} {d : DataW H} {p : List MemPlace} (hv : Value.okWide Tryz.prog w r0 b0 27 v) (h : DataW.Trod enc Tryz.prog w base spare held 27 v d p) :
    ∃ (r : RulesD) (A : Option Addr) (cp : Nat), v = .agg #[.int .i64 r.start.w, .int .i64 r.start.h, .string r.start.cells, .int .i64 r.start.turn, .string r.start.h0, .string r.start.h1, .slice A r.pieces.length cp, .bool r.drops, .int .u8 r.lose, .int .i64 r.line, .int .u8 r.reach, .bool r.stuck, .int .i64 r.plies] ∧ RFit r ∧ PiecesAt w w.heap.size A r.pieces := by
  obtain ⟨cs, rfl, hsz⟩ := okWide_struct Tryz.underlying27 hv
  obtain ⟨fuel, hf⟩ := h
  obtain ⟨r, A, cp, hcs, h1, h2⟩ := trod_rules hf
  obtain ⟨l⟩ := cs
  refine ⟨r, A, cp, ?_, h1, h2⟩
  exact congrArg Value.agg hcs
set_option maxRecDepth 100000 in
theorem open_move {r0 : Reach} {b0 : Nat} {v : Value} {d : DataW H} {p : List MemPlace} (hv : Value.okWide Tryz.prog w r0 b0 101 v) (h : DataW.Trod enc Tryz.prog w base spare held 101 v d p) :
    ∃ (f t : Int) (c : Nat), v = .agg #[.int .i64 f, .int .i64 t, .int .u8 c] := by
  obtain ⟨cs, rfl, hsz⟩ := okWide_struct Tryz.underlying101 hv
  obtain ⟨fuel, hf⟩ := h
  obtain ⟨xs, n, _, hx, hlen, hxl, hg⟩ := DataW.trod_struct Tryz.underlying101 hf
  have c6 : Tryz.prog.cellsOf 101 = 3 := by kernel_rfl
  have ci : Tryz.prog.cellsOf 3 = 1 := by kernel_rfl
  have cu : Tryz.prog.cellsOf 5 = 1 := by kernel_rfl
  obtain ⟨l⟩ := cs
  rw [c6] at hlen
  have hl3 : l.length = 3 := by simpa [Value.cells] using hlen
  match l, hl3 with
  | [e0, e1, e2], _ =>
    match xs, hxl with
    | [y0, y1, y2], _ =>
      have g0 : DataW.trod enc Tryz.prog w base spare held n 3 (([e0, e1, e2].drop 0).take (Tryz.prog.cellsOf 3)) = [y0, y1, y2][0]? := hg 0 _ rfl
      have g1 : DataW.trod enc Tryz.prog w base spare held n 3 (([e0, e1, e2].drop 1).take (Tryz.prog.cellsOf 3)) = [y0, y1, y2][1]? := hg 1 _ rfl
      have g2 : DataW.trod enc Tryz.prog w base spare held n 5 (([e0, e1, e2].drop 2).take (Tryz.prog.cellsOf 5)) = [y0, y1, y2][2]? := hg 2 _ rfl
      simp only [ci, cu, List.drop_zero, List.drop_succ_cons, List.take_succ_cons, List.take_zero, List.getElem?_cons_zero, List.getElem?_cons_succ] at g0 g1 g2
      obtain ⟨a, ha, _, _⟩ := DataW.trod_int Tryz.underlying3 g0
      obtain ⟨b, hb, _, _⟩ := DataW.trod_int Tryz.underlying3 g1
      obtain ⟨c, hc, _, wc⟩ := DataW.trod_int Tryz.underlying5 g2
      simp only [List.cons.injEq, and_true] at ha hb hc
      have m1 : IntKind.u8.min = 0 := rfl
      have m2 : IntKind.u8.max = 255 := rfl
      simp [Lit.wf, m1, m2] at wc
      refine ⟨a, b, c.toNat, ?_⟩
      rw [ha, hb, hc, show ((c.toNat : Nat) : Int) = c by omega]
end
end Go.Proofs.YtcdfeaodfmfdnaaGreatDoor
namespace Go.Proofs.YtcdfeaodfmfdnaaGreatDoor
open Go.RowKit Go.ChangeShapes Go.WideShapes Go.Deep Go.ChangeMaps

def msgC (m : MsgD) : List Value := [.int .i64 m.seat, .int .i64 m.ply, .string m.mv, .int .i64 m.at_]
theorem msgC_len (m : MsgD) : (msgC m).length = 4 := rfl
theorem cellsG_flat : ∀ ms : List MsgD, cellsG ms = ms.flatMap msgC
  | [] => rfl
  | m :: ms => by rw [List.flatMap_cons, ← cellsG_flat ms]; rfl
section
variable {H : Type} {enc : TypeId × Value → H} {w : World} {base : Nat} {spare : Nat → Bool} {held : Bool}
set_option maxRecDepth 100000 in
theorem trod_msg {fuel : Nat} {cs : List Value} {x : DataW H × List MemPlace} (h : DataW.trod enc Tryz.prog w base spare held fuel 62 cs = some x) : ∃ m : MsgD, cs = msgC m ∧ -9223372036854775808 ≤ m.at_ ∧ m.at_ ≤ 9223372036854775807 := by
  obtain ⟨xs, n, _, hx, hlen, hxl, hg⟩ := DataW.trod_struct Tryz.underlying62 h
  have c4 : Tryz.prog.cellsOf 62 = 4 := by kernel_rfl
  have ci : Tryz.prog.cellsOf 3 = 1 := by kernel_rfl
  have cs' : Tryz.prog.cellsOf 9 = 1 := by kernel_rfl
  rw [c4] at hlen
  match cs, hlen with
  | [e0, e1, e2, e3], _ =>
    match xs, hxl with
    | [y0, y1, y2, y3], _ =>
      have g0 : DataW.trod enc Tryz.prog w base spare held n 3 (([e0, e1, e2, e3].drop 0).take (Tryz.prog.cellsOf 3)) = [y0, y1, y2, y3][0]? := hg 0 _ rfl
      have g1 : DataW.trod enc Tryz.prog w base spare held n 3 (([e0, e1, e2, e3].drop 1).take (Tryz.prog.cellsOf 3)) = [y0, y1, y2, y3][1]? := hg 1 _ rfl
      have g2 : DataW.trod enc Tryz.prog w base spare held n 9 (([e0, e1, e2, e3].drop 2).take (Tryz.prog.cellsOf 9)) = [y0, y1, y2, y3][2]? := hg 2 _ rfl
      have g3 : DataW.trod enc Tryz.prog w base spare held n 3 (([e0, e1, e2, e3].drop 3).take (Tryz.prog.cellsOf 3)) = [y0, y1, y2, y3][3]? := hg 3 _ rfl
      simp only [ci, cs', List.drop_zero, List.drop_succ_cons, List.take_succ_cons, List.take_zero, List.getElem?_cons_zero, List.getElem?_cons_succ] at g0 g1 g2 g3
      obtain ⟨a, ha, _, _⟩ := DataW.trod_int Tryz.underlying3 g0
      obtain ⟨b, hb, _, _⟩ := DataW.trod_int Tryz.underlying3 g1
      obtain ⟨c, hc, _⟩ := DataW.trod_string Tryz.underlying9 g2
      obtain ⟨d, hd, _, hr⟩ := DataW.trod_int Tryz.underlying3 g3
      simp only [List.cons.injEq, and_true] at ha hb hc hd
      have h1 : IntKind.i64.min = -9223372036854775808 := rfl
      have h2 : IntKind.i64.max = 9223372036854775807 := rfl
      simp [Lit.wf, h1, h2] at hr
      exact ⟨⟨a, b, c, d⟩, by rw [ha, hb, hc, hd]; rfl, hr.1, hr.2⟩
theorem open_msgs {A : Option Addr} {len cap : Nat} {d : DataW H} {p : List MemPlace} (h : DataW.Trod enc Tryz.prog w base spare held 49 (.slice A len cap) d p) :
    ∃ l : List MsgD, len = l.length ∧ l.length ≤ 9223372036854775807 ∧ Cells w w.heap.size A (cellsG l) ∧ ∀ m ∈ l, -9223372036854775808 ≤ m.at_ ∧ m.at_ ≤ 9223372036854775807 := by
  obtain ⟨fuel, hf⟩ := h
  have c4 : Tryz.prog.cellsOf 62 = 4 := by kernel_rfl
  rcases DataW.trod_slice Tryz.underlying49 hf with ⟨hcs, _⟩ | ⟨a, len, cap, elems, rest, n, _, hcs, _, _, hl, hm, he, hg, _⟩
  · simp [Value.cells] at hcs
    obtain ⟨rfl, rfl, rfl⟩ := hcs
    exact ⟨[], rfl, by simp, Cells.nil_, fun m hm => by cases hm⟩
  · simp [Value.cells] at hcs
    obtain ⟨rfl, rfl, rfl⟩ := hcs
    rw [c4] at hg
    have hall : ∀ i, i < len → ∃ e : MsgD, w.cells? base (a.add (i * 4)) 4 = some (msgC e) ∧ -9223372036854775808 ≤ e.at_ ∧ e.at_ ≤ 9223372036854775807 := fun i hi => by
      have h1 := hg i hi
      rw [List.getElem?_eq_getElem (by omega)] at h1
      obtain ⟨cs, q1, q2⟩ := Option.bind_eq_some_iff.1 h1
      obtain ⟨r, rfl, b1, b2⟩ := trod_msg q2
      exact ⟨r, q1, b1, b2⟩
    obtain ⟨es, hlen, hes⟩ := each_of hall
    subst hlen
    have m3 : maxLen = 9223372036854775807 := rfl
    refine ⟨es, rfl, by rw [← m3]; exact Nat.le_trans hl hm, ?_, fun m hm => ?_⟩
    · rw [cellsG_flat]
      exact cells_rows msgC 4 (by decide) msgC_len a es (fun i hi => (hes i hi).1)
    · obtain ⟨i, hi, rfl⟩ := List.getElem_of_mem hm
      exact (hes i hi).2
end
end Go.Proofs.YtcdfeaodfmfdnaaGreatDoor
namespace Go.Proofs.YtcdfeaodfmfdnaaGreatDoor
open Go.RowKit Go.WideShapes Go.ChangeShapes
theorem trodAll_stays {H : Type} {enc : TypeId × Value → H} {P : Program} (hl : laidOutB P = true) {W W' : World} (hb : Below W.heap.size W W') {sp' : Nat → Bool} :
    ∀ (ts : List TypeId) (vs : List Value) (ds : List (DataW H)) (ps : List MemPlace), (∀ t ∈ ts, P.readableRec t = true ∧ t < P.types.size) →
      (∀ p ∈ ps, p.block < W.heap.size) → (∀ p ∈ ps, sp' p.block = true) →
      DataW.TrodAll enc P W 0 (fun _ => true) true ts vs ds ps → DataW.TrodAll enc P W' 0 sp' true ts vs ds ps
  | [], [], [], _, _, _, _, h => h
  | t :: ts, v :: vs, d :: ds, ps, hr, hlt, hs, h => by
    obtain ⟨p, q, h1, h2, rfl⟩ := h
    refine ⟨p, q, WideElems.Trod_stays hl (hr t (by simp)).1 (hr t (by simp)).2 h1 (fun x hx => hb.same (hlt x (by simp [hx]))) (fun x hx => hs x (by simp [hx])), ?_, rfl⟩
    exact trodAll_stays hl hb ts vs ds q (fun t ht => hr t (by simp [ht])) (fun x hx => hlt x (by simp [hx])) (fun x hx => hs x (by simp [hx])) h2
  | [], _ :: _, _, _, _, _, _, h => h.elim
  | [], [], _ :: _, _, _, _, _, h => h.elim
  | _ :: _, [], _, _, _, _, _, h => h.elim
  | _ :: _, _ :: _, [], _, _, _, _, h => h.elim

theorem law_post {H : Type} {enc : TypeId × Value → H} {P : Program} {f : Func} {s : ChangeSpec} {W W' : World} {args : Array Value} {ds : List (DataW H)} {before : List MemPlace} {tb : TypeId}
    (hl : laidOutB P = true) (hread0 : (f.params.toList.all fun t => P.readableRec t && decide (t < P.types.size)) = true)
    (hW : DataW.Whole enc P f.params.toList s.vars false W args.toList ds [] before)
    (hvars : s.vars = []) (hrt : f.resultTypes = #[tb]) (ht : P.underlying tb = some .bool)
    (hres : (s.fn H (ds ++ [])).results = [.lit (.bool true)]) (hargs : (s.fn H (ds ++ [])).args = ds) (hvs : (s.fn H (ds ++ [])).vars = [])
    (hb : Below W.heap.size W W') :
    s.post enc P f false true false false W args (.bool true) W' := by
  have hread : ∀ t ∈ f.params.toList, P.readableRec t = true ∧ t < P.types.size := fun t ht => by
    have := List.all_eq_true.1 hread0 t ht
    simpa using this
  have hlt : ∀ p ∈ before, p.block < W.heap.size := fun p hp => hW.lt p hp
  obtain ⟨p, q, hA, hV, hpq, hz, hn⟩ := id hW
  rw [hvars] at hV
  obtain ⟨_, rfl⟩ := trodVars_none hV
  have hp : p = before := by rw [hpq]; simp
  rw [hp] at hA
  have args' : ∀ sp : Nat → Bool, (∀ x ∈ before, sp x.block = true) → DataW.TrodAll enc P W' 0 sp true f.params.toList args.toList (s.fn H (ds ++ [])).args before := fun sp hsp => by
    rw [hargs]; exact trodAll_stays hl hb _ _ _ _ hread hlt hsp hA
  have res' : ∀ (b : Nat) (sp : Nat → Bool) (hd : Bool), DataW.TrodAll enc P W' b sp hd f.resultTypes.toList ((Value.bool true).resultList f.resultTypes.size) (s.fn H (ds ++ [])).results [] := fun _ _ _ => by
    rw [hres, hrt]; exact trodAll_mk1 (shut_bool ht _)
  have vars' : ∀ sp : Nat → Bool, DataW.TrodVars enc P W' sp s.vars (s.fn H (ds ++ [])).vars [] := fun sp => by rw [hvs, hvars]; rfl
  refine ⟨ds, [], before, [], before, [], hW, res' _ _ _, args' _ (fun x hx => by simpa using hlt x hx), vars' _, ?_, fun _ => ?_⟩
  · exact World.keptBut_mono (fun x hx => ⟨hx, .inr (.inl hx)⟩) (hb.frame (· ∈ before))
  · refine ⟨ok_one hrt rfl (okWide_bool_mk ht _), (s.fn H (ds ++ [])).results ++ (s.fn H (ds ++ [])).args, (s.fn H (ds ++ [])).vars, ([] ++ before) ++ [], ⟨[] ++ before, [], ?_, vars' (fun _ => true), rfl, ?_, fun h => by cases h⟩, ?_⟩
    · exact trodAll_append (args' (fun _ => true) (fun _ _ => rfl)) (res' 0 (fun _ => true) true)
    · intro b off hin
      have hin' : MemPlace.cell b off ∈ before := by simpa using hin
      rw [hb.frozen (hlt _ hin')]
      exact hz b off hin'
    · intro x hx _
      simpa using hx
end Go.Proofs.YtcdfeaodfmfdnaaGreatDoor
namespace Go.Proofs.YtcdfeaodfmfdnaaGreatDoor
open Go.ChangeShapes Go.WideShapes Go.ChangeAt Go.RowKit Go.ChangeMaps

theorem laidOut_houseOpens : laidOutB Tryz.prog = true := by kernel_rfl
theorem rb_met (os : Os) (args : Array Value) : laidMetH Tryz.prog Rows.houseOpensUptoRow.laid ((World.laidAll Tryz.prog os Rows.houseOpensUptoRow.laid).forCall (fun _ _ => 0) ⟨#[], args, []⟩).memory := by
  rw [MakeChecks.laidMetH_plain _ _ _ (by kernel_rfl)]
  exact laidMet_laidAll _ (by kernel_rfl) (by kernel_rfl)
theorem rb_reads (os : Os) {H : Type} (enc : TypeId × Value → H) : ∃ places, DataW.whole enc Tryz.prog ((World.laidAll Tryz.prog os Rows.houseOpensUptoRow.laid).forCall (fun _ _ => 0) ⟨#[], #[.agg #[.int .i64 0, .int .i64 0, .string ByteArray.empty, .int .i64 0, .string ByteArray.empty, .string ByteArray.empty, .slice none 0 0, .bool false, .int .u8 0, .int .i64 0, .int .u8 0, .bool false, .int .i64 0], .int .i64 0, .string ByteArray.empty, .slice none 0 0], []⟩).memory Tryz.f7.params.toList Rows.houseOpensSpec.vars false (#[.agg #[.int .i64 0, .int .i64 0, .string ByteArray.empty, .int .i64 0, .string ByteArray.empty, .string ByteArray.empty, .slice none 0 0, .bool false, .int .u8 0, .int .i64 0, .int .u8 0, .bool false, .int .i64 0], .int .i64 0, .string ByteArray.empty, .slice none 0 0] : Array Value).toList 8 = some ([.agg [.agg [.lit (.int .i64 0), .lit (.int .i64 0), .lit (.string []), .lit (.int .i64 0), .agg [.lit (.string []), .lit (.string [])]], .nil, .lit (.bool false), .lit (.int .u8 0), .lit (.int .i64 0), .lit (.int .u8 0), .lit (.bool false), .lit (.int .i64 0)], .lit (.int .i64 0), .lit (.string []), .nil], [], places) :=
  ⟨[], by kernel_rfl⟩
theorem rb_small {H : Type} {d d1 d3 : DataW H} {s : ByteArray} (hk : Rows.uptoSmall H ([d, d1, .lit (.string s.data.toList), d3] ++ []) = true) : s.size < 4294967281 := by
  have h : Rows.uptoBulkAll ([d, d1, DataW.lit (H := H) (.string s.data.toList), d3] ++ []) ≤ 1048576 := of_decide_eq_true hk
  simp only [List.append_nil, Rows.uptoBulkAll, Rows.uptoBulk] at h
  have e : s.data.toList.length = s.size := by rw [Array.length_toList]; rfl
  omega

set_option maxRecDepth 100000 in
theorem houseOpens_lifted (os : Os) (started : os.Started) (H : Type) (enc : TypeId × Value → H) (F : Stop.Interp) :
    ReturnsInHanded {} Tryz.checked os 7 .any ((Rows.OpenSpec.upto Rows.houseOpensSpec).preRow enc Tryz.prog Tryz.f7 Rows.houseOpensUptoRow.domain false Rows.houseOpensUptoRow.laid) (((Rows.OpenSpec.upto Rows.houseOpensSpec).at F).post enc Tryz.prog Tryz.f7 false true false false) := by
  obtain ⟨places, hx⟩ := rb_reads os enc
  refine returnsInHanded_of_row (C := Tryz.checked) (s := Rows.OpenSpec.upto Rows.houseOpensSpec) own_door started (by kernel_rfl) Tryz.func7
    ⟨World.laidAll Tryz.prog os Rows.houseOpensUptoRow.laid, fun _ _ => 0, ⟨#[], #[.agg #[.int .i64 0, .int .i64 0, .string ByteArray.empty, .int .i64 0, .string ByteArray.empty, .string ByteArray.empty, .slice none 0 0, .bool false, .int .u8 0, .int .i64 0, .int .u8 0, .bool false, .int .i64 0], .int .i64 0, .string ByteArray.empty, .slice none 0 0], []⟩, World.laidAll_os _ _ _, World.shaped_of_ZipB (by kernel_rfl) (by kernel_rfl), rfl, (Input.okWide_of_okWideB (base := 0) (show Input.okWideB Tryz.checked.prog ((World.laidAll Tryz.prog os Rows.houseOpensUptoRow.laid).forCall (fun _ _ => 0) ⟨#[], #[.agg #[.int .i64 0, .int .i64 0, .string ByteArray.empty, .int .i64 0, .string ByteArray.empty, .string ByteArray.empty, .slice none 0 0, .bool false, .int .u8 0, .int .i64 0, .int .u8 0, .bool false, .int .i64 0], .int .i64 0, .string ByteArray.empty, .slice none 0 0], []⟩) 7 ⟨#[], #[.agg #[.int .i64 0, .int .i64 0, .string ByteArray.empty, .int .i64 0, .string ByteArray.empty, .string ByteArray.empty, .slice none 0 0, .bool false, .int .u8 0, .int .i64 0, .int .u8 0, .bool false, .int .i64 0], .int .i64 0, .string ByteArray.empty, .slice none 0 0], []⟩ = true by kernel_rfl)).2,
      OpenSpec.preRow_of_cond 8 hx (by kernel_rfl) (fun k hk => by cases hk; kernel_rfl) (by kernel_rfl) (rb_met os _), by
        simp only [Assume.holds]
        exact ⟨by simp, by simp, fun _ => Modest.zero, by simp, by simp⟩⟩ ?_
  intro W base args ds gs before hval0 hW _ hcond _ hL hsh _
  have hk := hcond _ rfl
  have hval : ∀ (j : Nat) t v, Tryz.f7.params[j]? = some t → args[j]? = some v → Value.okWide Tryz.prog W .any base t v := hval0
  obtain ⟨p, q, hA0, hV, hpq, hfz, hnd⟩ := id hW
  have hA : DataW.TrodAll enc Tryz.prog W 0 (fun _ => true) true Tryz.f7.params.toList args.toList ds p := hA0
  obtain ⟨rfl, -⟩ := trodVars_none hV
  rw [Tryz.params7] at hA hval
  obtain ⟨v0, v1, v2, v3, d0, d1, d2, d3, p0, p1, p2, p3, rfl, rfl, rfl, h0, h1, h2, h3⟩ := trodAll_four hA
  obtain ⟨r, Ar, cr, rfl, hfr, hPr⟩ := open_rules (hval 0 27 v0 rfl rfl) h0
  obtain ⟨t, rfl, rfl, rfl, -⟩ := open_int Tryz.underlying3 (hval 1 3 v1 rfl rfl) h1
  obtain ⟨s, rfl, rfl, rfl, -⟩ := open_string Tryz.underlying9 (hval 2 9 v2 rfl rfl) h2
  obtain ⟨Al, lenl, cl, rfl⟩ := okWide_slice Tryz.underlying49 (hval 3 49 v3 rfl rfl)
  obtain ⟨ms, rfl, hml, hCl, hmr⟩ := open_msgs h3
  refine (opens_any r Ar cr t s Al cl ms W hfr (env_laid hL hsh) hPr (rb_small hk) hCl hml hmr).mono fun e W' ⟨he, hg⟩ => ?_
  subst he
  exact ⟨_, rfl, law_post laidOut_houseOpens (by kernel_rfl) hW rfl rfl Tryz.underlying4 rfl rfl rfl ⟨hg.os, hg.tape, hg.output, hg.size, fun i hi => hg.block i hi (fun h => h)⟩⟩

theorem houseOpens_row : Rows.HouseOpensUptoSaid :=
  OpenClaim.holds_of_cond 7 Tryz.f7 rfl rfl rfl rfl rfl rfl rfl ⟨rfl, rfl, rfl, rfl, rfl⟩ rfl rfl rfl rfl rfl (by kernel_rfl) Tryz.func7 (by kernel_rfl)
    (of_decide_eq_true (by kernel_rfl)) (by unfold Func.isWrapper; first | (rw [if_pos (by decide +kernel)]; kernel_rfl) | (rw [if_neg (by decide +kernel)]; exact ⟨rfl, rfl⟩))
    (fun os started H enc _ F => by rw [OpenClaim.pre_eq_preRow]; exact houseOpens_lifted os started H enc F)

theorem houseOpens_plain (f : FuncId) (fn : Func) (hf : Tryz.pinned.checked.prog.funcNamed "parlour/gamelaw.HouseOpens" = some f) (hfn : Tryz.pinned.checked.prog.funcs[f]? = some fn) :
    true = Tryz.pinned.checked.prog.looks [] ∧ ∀ (j : Nat) t, fn.params[j]? = some t → Tryz.pinned.checked.prog.wantsStandIn t = false := by
  obtain rfl : f = 7 := Option.some.inj ((show Tryz.prog.funcNamed "parlour/gamelaw.HouseOpens" = some 7 by kernel_rfl).symm.trans hf) |>.symm
  obtain rfl : fn = Tryz.f7 := (Option.some.inj (Tryz.func7.symm.trans hfn)).symm
  exact ⟨by kernel_rfl, fun j t ht => by
    rw [Tryz.params7] at ht
    have hm : t ∈ [27, 3, 9, 49] := by simpa using Array.mem_of_getElem? ht
    have hall : ([27, 3, 9, 49].all fun u => !Tryz.prog.wantsStandIn u) = true := by kernel_rfl
    exact (show Tryz.prog.wantsStandIn t = false by simpa using List.all_eq_true.1 hall t hm)⟩

theorem houseOpens_holds : Rows.HouseOpensUptoCardSaid :=
  Claim7.holds_tied_plain_at .later [] _ _ _ _ houseOpens_row (fun _ h => by cases h) (by kernel_rfl) (fun _ h => by cases h) houseOpensUpto_row_tie rfl ⟨rfl, rfl⟩ (by kernel_rfl) rfl houseOpens_plain (by kernel_rfl)
#print axioms houseOpens_holds
end Go.Proofs.YtcdfeaodfmfdnaaGreatDoor
