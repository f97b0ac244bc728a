/- board.Write: walked. gameref.Text: walked. -/
import Derived.Test.YtcdfeaodfmfdnaaGreatDoorPlBxM
import Derived.Test.YtcdfeaodfmfdnaaGreatDoorPlRuChkM
import Derived.Test.YtcdfeaodfmfdnaaGreatDoorPlOpenM
import Derived.Test.YtcdfeaodfmfdnaaGreatDoorBxShelf
import Derived.Deep.CutRange
namespace Go.Proofs.YtcdfeaodfmfdnaaGreatDoor
open Go.RowKit

/-- the rows written so far, and the slash behind them -/
def rowsT (c : List UInt8) (w h k : Nat) : List UInt8 := if k = 0 then [] else if k < h then joinK c w h k ++ [47] else joinK c w h h
theorem rowsT_row (c : List UInt8) (w h k : Nat) (hk : k < h) : rowsT c w h k ++ rowL c w (h - 1 - k) = joinK c w h (k + 1) := by
  unfold rowsT
  by_cases e : k = 0
  · subst e; simp [joinK_one]
  · rw [if_neg e, if_pos hk, joinK_succ c w h k (by omega)]
    simp
theorem rowsT_next (c : List UInt8) (w h k : Nat) (hk : k + 1 < h) : joinK c w h (k + 1) ++ [47] = rowsT c w h (k + 1) := by
  unfold rowsT
  rw [if_neg (by omega), if_pos hk]
theorem rowsT_last (c : List UInt8) (w h k : Nat) (hk : k + 1 = h) : joinK c w h (k + 1) = rowsT c w h (k + 1) := by
  unfold rowsT
  rw [if_neg (by omega), if_neg (by omega), hk]
theorem rowsT_len {c : List UInt8} {w h k : Nat} (hl : c.length = w * h) (hk : k ≤ h) (h8 : h ≤ 8) (w8 : w ≤ 8) : (rowsT c w h k).length ≤ 73 := by
  unfold rowsT
  split
  · simp
  · split
    · have := joinK_len hl hk h8 w8; simp; omega
    · have := joinK_len hl (Nat.le_refl h) h8 w8; omega
theorem ext_row (c : ByteArray) (w y : Nat) : (c.extract (y * w) ((y + 1) * w)).data.toList = rowL c.data.toList w y := by
  rw [Go.Lib.extract_data]
  unfold rowL
  rw [Nat.add_mul, Nat.one_mul, Nat.add_sub_cancel_left]
theorem Blk.cells6 {w : World} {g : Nat} {t : TypeId} {a b c d e f : Value} (h : Blk w g t #[a, b, c, d, e, f]) :
    w.cell? ⟨g, 0, none⟩ = some a ∧ w.cell? ⟨g, 1, none⟩ = some b ∧ w.cell? ⟨g, 2, none⟩ = some c ∧ w.cell? ⟨g, 3, none⟩ = some d ∧ w.cell? ⟨g, 4, none⟩ = some e ∧ w.cell? ⟨g, 5, none⟩ = some f :=
  ⟨h.cellv rfl, h.cellv rfl, h.cellv rfl, h.cellv rfl, h.cellv rfl, h.cellv rfl⟩
theorem byte_list (h : ByteArray) : h.toList = h.data.toList := Go.ByteArray.toList_eq h
theorem dash_full {h : ByteArray} (e : h.toList.isEmpty = false) : dashL h.data.toList = h.data.toList := by
  rw [byte_list] at e
  unfold dashL
  rw [if_neg]
  intro e2
  rw [e2] at e
  cases e
theorem dash_empty {h : ByteArray} (e : h.toList.isEmpty = true) : dashL h.data.toList = [45] := by
  rw [byte_list, List.isEmpty_iff] at e
  unfold dashL
  rw [if_pos e]
theorem dash_len {l : List UInt8} (h : l.length ≤ 8) : (dashL l).length ≤ 8 := by
  unfold dashL
  split
  · simp
  · exact h
/-- the hands written so far -/
def handsT (a b : List UInt8) (q : Nat) : List UInt8 := if q = 0 then [] else if q = 1 then dashL a else dashL a ++ 47 :: dashL b
set_option maxHeartbeats 8000000 in
set_option maxRecDepth 100000 in
theorem write_good (p : Pos) (W : World) (hp : PosOk p) :
    Calls Tryz.prog 28 #[.agg #[.int .i64 p.w, .int .i64 p.h, .string p.cells, .int .i64 p.turn, .string p.h0, .string p.h1]] W fun e w' => e = .returned (.tuple #[.string (bytes (textL p)), .int .i64 0]) ∧ Below W.heap.size W w' := by
  have hp' := hp
  obtain ⟨w, h, c, t, h0, h1⟩ := p
  obtain ⟨w1, w8, h1', h8, hsz, t0, t1, hh0, hh1, -⟩ := hp'
  simp only at w1 w8 h1' h8 hsz t0 t1 hh0 hh1
  obtain ⟨wn, rfl⟩ : ∃ n : Nat, w = (n : Int) := ⟨w.toNat, by omega⟩
  obtain ⟨hn, rfl⟩ : ∃ n : Nat, h = (n : Int) := ⟨h.toNat, by omega⟩
  have hcl : c.data.toList.length = wn * hn := by
    have : (c.size : Int) = ((wn * hn : Nat) : Int) := by rw [hsz]; simp
    have h2 : c.data.toList.length = c.size := by simp
    omega
  have hl0 := (handB_true.1 hh0).1
  have hl1 := (handB_true.1 hh1).1
  have m64 := mul_in w1 w8 h1' h8
  have hck := hide (fun W => chk_good (wn : Int) (hn : Int) t c h0 h1 W (by omega) (by simp at hl0; omega) (by simp at hl1; omega) hp)
  clear hp hh0 hh1
  go_enter Tryz.func28, Tryz.ntmps28
  go_upto_region 1 with (fail)
  have HB0 := hide (below_fresh W (.cells #[.int .i64 (wn : Int), .int .i64 (hn : Int), .string c, .int .i64 t, .string h0, .string h1] 24))
  have HP0 := hide (Blk.new W 24 #[.int .i64 (wn : Int), .int .i64 (hn : Int), .string c, .int .i64 t, .string h0, .string h1])
  generalize W.alloc (.cells #[.int .i64 (wn : Int), .int .i64 (hn : Int), .string c, .int .i64 t, .string h0, .string h1] 24) = w0 at *
  obtain ⟨p0, p1, p2, p3, p4, p5⟩ := Blk.cells6 HP0.out
  go_upto_region 4 with (go_at_call 43; refine (hck.out _).mono ?_; rintro e w1 ⟨rfl, hb⟩)
  have HP1 := hide (Blk.below HP0.out hb (Blk.lt HP0.out))
  have hb1 := HB0.out.trans (hb.mono HB0.out.size)
  clear hb p0 p1 p2 p3 p4 p5 HB0 HP0 hck
  obtain ⟨p0, p1, p2, p3, p4, p5⟩ := Blk.cells6 HP1.out
  have hlt := Blk.lt HP1.out
  go_upto_region 5 with (fail)
  have HF1 := hide (show BF w1.heap.size w1.heap.size [] (w1.alloc (.cells #[.pointer none, .slice none 0 0] 119)) from Lib.IsBuilderF.of (Lib.fresh_isBuilder 119 5 w1))
  have HP2 := hide (Blk.alloc HP1.out (.cells #[.pointer none, .slice none 0 0] 119))
  have HB2 := hide (hb1.alloc (Nat.le_of_lt hlt) (.cells #[.pointer none, .slice none 0 0] 119))
  have hsz2 : (w1.alloc (.cells #[.pointer none, .slice none 0 0] 119)).heap.size = w1.heap.size + 1 := World.size_alloc _ _
  generalize w1.alloc (.cells #[.pointer none, .slice none 0 0] 119) = w2 at *
  obtain ⟨g, hg⟩ : ∃ g, w1.heap.size = g := ⟨_, rfl⟩
  rw [hg] at HF1 hsz2 hlt ⊢
  clear hg hb1 p0 p1 p2 p3 p4 p5 HP1
  obtain ⟨p0, p1, p2, p3, p4, p5⟩ := Blk.cells6 HP2.out
  go_wp2_with fail
  go_loopw [6] (fun yv wr => ∃ k : Nat, k ≤ hn ∧ yv = .int .i64 ((hn : Int) - 1 - (k : Int)) ∧ Below W.heap.size W wr ∧ BF g g (rowsT c.data.toList wn hn k) wr ∧ Blk wr W.heap.size 24 #[.int .i64 (wn : Int), .int .i64 (hn : Int), .string c, .int .i64 t, .string h0, .string h1] ∧ g < wr.heap.size) (fun yv _ => (intOf yv + 1).toNat)
  case atStart => exact ⟨0, by omega, by simp, HB2.out, HF1.out, HP2.out, by omega⟩
  case round =>
    rename World => wr
    obtain ⟨k, hk, rfl, hbw, hbf, hbl, hgw⟩ := hrel
    have HB3 := hide hbw
    have HF3 := hide hbf
    have HP3 := hide hbl
    clear hbw hbf hbl p0 p1 p2 p3 p4 p5
    obtain ⟨p0, p1, p2, p3, p4, p5⟩ := Blk.cells6 HP3.out
    by_cases hkl : k < hn
    · obtain ⟨y, hy⟩ : ∃ y : Nat, hn = k + 1 + y := ⟨hn - 1 - k, by omega⟩
      have hye : (hn : Int) - 1 - (k : Int) = (y : Int) := by omega
      have hye2 : (hn : Int) - 1 - ((k + 1 : Nat) : Int) = (y : Int) - 1 := by omega
      have hyr : hn - 1 - k = y := by omega
      have hrow := rowsT_row c.data.toList wn hn k hkl
      rw [hyr] at hrow
      have hrl := rowsT_len hcl hk (by omega) (by omega)
      have le1 : y * wn ≤ (y + 1) * wn := Nat.mul_le_mul_right _ (by omega)
      have le2 : (y + 1) * wn ≤ wn * hn := by rw [Nat.mul_comm]; exact Nat.mul_le_mul_left _ (by omega)
      have le3 : ((wn * hn : Nat) : Int) ≤ 64 := by rw [Int.natCast_mul]; exact m64.2
      have lcs : c.size = wn * hn := by rw [← hcl]; simp
      have m6 : IntKind.i64.wrap ((y : Int) * (wn : Int)) = ((y * wn : Nat) : Int) := by rw [Int.natCast_mul]; exact IntWalk.i64_in _ (by rw [← Int.natCast_mul]; omega)
      have m8 : IntKind.i64.wrap (((y : Int) + 1) * (wn : Int)) = (((y + 1) * wn : Nat) : Int) := by rw [Int.natCast_mul]; exact IntWalk.i64_in _ (by rw [show ((y : Int) + 1) = ((y + 1 : Nat) : Int) from rfl, ← Int.natCast_mul]; omega)
      have hext := ext_row c wn y
      have t1 : decide ((0 : Int) ≤ (y : Int)) = true := by simp
      rw [hye]
      obtain ⟨lo, hlo⟩ : ∃ lo, y * wn = lo := ⟨_, rfl⟩
      obtain ⟨hi, hhi⟩ : ∃ hi, (y + 1) * wn = hi := ⟨_, rfl⟩
      rw [hlo] at m6 le1 hext
      rw [hhi] at m8 le1 le2 hext
      have les : (hi : Int) ≤ (c.size : Int) := by omega
      have lhi : (lo : Int) ≤ (hi : Int) := by omega
      have hsz73 : c.size ≤ 64 := by omega
      have hxs : (c.extract lo hi).size ≤ 64 := by simp; omega
      have Hws := hide (wstr_any g g (rowsT c.data.toList wn hn k) (c.extract lo hi) wr HF3.out (by omega) (by omega))
      have Hext := hide hext
      have Hrow := hide hrow
      have Hye2 := hide hye2
      have Hy := hide hy
      have hy9 : (y : Int) ≤ 8 := by omega
      clear hlo hhi hext hrow hye hye2 hyr hy le1 le2 le3 lcs hsz
      go_upto_region 9 with (go_at_call 62; refine Hws.out.mono ?_; rintro e w4 ⟨rfl, hf4, hb4⟩)
      have HF4 := hide (show BF g g (joinK c.data.toList wn hn (k + 1)) w4 from by rw [Hext.out, Hrow.out] at hf4; exact hf4)
      have HB4 := hide (HB3.out.trans (hb4.mono (Nat.le_of_lt hlt)))
      have HP4 := hide (Blk.below HP3.out hb4 hlt)
      have hg4 : g < w4.heap.size := Nat.lt_of_lt_of_le hgw hb4.size
      have tw : IntKind.i64.wrap ((y : Int) - 1) = (y : Int) - 1 := IntWalk.i64_in _ (by omega)
      clear hf4 hb4 Hws p0 p1 p2 p3 p4 p5 HB3 HF3 HP3 Hext Hrow m6 m8 les lhi hxs hrl
      obtain ⟨p0, p1, p2, p3, p4, p5⟩ := Blk.cells6 HP4.out
      by_cases hy0 : y = 0
      · have t2 : decide ((0 : Int) < (y : Int)) = false := by simp; omega
        have t2n : decide (0 < y) = false := by simp; omega
        have Hl := hide (rowsT_last c.data.toList wn hn k (by have := Hy.out; omega))
        clear hy0
        go_wp2_with fail
        go_roundw
        case rel => exact ⟨k + 1, hkl, by rw [Hye2.out], HB4.out, by rw [← Hl.out]; exact HF4.out, HP4.out, hg4⟩
        case measure => simp [intOf]
      · have t2 : decide ((0 : Int) < (y : Int)) = true := by simp; omega
        have t2n : decide (0 < y) = true := by simp; omega
        have Hl := hide (rowsT_next c.data.toList wn hn k (by have := Hy.out; omega))
        have hjl := joinK_len (k := k + 1) hcl hkl (by omega) (by omega)
        have Hwb := hide (wbyte_any g g (joinK c.data.toList wn hn (k + 1)) 47 47 rfl w4 HF4.out (by omega) (by omega))
        clear hy0
        go_wp2_with (go_at_call 68; refine Hwb.out.mono ?_; rintro e w5 ⟨rfl, hf5, hb5⟩)
        go_wp2_with fail
        go_roundw
        case rel => exact ⟨k + 1, hkl, by rw [Hye2.out], HB4.out.trans (hb5.mono (Nat.le_of_lt hlt)), by rw [← Hl.out]; exact hf5, Blk.below HP4.out hb5 hlt, Nat.lt_of_lt_of_le hg4 hb5.size⟩
        case measure => simp [intOf]
    · obtain rfl : k = hn := by omega
      have hye : (k : Int) - 1 - (k : Int) = -1 := by omega
      rw [hye]
      clear hye
      have HJ := hide (show rowsT c.data.toList wn k k = joinK c.data.toList wn k k from by
        unfold rowsT
        rw [if_neg (by omega), if_neg (by omega)])
      have hjl := joinK_len (k := k) hcl (Nat.le_refl _) (by omega) (by omega)
      obtain ⟨J, hJ⟩ : ∃ J, joinK c.data.toList wn k k = J := ⟨_, rfl⟩
      have Htx := hide (show textL ⟨(wn : Int), (k : Int), c, t, h0, h1⟩ = J ++ ((if t = 0 then [32, 119, 32] else [32, 98, 32]) ++ (dashL h0.data.toList ++ 47 :: dashL h1.data.toList)) from by rw [← hJ]; rfl)
      rw [hJ] at HJ hjl
      rw [HJ.out] at HF3
      clear hJ HJ hkl hk
      obtain ⟨tt, htt⟩ : ∃ tt : List UInt8, (if t = 0 then [32, 119, 32] else [32, 98, 32]) = tt := ⟨_, rfl⟩
      rw [htt] at Htx
      have Htt := hide htt
      have hjt : (J ++ tt).length ≤ 75 := by rw [← htt]; split <;> simp <;> omega
      clear htt
      go_upto_region 11 with (fail)
      have hidx : ∀ w, (Instr.index 22 (.agg #[.string ⟨#[32, 119, 32]⟩, .string ⟨#[32, 98, 32]⟩]) (.int .i64 t)).run Tryz.prog w = .ok (.string (bytes tt)) w := fun w => by
        rw [← Htt.out]
        rcases (show t = 0 ∨ t = 1 by omega) with rfl | rfl
        · simp [Instr.index, go_sem]; rfl
        · simp [Instr.index, go_sem]; rfl
      have hjt2 : J.length + (bytes tt).size ≤ 75 := by rw [show (bytes tt).size = tt.length from rfl]; simpa using hjt
      have Hw1 := hide (wstr_any g g J (bytes tt) wr HF3.out (by omega) (by omega))
      go_upto_region 12 with (go_at_call 62; refine Hw1.out.mono ?_; rintro e w5 ⟨rfl, hf5, hb5⟩)
      have HB5 := hide (HB3.out.trans (hb5.mono (Nat.le_of_lt hlt)))
      have HF5 := hide (show BF g g (J ++ tt) w5 from hf5)
      have HP5 := hide (Blk.below HP3.out hb5 hlt)
      have hg5 : g < w5.heap.size := Nat.lt_of_lt_of_le hgw hb5.size
      clear hf5 hb5 HB3 HF3 HP3 p0 p1 p2 p3 p4 p5 hidx Hw1 hjt2
      obtain ⟨p0, p1, p2, p3, p4, p5⟩ := Blk.cells6 HP5.out
      go_wp2_with fail
      go_loopw [44] (fun qv wr => ∃ q : Nat, q ≤ 2 ∧ qv = .int .i64 (q : Int) ∧ Below W.heap.size W wr ∧ BF g g (J ++ tt ++ handsT h0.data.toList h1.data.toList q) wr ∧ g < wr.heap.size) (fun qv _ => 2 - (intOf qv).toNat)
      case atStart => exact ⟨0, by omega, rfl, HB5.out, by simpa [handsT] using HF5.out, hg5⟩
      case round =>
        rename World => wr
        obtain ⟨q, hq, rfl, hb6, hf6, hg6⟩ := hrel
        have HB6 := hide hb6
        have HF6 := hide hf6
        clear hb6 hf6 p0 p1 p2 p3 p4 p5 HB5 HF5 HP5
        rcases (show q = 0 ∨ q = 1 ∨ q = 2 by omega) with rfl | rfl | rfl
        · have hidx : ∀ w, (Instr.index 22 (.agg #[.string h0, .string h1]) (.int .i64 0)).run Tryz.prog w = .ok (.string h0) w := fun w => by simp [Instr.index, go_sem]
          have Hh := hide (show handsT h0.data.toList h1.data.toList 0 = [] from rfl)
          have Hh1 := hide (show handsT h0.data.toList h1.data.toList 1 = dashL h0.data.toList from rfl)
          rw [Hh.out, List.append_nil] at HF6
          cases hbe : h0.toList.isEmpty
          · have Hd := hide (dash_full hbe)
            have Hw := hide (wstr_any g g (J ++ tt) h0 wr HF6.out (by simp at hl0; omega) (by omega))
            go_wp2_with (go_at_call 62; refine Hw.out.mono ?_; rintro e w7 ⟨rfl, hf7, hb7⟩)
            go_roundw
            case rel => exact ⟨1, by omega, rfl, HB6.out.trans (hb7.mono (Nat.le_of_lt hlt)), by rw [Hh1.out, Hd.out]; exact hf7, Nat.lt_of_lt_of_le hg6 hb7.size⟩
            case measure => simp [intOf]
          · have Hd := hide (dash_empty hbe)
            have Hw := hide (wstr_any g g (J ++ tt) ⟨#[45]⟩ wr HF6.out (by rw [show (⟨#[45]⟩ : ByteArray).size = 1 from rfl]; omega) (by omega))
            go_wp2_with (go_at_call 62; refine Hw.out.mono ?_; rintro e w7 ⟨rfl, hf7, hb7⟩)
            go_roundw
            case rel => exact ⟨1, by omega, rfl, HB6.out.trans (hb7.mono (Nat.le_of_lt hlt)), by rw [Hh1.out, Hd.out]; exact hf7, Nat.lt_of_lt_of_le hg6 hb7.size⟩
            case measure => simp [intOf]
        · have hidx : ∀ w, (Instr.index 22 (.agg #[.string h0, .string h1]) (.int .i64 1)).run Tryz.prog w = .ok (.string h1) w := fun w => by simp [Instr.index, go_sem]
          have Hh := hide (show handsT h0.data.toList h1.data.toList 1 = dashL h0.data.toList from rfl)
          have Hh1 := hide (show handsT h0.data.toList h1.data.toList 2 = dashL h0.data.toList ++ 47 :: dashL h1.data.toList from rfl)
          rw [Hh.out] at HF6
          have hdl := dash_len hl0
          have Hwb := hide (wbyte_any g g (J ++ tt ++ dashL h0.data.toList) 47 47 rfl wr HF6.out (by simp at hjt ⊢; omega) (by omega))
          have hl2 : (J ++ tt ++ dashL h0.data.toList ++ [47]).length ≤ 90 := by simp at hjt ⊢; omega
          go_upto_region 17 with (go_at_call 68; refine Hwb.out.mono ?_; rintro e w6 ⟨rfl, hf6, hb6⟩)
          have HB7 := hide (HB6.out.trans (hb6.mono (Nat.le_of_lt hlt)))
          have HF7 := hide hf6
          have hg7 : g < w6.heap.size := Nat.lt_of_lt_of_le hg6 hb6.size
          clear hf6 hb6 HB6 HF6 Hwb
          cases hbe : h1.toList.isEmpty
          · have Hd := hide (dash_full hbe)
            have Hw := hide (wstr_any g g _ h1 w6 HF7.out (by simp at hl1; omega) (by omega))
            go_wp2_with (go_at_call 62; refine Hw.out.mono ?_; rintro e w7 ⟨rfl, hf7, hb7⟩)
            go_roundw
            case rel => exact ⟨2, by omega, rfl, HB7.out.trans (hb7.mono (Nat.le_of_lt hlt)), by rw [Hh1.out, Hd.out]; simpa using hf7, Nat.lt_of_lt_of_le hg7 hb7.size⟩
            case measure => simp [intOf]
          · have Hd := hide (dash_empty hbe)
            have Hw := hide (wstr_any g g _ ⟨#[45]⟩ w6 HF7.out (by rw [show (⟨#[45]⟩ : ByteArray).size = 1 from rfl]; omega) (by omega))
            go_wp2_with (go_at_call 62; refine Hw.out.mono ?_; rintro e w7 ⟨rfl, hf7, hb7⟩)
            go_roundw
            case rel => exact ⟨2, by omega, rfl, HB7.out.trans (hb7.mono (Nat.le_of_lt hlt)), by rw [Hh1.out, Hd.out]; simpa using hf7, Nat.lt_of_lt_of_le hg7 hb7.size⟩
            case measure => simp [intOf]
        · have Hh1 := hide (show handsT h0.data.toList h1.data.toList 2 = dashL h0.data.toList ++ 47 :: dashL h1.data.toList from rfl)
          rw [Hh1.out, List.append_assoc, ← Htx.out] at HF6
          have Hs := hide (Tryz.Builder_String_any_k g g _ wr HF6.out (by omega))
          go_wp2_with (go_at_call 58; refine Hs.out.mono ?_; rintro e w7 ⟨rfl, -, hb7, -⟩)
          go_ret2
          exact ⟨rfl, HB6.out.trans (hb7.mono (Nat.le_of_lt hlt))⟩
end Go.Proofs.YtcdfeaodfmfdnaaGreatDoor
namespace Go.Proofs.YtcdfeaodfmfdnaaGreatDoor
open Go.RowKit

theorem bytes_of (s : ByteArray) : bytes s.data.toList = s := by simp [bytes]
theorem dash_s {h : ByteArray} (e : h.toList.isEmpty = false) : bytes (dashL h.data.toList) = h := by rw [dash_full e, bytes_of]
theorem dash_s' {h : ByteArray} (e : h.toList.isEmpty = true) : bytes (dashL h.data.toList) = ⟨#[45]⟩ := by rw [dash_empty e]; rfl
set_option maxHeartbeats 8000000 in
set_option maxRecDepth 100000 in
theorem text_any (p : Pos) (W : World) (hp : PosOk p) :
    Calls Tryz.prog 48 #[.agg #[.int .i64 p.w, .int .i64 p.h, .string p.cells, .int .i64 p.turn, .string p.h0, .string p.h1]] W fun e w' => e = .returned (.string (bytes (textL p))) ∧ Below W.heap.size W w' := by
  have hp' := hp
  obtain ⟨w, h, c, t, h0, h1⟩ := p
  obtain ⟨w1, w8, h1', h8, hsz, t0, t1, hh0, hh1, -⟩ := hp'
  simp only at w1 w8 h1' h8 hsz t0 t1 hh0 hh1
  obtain ⟨wn, rfl⟩ : ∃ n : Nat, w = (n : Int) := ⟨w.toNat, by omega⟩
  obtain ⟨hn, rfl⟩ : ∃ n : Nat, h = (n : Int) := ⟨h.toNat, by omega⟩
  have hcl : c.data.toList.length = wn * hn := by
    have : (c.size : Int) = ((wn * hn : Nat) : Int) := by rw [hsz]; simp
    have h2 : c.data.toList.length = c.size := by simp
    omega
  have hl0 := (handB_true.1 hh0).1
  have hl1 := (handB_true.1 hh1).1
  have m64 := mul_in w1 w8 h1' h8
  clear hp hh0 hh1
  go_enter Tryz.func48, Tryz.ntmps48
  go_upto_region 1 with (fail)
  have HB0 := hide (below_fresh W (.cells #[.int .i64 (wn : Int), .int .i64 (hn : Int), .string c, .int .i64 t, .string h0, .string h1] 24))
  have HP0 := hide (Blk.new W 24 #[.int .i64 (wn : Int), .int .i64 (hn : Int), .string c, .int .i64 t, .string h0, .string h1])
  generalize W.alloc (.cells #[.int .i64 (wn : Int), .int .i64 (hn : Int), .string c, .int .i64 t, .string h0, .string h1] 24) = w0 at *
  obtain ⟨p0, p1, p2, p3, p4, p5⟩ := Blk.cells6 HP0.out
  go_wp2_with fail
  go_loopw [3, 4] (fun sv iv wr => ∃ i : Nat, i ≤ hn ∧ iv = .int .i64 (i : Int) ∧ sv = .string (bytes (joinK c.data.toList wn hn i)) ∧ wr = w0) (fun _ iv _ => hn - (intOf iv).toNat)
  case atStart => exact ⟨0, by omega, rfl, rfl, rfl⟩
  case round =>
    obtain ⟨k, hk, rfl, rfl, rfl⟩ := hrel
    rename World => w0
    obtain ⟨p0, p1, p2, p3, p4, p5⟩ := Blk.cells6 HP0.out
    have hjl := joinK_len hcl hk (by omega) (by omega)
    by_cases hkl : k < hn
    · obtain ⟨y, hy⟩ : ∃ y : Nat, hn = k + 1 + y := ⟨hn - 1 - k, by omega⟩
      have hyr : hn - 1 - k = y := by omega
      have Hone := hide (joinK_one c.data.toList wn hn)
      have Hnext := hide (fun h => joinK_succ c.data.toList wn hn k h)
      rw [hyr] at Hnext
      have le1 : y * wn ≤ (y + 1) * wn := Nat.mul_le_mul_right _ (by omega)
      have le2 : (y + 1) * wn ≤ wn * hn := by rw [Nat.mul_comm]; exact Nat.mul_le_mul_left _ (by omega)
      have le3 : ((wn * hn : Nat) : Int) ≤ 64 := by rw [Int.natCast_mul]; exact m64.2
      have lcs : c.size = wn * hn := by rw [← hcl]; simp
      have e1 : (hn : Int) - 1 - (k : Int) = (y : Int) := by omega
      have e2 : (hn : Int) - (k : Int) = (y : Int) + 1 := by omega
      have m5 : IntKind.i64.wrap ((hn : Int) - 1) = (hn : Int) - 1 := IntWalk.i64_in _ (by omega)
      have m9 : IntKind.i64.wrap ((hn : Int) - 1 - (k : Int)) = (y : Int) := by rw [e1]; exact IntWalk.i64_in _ (by omega)
      have m10 : IntKind.i64.wrap ((hn : Int) - (k : Int)) = (y : Int) + 1 := by rw [e2]; exact IntWalk.i64_in _ (by omega)
      have m6 : IntKind.i64.wrap ((y : Int) * (wn : Int)) = ((y * wn : Nat) : Int) := by rw [Int.natCast_mul]; exact IntWalk.i64_in _ (by rw [← Int.natCast_mul]; omega)
      have m8 : IntKind.i64.wrap (((y : Int) + 1) * (wn : Int)) = (((y + 1) * wn : Nat) : Int) := by rw [Int.natCast_mul]; exact IntWalk.i64_in _ (by rw [show ((y : Int) + 1) = ((y + 1 : Nat) : Int) from rfl, ← Int.natCast_mul]; omega)
      have hext := ext_row c wn y
      have t1 : decide ((k : Int) < (hn : Int)) = true := by simp; omega
      have t1n : decide (k < hn) = true := by simp; omega
      obtain ⟨lo, hlo⟩ : ∃ lo, y * wn = lo := ⟨_, rfl⟩
      obtain ⟨hi, hhi⟩ : ∃ hi, (y + 1) * wn = hi := ⟨_, rfl⟩
      rw [hlo] at m6 le1 hext
      rw [hhi] at m8 le1 le2 hext
      have les : (hi : Int) ≤ (c.size : Int) := by omega
      have lhi : (lo : Int) ≤ (hi : Int) := by omega
      have hsz73 : c.size ≤ 64 := by omega
      have hxs : (c.extract lo hi).size ≤ 64 := by simp; omega
      obtain ⟨sj, hsj⟩ : ∃ sj, bytes (joinK c.data.toList wn hn k) = sj := ⟨_, rfl⟩
      have hsjl : sj.size ≤ 72 := by rw [← hsj, size_bytes]; exact hjl
      have Hsj := hide hsj
      have Hext := hide (show c.extract lo hi = bytes (rowL c.data.toList wn y) from by rw [← hext, bytes_of])
      rw [hsj]
      have Hyr := hide hyr
      have He := hide (And.intro e1 e2)
      have Hy := hide hy
      clear hlo hhi hext hyr hy le1 le2 le3 lcs hsz hsj e1 e2
      go_upto_region 6 with (fail)
      by_cases hk0 : k = 0
      · have d1 : decide ((0 : Int) < (k : Int)) = false := by simp; omega
        have d1n : decide (0 < k) = false := by simp; omega
        have Hv := hide (show bytes (joinK c.data.toList wn hn (k + 1)) = sj ++ c.extract lo hi from by
          rw [← Hsj.out, Hext.out, bytes_cat, hk0]
          have h := Hone.out
          rw [← Hyr.out, hk0]
          simp only [Nat.sub_zero]
          rw [h]
          simp [joinK, topL, joinL])
        clear hk0
        go_wp2_with fail
        go_roundw
        case rel => exact ⟨k + 1, by omega, by go_num, by rw [Hv.out], trivial⟩
        case measure => simp [intOf]; omega
      · have d1 : decide ((0 : Int) < (k : Int)) = true := by simp; omega
        have d1n : decide (0 < k) = true := by simp; omega
        have Hv := hide (show bytes (joinK c.data.toList wn hn (k + 1)) = sj ++ ⟨#[47]⟩ ++ c.extract lo hi from by
          rw [Hnext.out (by omega), ← Hsj.out, Hext.out, show (⟨#[47]⟩ : ByteArray) = bytes [47] from rfl, bytes_cat, bytes_cat]
          simp)
        clear hk0
        go_wp2_with fail
        go_roundw
        case rel => exact ⟨k + 1, by omega, by go_num, by rw [Hv.out], trivial⟩
        case measure => simp [intOf]; omega
    · obtain rfl : k = hn := by omega
      have d1 : decide ((k : Int) < (k : Int)) = false := by simp
      obtain ⟨sj, hsj⟩ : ∃ sj, bytes (joinK c.data.toList wn k k) = sj := ⟨_, rfl⟩
      have hsjl : sj.size ≤ 72 := by rw [← hsj, size_bytes]; exact hjl
      have Htx := hide (show bytes (textL ⟨(wn : Int), (k : Int), c, t, h0, h1⟩) = sj ++ (bytes (if t = 0 then [32, 119, 32] else [32, 98, 32]) ++ bytes (dashL h0.data.toList) ++ ⟨#[47]⟩ ++ bytes (dashL h1.data.toList)) from by
        rw [← hsj, show (⟨#[47]⟩ : ByteArray) = bytes [47] from rfl, bytes_cat, bytes_cat, bytes_cat, bytes_cat]
        simp [textL])
      rw [hsj]
      clear hsj hkl hk hjl
      obtain ⟨ts, hts⟩ : ∃ ts : ByteArray, bytes (if t = 0 then [32, 119, 32] else [32, 98, 32]) = ts := ⟨_, rfl⟩
      have Hts := hide hts
      rw [hts] at Htx
      have hts3 : ts.size = 3 := by rw [← hts, size_bytes]; split <;> rfl
      obtain ⟨bt, hbt⟩ : ∃ bt, ((t : Int) == 0) = bt := ⟨_, rfl⟩
      have Hbt := hide hbt
      clear hts
      go_upto_if 41 with (fail)
      clear hbt
      go_cut [3] (fun x w' => x = .string (sj ++ ts) ∧ w' = w0)
      case first =>
        cases bt
        · have hb : ts = ⟨#[32, 98, 32]⟩ := by rw [← Hts.out, if_neg (beq_eq_false_iff_ne.1 Hbt.out)]; rfl
          subst hb
          go_wp2_with fail
          go_meet
          case rel => exact ⟨rfl, rfl⟩
        · have hb : ts = ⟨#[32, 119, 32]⟩ := by rw [← Hts.out, if_pos (beq_iff_eq.1 Hbt.out)]; rfl
          subst hb
          go_wp2_with fail
          go_meet
          case rel => exact ⟨rfl, rfl⟩
      case rest =>
        obtain ⟨rfl, rfl⟩ := hcut
        rename World => w0
        obtain ⟨sk, hsk⟩ : ∃ sk, sj ++ ts = sk := ⟨_, rfl⟩
        have hskl : sk.size ≤ 75 := by rw [← hsk, ByteArray.size_append]; omega
        have Hsk := hide hsk
        have hh0 : h0.size ≤ 8 := by simp at hl0; omega
        have hh1 : h1.size ≤ 8 := by simp at hl1; omega
        rw [hsk]
        clear hsk
        go_upto_region 12 with (fail)
        go_quiet (fail)
        cases e0 : h0.toList.isEmpty <;> cases e1 : h1.toList.isEmpty
        · have Hd := hide (And.intro (dash_s e0) (dash_s e1))
          go_wp2_with fail
          go_ret
          exact ⟨by rw [Htx.out, Hd.out.1, Hd.out.2, ← Hsk.out]; simp [ByteArray.append_assoc], ⟨HB0.out.os, HB0.out.tape, HB0.out.output, HB0.out.size, HB0.out.block⟩⟩
        · have Hd := hide (And.intro (dash_s e0) (dash_s' e1))
          go_wp2_with fail
          go_ret
          exact ⟨by rw [Htx.out, Hd.out.1, Hd.out.2, ← Hsk.out]; simp [ByteArray.append_assoc], ⟨HB0.out.os, HB0.out.tape, HB0.out.output, HB0.out.size, HB0.out.block⟩⟩
        · have Hd := hide (And.intro (dash_s' e0) (dash_s e1))
          go_wp2_with fail
          go_ret
          exact ⟨by rw [Htx.out, Hd.out.1, Hd.out.2, ← Hsk.out]; simp [ByteArray.append_assoc], ⟨HB0.out.os, HB0.out.tape, HB0.out.output, HB0.out.size, HB0.out.block⟩⟩
        · have Hd := hide (And.intro (dash_s' e0) (dash_s' e1))
          go_wp2_with fail
          go_ret
          exact ⟨by rw [Htx.out, Hd.out.1, Hd.out.2, ← Hsk.out]; simp [ByteArray.append_assoc], ⟨HB0.out.os, HB0.out.tape, HB0.out.output, HB0.out.size, HB0.out.block⟩⟩
end Go.Proofs.YtcdfeaodfmfdnaaGreatDoor
