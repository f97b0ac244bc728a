/- board.Swapped at right positions -/
import Derived.Test.YtfoehijlafooaaaBoardRound
import Derived.BigRegion
namespace Go.Proofs.Ytfoehijlafooaaa
open Go.RowKit

/-! A block that is known whole, with what of it is shut. -/
def BlkF (w : World) (g : Nat) (t : TypeId) (fr : Nat × Nat) (cs : Array Value) : Prop := w.heap[g]? = some (.cells cs t fr)
section
variable {w w' : World} {g : Nat} {t : TypeId} {fr : Nat × Nat} {cs : Array Value}
theorem BlkF.lt (h : BlkF w g t fr cs) : g < w.heap.size := (Array.getElem?_eq_some_iff.1 h).1
theorem BlkF.cell (h : BlkF w g t fr cs) (i : Nat) : w.cell? ⟨g, i, none⟩ = cs[i]? := by simp [World.cell?, show w.heap[g]? = _ from h]
theorem BlkF.cellv (h : BlkF w g t fr cs) {i : Nat} {v : Value} (hv : cs[i]? = some v) : w.cell? ⟨g, i, none⟩ = some v := by rw [h.cell, hv]
theorem BlkF.free (h : BlkF w g t fr cs) {i : Nat} (hi : i < fr.1) : w.frozen? ⟨g, i, none⟩ = false := by
  simp [World.frozen?, show w.heap[g]? = _ from h]; omega
theorem BlkF.set_ (h : BlkF w g t fr cs) (i : Nat) (u : Value) : BlkF (w.setCell ⟨g, i, none⟩ u) g t fr (cs.setIfInBounds i u) := by
  simp [BlkF, World.setCell, Array.getElem?_modify, show w.heap[g]? = _ from h]
theorem BlkF.only {S : Nat → Prop} (h : BlkF w g t fr cs) (hb : Only S w w') (hg : ¬ S g) : BlkF w' g t fr cs := (hb.block g h.lt hg).trans h
theorem BlkF.drewN (h : BlkF w g t fr cs) (n : Nat) : BlkF (w.drewN n) g t fr cs := h
end

def byteV (l : List UInt8) (j : Nat) : Value := .int .u8 ((l.getD j 0).toNat : Int)
theorem bytesRow_arr (s : ByteArray) (cap : Nat) (h : s.size ≤ cap) : bytesRow s cap = arrV cap (byteV s.data.toList) := by
  apply Array.ext_getElem?
  intro j
  by_cases hj : j < cap
  · rw [arrV_get hj]
    by_cases hs : j < s.size
    · have : j < s.data.size := hs
      simp [bytesRow, byteV, Array.getElem?_append, hs, List.getD_eq_getElem?_getD]
    · have h2 : s.data.toList[j]? = none := List.getElem?_eq_none (by have : s.data.toList.length = s.size := rfl; omega)
      simp only [bytesRow, byteV, List.getD_eq_getElem?_getD, h2]
      have h3 : (Array.map (fun b : UInt8 => Value.int .u8 (b.toNat : Int)) s.data).size = s.size := by rw [Array.size_map]; rfl
      rw [Array.getElem?_append_right (by rw [h3]; omega), h3, Array.getElem?_replicate, if_pos (by omega)]
      rfl
  · rw [arrV_out hj]
    rw [Array.getElem?_eq_none]
    simp [bytesRow]
    omega

/-- '[]byte(s)' -/
theorem run_bytes_to {P : Program} (w : World) (src dst e : TypeId) (s : ByteArray) (hs : P.underlying src = some .string) (hd : P.underlying dst = some (.slice e)) (he : P.underlying e = some (.int .u8)) :
    ∃ cap w', s.size ≤ cap ∧ (convert src dst (.string s)).run P w = .ok (.slice (some ⟨w.heap.size, 0, none⟩) s.size cap) w' ∧ Only (fun _ => False) w w' ∧ w'.heap.size = w.heap.size + 1 ∧
      BlkF w' w.heap.size e (cap, cap + 1) (arrV cap (byteV s.data.toList)) := by
  refine ⟨grownCap w s.size 0 e, _, ?_, run_bytes_of_string w src dst e s hs hd he, ((Only.refl _ w).drew).alloc _, by simp, ?_⟩
  · exact grownCap_ge _ _ _ _
  · rw [bytesRow_arr _ _ (grownCap_ge _ _ _ _)]
    simp only [arrV_size]
    exact heap_new w.drew _

theorem otherL_get {l : List UInt8} {j : Nat} (h : j < l.length) : ((otherL l)[j]'(by simpa [otherL] using h)).toNat = otherN l[j].toNat := by
  simp only [otherL, List.getElem_map]
  have := otherN_lt (n := l[j].toNat) (UInt8.toNat_lt _)
  simp only [UInt8.toNat_ofNat']
  omega
theorem getD_byte {s : ByteArray} {i : Nat} (h : i < s.size) : s.data.toList.getD i 0 = s[i] := by
  have h2 : i < s.data.toList.length := h
  rw [List.getD_eq_getElem?_getD, List.getElem?_eq_getElem h2]; rfl
/-- the array once the first i letters are the other player's -/
def swapV (l : List UInt8) (i j : Nat) : Value := .int .u8 ((if j < i then otherN (l.getD j 0).toNat else (l.getD j 0).toNat : Nat) : Int)

set_option maxHeartbeats 4000000 in
set_option maxRecDepth 100000 in
theorem swapped_in (w h : Nat) (t : Int) (c h0 h1 : ByteArray) (W : World) (hp : PosOk ⟨w, h, c, t, h0, h1⟩) :
    Calls Try.prog 19 #[.agg #[.int .i64 w, .int .i64 h, .string c, .int .i64 t, .string h0, .string h1]] W fun e w' => e = .returned (.tuple #[posV (exchP ⟨w, h, c, t, h0, h1⟩), .int .i64 0]) ∧ Below W.heap.size W w' := by
  have Ht := hide fun W => turned_in w h t c h0 h1 W hp 2 (by omega)
  obtain ⟨C, hC⟩ : ∃ C, (turnP ⟨w, h, c, t, h0, h1⟩ 2).cells = C := ⟨_, rfl⟩
  have hq : turnP ⟨w, h, c, t, h0, h1⟩ 2 = ⟨w, h, C, t, h0, h1⟩ := by rw [← hC]; rfl
  have hqo := turn_ok hp 2
  rw [hq] at Ht hqo
  have hC64 : C.size ≤ 64 := by
    have h1 := hqo.size
    have h2 := mul_in hqo.w1 hqo.w8 hqo.h1 hqo.h8
    simp only at h1 h2
    omega
  have ht0 := hp.t0
  have ht1 := hp.t1
  simp only at ht0 ht1
  have Hfin := hide (show exchP ⟨w, h, c, t, h0, h1⟩ = ⟨w, h, bytes (otherL C.data.toList), 1 - t, h1, h0⟩ by simp [exchP, hC])
  clear hp hqo hC hq
  go_enter Try.func19, Try.ntmps19
  go_wp2_with fail
  refine (Ht.out _).mono ?_
  rintro e w1 ⟨rfl, hb1⟩
  simp only [posV]
  have b0 := ((Blk.new W 36 #[.int .i64 w, .int .i64 h, .string c, .int .i64 t, .string h0, .string h1]).alloc (.cells #[.int .i64 0, .int .i64 0, .string ⟨#[]⟩, .int .i64 0, .string ⟨#[]⟩, .string ⟨#[]⟩] 36)).below hb1 (by simp; omega)
  have b1 := (Blk.new (W.alloc (.cells #[.int .i64 w, .int .i64 h, .string c, .int .i64 t, .string h0, .string h1] 36)) 36 #[.int .i64 0, .int .i64 0, .string ⟨#[]⟩, .int .i64 0, .string ⟨#[]⟩, .string ⟨#[]⟩]).below hb1 (by simp)
  simp only [World.size_alloc] at b1
  have B0 := hide (b0.alloc (.cells #[.int .i64 w, .int .i64 h, .string C, .int .i64 t, .string h0, .string h1] 36))
  have B1 := hide (b1.alloc (.cells #[.int .i64 w, .int .i64 h, .string C, .int .i64 t, .string h0, .string h1] 36))
  have B2 := hide (Blk.new w1 36 #[.int .i64 w, .int .i64 h, .string C, .int .i64 t, .string h0, .string h1])
  have hz : W.heap.size + 1 < w1.heap.size := by have := hb1.size; simp at this; omega
  have Hb := hide (below_alloc0 ((below_alloc0 (below_fresh W (.cells #[.int .i64 w, .int .i64 h, .string c, .int .i64 t, .string h0, .string h1] 36)) (.cells #[.int .i64 0, .int .i64 0, .string ⟨#[]⟩, .int .i64 0, .string ⟨#[]⟩, .string ⟨#[]⟩] 36)).trans (hb1.mono (by simp; omega))) (.cells #[.int .i64 w, .int .i64 h, .string C, .int .i64 t, .string h0, .string h1] 36))
  have hz2 : w1.heap.size + 1 = (w1.alloc (.cells #[.int .i64 w, .int .i64 h, .string C, .int .i64 t, .string h0, .string h1] 36)).heap.size := by simp
  clear hb1 b0 b1
  go_upto_region 4 with (fail)
  generalize w1.alloc (.cells #[.int .i64 w, .int .i64 h, .string C, .int .i64 t, .string h0, .string h1] 36) = w2 at *
  generalize w1.heap.size = g at *
  obtain ⟨⟨x0, x1, x2, x3, x4, x5⟩, -⟩ := B2.out.six
  obtain ⟨cap, w3, hcap, hcv, hO3, hs3, hA3⟩ := run_bytes_to (P := Try.prog) w2 9 91 5 C Try.underlying9 Try.underlying91 Try.underlying5
  have HA3 := hide hA3
  have HO3 := hide hO3
  have Hs3 := hide hs3
  clear hA3 hO3 hs3
  obtain ⟨gA, hgA⟩ : ∃ gA, w2.heap.size = gA := ⟨_, rfl⟩
  rw [hgA] at hz2 hcv HA3
  have HgA := hide hgA
  clear hgA
  go_wp2_with fail
  clear hcv x0 x1 x2 x3 x4 x5
  go_loopw [23] (fun idx wr => ∃ i : Nat, i ≤ C.size ∧ idx = .int .i64 i ∧ BlkF wr gA 5 (cap, cap + 1) (arrV cap (swapV C.data.toList i)) ∧ Only (fun k => k = gA) w3 wr) (fun idx _ => C.size - (intOf idx).toNat)
  case atStart =>
    refine ⟨0, by omega, rfl, ?_, Only.refl _ _⟩
    have he : arrV cap (swapV C.data.toList 0) = arrV cap (byteV C.data.toList) := by
      congr 1
    rw [he]
    exact HA3.out
  case round =>
    rename World => wr
    obtain ⟨i, hi, rfl, hA, hK⟩ := hrel
    have HA := hide hA
    have HK := hide hK
    clear hA hK
    by_cases hlt : i < C.size
    · have f1 := HA.out.cellv (i := i) (arrV_get (by omega))
      have f2 := HA.out.free (i := i) (show i < cap by omega)
      have f3 : swapV C.data.toList i i = .int .u8 (C[i].toNat : Int) := by
        unfold swapV
        rw [if_neg (by omega), getD_byte hlt]
      rw [f3] at f1
      have j1 : (0 : Int) ≤ (i : Int) := by omega
      have j2 : (i : Int) < (C.size : Int) := by omega
      have Hset := hide (show (arrV cap (swapV C.data.toList i)).setIfInBounds i (.int .u8 (otherN C[i].toNat : Int)) = arrV cap (swapV C.data.toList (i + 1)) by
        refine arrV_set _ _ _ _ _ ?_ ?_
        · unfold swapV
          rw [if_pos (by omega), getD_byte hlt]
        · intro j hj hne
          unfold swapV
          by_cases h2 : j < i
          · rw [if_pos h2, if_pos (by omega)]
          · rw [if_neg h2, if_neg (by omega)])
      have Hot := hide fun W => other_any C[i].toNat W
      clear f3
      go_wp2_with (first | (go_at_call 47; refine (Hot.out _).mono ?_; rintro e w' ⟨rfl, rfl⟩) | fail)
      go_roundw
      case rel => exact ⟨i + 1, by omega, by go_num, by rw [← Hset.out]; exact HA.out.set_ i _, HK.out.setCell (.inl rfl) _⟩
      case measure => simp [intOf]; omega
    · obtain rfl : i = C.size := by omega
      have hg3 : g < w3.heap.size := by have := Hs3.out; have := HgA.out; omega
      have hK := HK.out
      have c0 := (B0.out.only HO3.out id).only hK (by have := HgA.out; omega)
      have c1 := (B1.out.only HO3.out id).only hK (by have := HgA.out; omega)
      have c2 := (B2.out.only HO3.out id).only hK (by have := HgA.out; omega)
      obtain ⟨⟨p0, p1, p2, p3, p4, p5⟩, -⟩ := c0.six
      obtain ⟨⟨r0, r1, r2, r3, r4, r5⟩, r6, r7, r8, r9, r10, r11⟩ := c1.six
      obtain ⟨⟨x0, x1, x2, x3, x4, x5⟩, x6, x7, x8, x9, x10, x11⟩ := c2.six
      obtain ⟨S, hS⟩ : ∃ S : ByteArray, bytes (otherL C.data.toList) = S := ⟨_, rfl⟩
      have hcv : (convert 91 9 (.slice (some ⟨gA, 0, none⟩) C.size cap)).run Try.prog wr.drew = .ok (.string S) wr.drew := by
        have := run_convert_bytes_back (P := Try.prog) wr.drew 91 9 5 ⟨gA, 0, none⟩ cap (otherL C.data.toList) Try.underlying91 Try.underlying5 Try.underlying9 (fun j hj => by
          have hj2 : j < C.data.toList.length := by simpa [otherL] using hj
          have hj3 : j < C.size := hj2
          rw [Addr.add_lit, Nat.zero_add, show wr.drew.cell? _ = wr.cell? _ from rfl, HA.out.cellv (arrV_get (by omega)), otherL_get hj2]
          unfold swapV
          rw [if_pos hj3, getD_byte hj3]
          rfl)
        have hl : (otherL C.data.toList).length = C.size := by simp only [otherL, List.length_map]; rfl
        rw [hl, show (⟨(otherL C.data.toList).toArray⟩ : ByteArray) = S from hS] at this
        exact this
      have HS := hide hS
      have hzg : ¬ (W.heap.size = g) := by omega
      have hzg1 : ¬ (W.heap.size + 1 = g) := by omega
      have hsub : IntKind.i64.wrap (1 - t) = 1 - t := IntWalk.i64_in _ (by omega)
      have hB := Hb.out.trans (((HO3.out.mono (fun _ _ h => h.elim)).trans hK).below_ (fun k h => by subst h; exact Nat.le_refl _) (by have := HgA.out; omega) |>.mono (by have := HgA.out; omega))
      have HB := hide hB
      clear c0 c1 c2 hS hK hB
      go_wp2_with fail
      go_big_region
      clear hcv
      go_wp2_with fail
      refine bodyPost_ret (v := .tuple #[.agg #[.int .i64 w, .int .i64 h, .string S, .int .i64 (1 - t), .string h1, .string h0], .int .i64 0]) (by simp [results, Try.results19, go_sem, r0, r1, r2, r3, r4, r5]) rfl ⟨by rw [Hfin.out, ← HS.out]; rfl, ?_⟩
      repeat (first | with_reducible exact HB.out | with_reducible refine below_drew_ ?_ | with_reducible refine below_setg ?_ (by omega) _)
end Go.Proofs.Ytfoehijlafooaaa
