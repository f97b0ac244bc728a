/- gameref.wayText: the document's text of a way, walked. gameref.wayOf: the document's reader of a way, walked. -/
import Derived.Test.YtcdfeaodfmfdnaaGreatDoorRxNumM
import Derived.Test.YtcdfeaodfmfdnaaGreatDoorRxWay
import Derived.Deep.RegionHeld
import Derived.Test.YtcdfeaodfmfdnaaGreatDoorRxLineM
namespace Go.Proofs.YtcdfeaodfmfdnaaGreatDoor
open Go.RowKit

theorem idx_kind {k : Int} (h1 : 1 ≤ k) (h3 : k ≤ 3) : ∀ w : World, (Instr.index 134 (.agg #[.string ⟨#[]⟩, .string ⟨#[108, 101, 97, 112]⟩, .string ⟨#[115, 108, 105, 100, 101]⟩, .string ⟨#[115, 116, 101, 112]⟩]) (.int .i64 k)).run Tryz.prog w = .ok (.string (bytes (kindL k))) w := by
  rcases (show k = 1 ∨ k = 2 ∨ k = 3 by omega) with rfl | rfl | rfl
  · exact kind_idx1
  · exact kind_idx2
  · exact kind_idx3
theorem idx_take {k : Int} (h1 : 0 ≤ k) (h3 : k ≤ 2) : ∀ w : World, (Instr.index 135 (.agg #[.string ⟨#[]⟩, .string ⟨#[32, 116, 97, 107, 101]⟩, .string ⟨#[32, 113, 117, 105, 101, 116]⟩]) (.int .i64 k)).run Tryz.prog w = .ok (.string (bytes (takeL k))) w := by
  rcases (show k = 0 ∨ k = 1 ∨ k = 2 by omega) with rfl | rfl | rfl
  · exact take_idx0
  · exact take_idx1
  · exact take_idx2
theorem wtext_eq (w : WayD) (c d e f : ByteArray) (hc : bytes (kindL w.kind) = c) (hd : bytes (Lib.decDigits w.x.toNat) = d) (he : bytes (Lib.decDigits w.y.toNat) = e) (hf : bytes (takeL w.take) = f) :
    ((((c ++ ⟨#[32]⟩) ++ d) ++ ⟨#[32]⟩) ++ e) ++ f = bytes (wayL w) := by
  subst hc hd he hf
  rw [show (⟨#[32]⟩ : ByteArray) = bytes [32] from rfl]
  simp only [bytes_cat]
  congr 1
  unfold wayL
  simp
set_option maxHeartbeats 8000000 in
set_option maxRecDepth 100000 in
theorem wtext_any (wy : WayD) (W : World) (hi : WayIn wy) (he : Env W) :
    Calls Tryz.prog 92 #[.agg #[.int .i64 wy.kind, .int .i64 wy.x, .int .i64 wy.y, .int .i64 wy.take]] W fun e w' => e = .returned (.string (bytes (wayL wy))) ∧ Only (fun _ => False) W w' := by
  obtain ⟨hk, ht, ⟨xn, hxn, hx9⟩, ⟨yn, hyn, hy9⟩⟩ := hi
  have ik := idx_kind (k := wy.kind) (by omega) (by omega)
  have it := idx_take (k := wy.take) (by omega) (by omega)
  have l2 : (bytes (kindL wy.kind)).size ≤ 5 := by rw [bytes_size]; unfold kindL; repeat (first | decide | split)
  have l3 : (bytes (Lib.decDigits xn)).size ≤ 4 := by rw [bytes_size]; exact dec_len hx9
  have l4 : (bytes (Lib.decDigits yn)).size ≤ 4 := by rw [bytes_size]; exact dec_len hy9
  have l5 : (bytes (takeL wy.take)).size ≤ 6 := by rw [bytes_size]; unfold takeL; repeat (first | decide | split)
  obtain ⟨sk, hsk⟩ : ∃ sk, bytes (kindL wy.kind) = sk := ⟨_, rfl⟩
  obtain ⟨sx, hsx⟩ : ∃ sx, bytes (Lib.decDigits xn) = sx := ⟨_, rfl⟩
  obtain ⟨sy, hsy⟩ : ∃ sy, bytes (Lib.decDigits yn) = sy := ⟨_, rfl⟩
  obtain ⟨st, hst⟩ : ∃ st, bytes (takeL wy.take) = st := ⟨_, rfl⟩
  have Hwt := hide (wtext_eq wy sk sx sy st hsk (by rw [hxn]; exact hsx) (by rw [hyn]; exact hsy) hst)
  have Hsx := hide hsx
  have Hsy := hide hsy
  have hx7 := hide hx9
  have hy7 := hide hy9
  rw [hsk] at ik l2
  rw [hsx] at l3
  rw [hsy] at l4
  rw [hst] at it l5
  rw [hxn, hyn]
  have c0 : ¬ 9223372036854775807 < sk.size + 1 := by omega
  have c1 : ¬ 9223372036854775807 < sk.size + 1 + sx.size := by omega
  have c2 : ¬ 9223372036854775807 < sk.size + 1 + sx.size + 1 := by omega
  have c3 : ¬ 9223372036854775807 < sk.size + 1 + sx.size + 1 + sy.size := by omega
  have c4 : ¬ 9223372036854775807 < sk.size + 1 + sx.size + 1 + sy.size + st.size := by omega
  have hal : Only (fun _ => False) W (W.alloc (.cells #[.int .i64 wy.kind, .int .i64 (xn : Int), .int .i64 (yn : Int), .int .i64 wy.take] 80)) := (Only.refl _ W).alloc _
  have HE := hide (he.no hal)
  have HO := hide hal
  have HB := hide (Blk.new W 80 #[.int .i64 wy.kind, .int .i64 (xn : Int), .int .i64 (yn : Int), .int .i64 wy.take])
  clear hk ht hxn hyn hx9 hy9 hsk hsx hsy hst he hal
  go_enter Tryz.func92, Tryz.ntmps92
  go_upto_region 1 with (fail)
  obtain ⟨w7, hw7⟩ : ∃ w7, W.alloc (.cells #[.int .i64 wy.kind, .int .i64 (xn : Int), .int .i64 (yn : Int), .int .i64 wy.take] 80) = w7 := ⟨_, rfl⟩
  obtain ⟨gw, hgw⟩ : ∃ gw, W.heap.size = gw := ⟨_, rfl⟩
  rw [hw7] at HE HO HB ⊢
  rw [hgw] at HB ⊢
  clear hw7 hgw
  have HS := hide (fun w' (ho : Only (fun _ => False) w7 w') => (show w'.cell? ⟨gw, 0, none⟩ = some (.int .i64 wy.kind) ∧ w'.cell? ⟨gw, 1, none⟩ = some (.int .i64 (xn : Int)) ∧ w'.cell? ⟨gw, 2, none⟩ = some (.int .i64 (yn : Int)) ∧ w'.cell? ⟨gw, 3, none⟩ = some (.int .i64 wy.take) from (by
    have hB := HB.out.only ho (fun h => h)
    exact ⟨hB.cellv rfl, hB.cellv rfl, hB.cellv rfl, hB.cellv rfl⟩)))
  refine wp_region_held_drew (S := fun w' : World => (w'.cell? ⟨gw, 0, none⟩ = some (.int .i64 wy.kind) ∧ w'.cell? ⟨gw, 1, none⟩ = some (.int .i64 (xn : Int)) ∧ w'.cell? ⟨gw, 2, none⟩ = some (.int .i64 (yn : Int)) ∧ w'.cell? ⟨gw, 3, none⟩ = some (.int .i64 wy.take))) (by kernel_rfl) (HS.out _ (Only.refl (fun _ => False) w7).drew) (fun hHeld => ?_)
  refine wpAnyH_take (i := 0) (oi := ⟨some 3, _, _, _, _, _⟩) (v := ?_) rfl (by kernel_rfl) (by kernel_rfl) (by kernel_rfl) (fun _ _ _ h => h) (Or.inl ⟨by rfl, ?_⟩) (by assumption) ?_
  rotate_left 1
  · intro w hSw
    try dsimp only at hSw
    go_simp <;> with_reducible rfl
  try simp only [Act.put, List.setIfInBounds_toArray, List.set_cons_zero, List.set_cons_succ]
  refine wpAnyH_take (i := 1) (oi := ⟨some 4, _, _, _, _, _⟩) (v := ?_) rfl (by kernel_rfl) (by kernel_rfl) (by kernel_rfl) (fun _ _ _ h => h) (Or.inl ⟨by rfl, ?_⟩) (by assumption) ?_
  rotate_left 1
  · intro w hSw
    try dsimp only at hSw
    go_simp <;> with_reducible rfl
  try simp only [Act.put, List.setIfInBounds_toArray, List.set_cons_zero, List.set_cons_succ]
  refine wpAnyH_take (i := 2) (oi := ⟨some 5, _, _, _, _, _⟩) (v := ?_) rfl (by kernel_rfl) (by kernel_rfl) (by kernel_rfl) (fun _ _ _ h => h) (Or.inl ⟨by rfl, ?_⟩) (by assumption) ?_
  rotate_left 1
  · intro w hSw
    try dsimp only at hSw
    go_simp <;> with_reducible rfl
  try simp only [Act.put, List.setIfInBounds_toArray, List.set_cons_zero, List.set_cons_succ]
  refine wpAnyH_take (i := 3) (oi := ⟨some 6, _, _, _, _, _⟩) (v := ?_) rfl (by kernel_rfl) (by kernel_rfl) (by kernel_rfl) (fun _ _ _ h => h) (Or.inl ⟨by rfl, ?_⟩) (by assumption) ?_
  rotate_left 1
  · intro w hSw
    try dsimp only at hSw
    go_simp <;> with_reducible rfl
  try simp only [Act.put, List.setIfInBounds_toArray, List.set_cons_zero, List.set_cons_succ]
  refine wpAnyH_take (i := 4) (oi := ⟨some 7, _, _, _, _, _⟩) (v := ?_) rfl (by kernel_rfl) (by kernel_rfl) (by kernel_rfl) (fun _ _ _ h => h) (Or.inl ⟨by rfl, ?_⟩) (by assumption) ?_
  rotate_left 1
  · intro w hSw
    try dsimp only at hSw
    go_simp <;> with_reducible rfl
  try simp only [Act.put, List.setIfInBounds_toArray, List.set_cons_zero, List.set_cons_succ]
  refine wpAnyH_take (i := 5) (oi := ⟨some 8, _, _, _, _, _⟩) (v := ?_) rfl (by kernel_rfl) (by kernel_rfl) (by kernel_rfl) (fun _ _ _ h => h) (Or.inl ⟨by rfl, ?_⟩) (by assumption) ?_
  rotate_left 1
  · intro w hSw
    try dsimp only at hSw
    go_simp <;> with_reducible rfl
  try simp only [Act.put, List.setIfInBounds_toArray, List.set_cons_zero, List.set_cons_succ]
  refine wpAnyH_take (i := 6) (oi := ⟨some 9, _, _, _, _, _⟩) (v := ?_) rfl (by kernel_rfl) (by kernel_rfl) (by kernel_rfl) (fun _ _ _ h => h) (Or.inl ⟨by rfl, ?_⟩) (by assumption) ?_
  rotate_left 1
  · intro w hSw
    try dsimp only at hSw
    go_simp <;> with_reducible rfl
  try simp only [Act.put, List.setIfInBounds_toArray, List.set_cons_zero, List.set_cons_succ]
  refine wpAnyH_take (i := 10) (oi := ⟨some 13, _, _, _, _, _⟩) (v := ?_) rfl (by kernel_rfl) (by kernel_rfl) (by kernel_rfl) (fun _ _ _ h => h) (Or.inl ⟨by rfl, ?_⟩) (by assumption) ?_
  rotate_left 1
  · intro w hSw
    try dsimp only at hSw
    go_simp <;> with_reducible rfl
  try simp only [Act.put, List.setIfInBounds_toArray, List.set_cons_zero, List.set_cons_succ]
  refine wpAnyH_take (i := 11) (oi := ⟨some 14, _, _, _, _, _⟩) (v := ?_) rfl (by kernel_rfl) (by kernel_rfl) (by kernel_rfl) (fun _ _ _ h => h) (Or.inl ⟨by rfl, ?_⟩) (by assumption) ?_
  rotate_left 1
  · intro w hSw
    try dsimp only at hSw
    go_simp <;> with_reducible rfl
  try simp only [Act.put, List.setIfInBounds_toArray, List.set_cons_zero, List.set_cons_succ]
  refine wpAnyH_take (i := 14) (oi := ⟨some 17, _, _, _, _, _⟩) (v := ?_) rfl (by kernel_rfl) (by kernel_rfl) (by kernel_rfl) (fun _ _ _ h => h) (Or.inl ⟨by rfl, ?_⟩) (by assumption) ?_
  rotate_left 1
  · intro w hSw
    try dsimp only at hSw
    go_simp <;> with_reducible rfl
  try simp only [Act.put, List.setIfInBounds_toArray, List.set_cons_zero, List.set_cons_succ]
  refine wpAnyH_take (i := 15) (oi := ⟨some 18, _, _, _, _, _⟩) (v := ?_) rfl (by kernel_rfl) (by kernel_rfl) (by kernel_rfl) (fun _ _ _ h => h) (Or.inl ⟨by rfl, ?_⟩) (by assumption) ?_
  rotate_left 1
  · intro w hSw
    try dsimp only at hSw
    go_simp <;> with_reducible rfl
  try simp only [Act.put, List.setIfInBounds_toArray, List.set_cons_zero, List.set_cons_succ]
  refine wpAnyH_take (i := 16) (oi := ⟨some 19, _, _, _, _, _⟩) (v := ?_) rfl (by kernel_rfl) (by kernel_rfl) (by kernel_rfl) (fun _ _ _ h => h) (Or.inl ⟨by rfl, ?_⟩) (by assumption) ?_
  rotate_left 1
  · intro w hSw
    try dsimp only at hSw
    go_simp <;> with_reducible rfl
  try simp only [Act.put, List.setIfInBounds_toArray, List.set_cons_zero, List.set_cons_succ]
  refine wpAnyH_take (i := 17) (oi := ⟨some 20, _, _, _, _, _⟩) (v := ?_) rfl (by kernel_rfl) (by kernel_rfl) (by kernel_rfl) (fun _ _ _ h => h) (Or.inl ⟨by rfl, ?_⟩) (by assumption) ?_
  rotate_left 1
  · intro w hSw
    try dsimp only at hSw
    go_simp <;> with_reducible rfl
  try simp only [Act.put, List.setIfInBounds_toArray, List.set_cons_zero, List.set_cons_succ]
  refine wpAnyH_ready (rs := [7]) (by kernel_rfl) (by simp) ?_
  refine AllReadyH.cons (o := ⟨some 10, _, _, _, _, _⟩) rfl (fun K hK => ?_) ?_
  · clear hHeld
    go_simp
    go_at_call 29
    refine (itoa_env xn _ hx7.out (HE.out.no (Only.refl (fun _ => False) w7).drew)).mono ?_
    rintro e w8 ⟨rfl, ho8⟩
    rw [Hsx.out]
    refine hK.out _ _ (by first | exact HS.out _ (((Only.refl (fun _ => False) w7).drew.trans ho8).trans ho9) | exact HS.out _ ((Only.refl (fun _ => False) w7).drew.trans ho8) | exact HS.out _ (Only.refl (fun _ => False) w7).drew) (fun hHeld => ?_)
    clear hK K
    try simp only [Act.put, List.setIfInBounds_toArray, List.set_cons_zero, List.set_cons_succ]
    refine wpAnyH_take (i := 8) (oi := ⟨some 11, _, _, _, _, _⟩) (v := ?_) rfl (by kernel_rfl) (by kernel_rfl) (by kernel_rfl) (fun _ _ _ h => h) (Or.inl ⟨by rfl, ?_⟩) (by assumption) ?_
    rotate_left 1
    · intro w hSw
      try dsimp only at hSw
      go_simp <;> with_reducible rfl
    try simp only [Act.put, List.setIfInBounds_toArray, List.set_cons_zero, List.set_cons_succ]
    refine wpAnyH_take (i := 9) (oi := ⟨some 12, _, _, _, _, _⟩) (v := ?_) rfl (by kernel_rfl) (by kernel_rfl) (by kernel_rfl) (fun _ _ _ h => h) (Or.inl ⟨by rfl, ?_⟩) (by assumption) ?_
    rotate_left 1
    · intro w hSw
      try dsimp only at hSw
      go_simp <;> with_reducible rfl
    try simp only [Act.put, List.setIfInBounds_toArray, List.set_cons_zero, List.set_cons_succ]
    refine wpAnyH_ready (rs := [12]) (by kernel_rfl) (by simp) ?_
    refine AllReadyH.cons (o := ⟨some 15, _, _, _, _, _⟩) rfl (fun K hK => ?_) ?_
    · clear hHeld
      go_simp
      go_at_call 29
      refine (itoa_env yn _ hy7.out (HE.out.no ((Only.refl (fun _ => False) w7).drew.trans ho8))).mono ?_
      rintro e w9 ⟨rfl, ho9⟩
      rw [Hsy.out]
      refine hK.out _ _ (by first | exact HS.out _ (((Only.refl (fun _ => False) w7).drew.trans ho8).trans ho9) | exact HS.out _ ((Only.refl (fun _ => False) w7).drew.trans ho8) | exact HS.out _ (Only.refl (fun _ => False) w7).drew) (fun hHeld => ?_)
      clear hK K
      try simp only [Act.put, List.setIfInBounds_toArray, List.set_cons_zero, List.set_cons_succ]
      refine wpAnyH_take (i := 13) (oi := ⟨some 16, _, _, _, _, _⟩) (v := ?_) rfl (by kernel_rfl) (by kernel_rfl) (by kernel_rfl) (fun _ _ _ h => h) (Or.inl ⟨by rfl, ?_⟩) (by assumption) ?_
      rotate_left 1
      · intro w hSw
        try dsimp only at hSw
        go_simp <;> with_reducible rfl
      try simp only [Act.put, List.setIfInBounds_toArray, List.set_cons_zero, List.set_cons_succ]
      refine wpAnyH_take (i := 18) (oi := ⟨some 21, _, _, _, _, _⟩) (v := ?_) rfl (by kernel_rfl) (by kernel_rfl) (by kernel_rfl) (fun _ _ _ h => h) (Or.inl ⟨by rfl, ?_⟩) (by assumption) ?_
      rotate_left 1
      · intro w hSw
        try dsimp only at hSw
        go_simp <;> with_reducible rfl
      try simp only [Act.put, List.setIfInBounds_toArray, List.set_cons_zero, List.set_cons_succ]
      refine wpAnyH_take (i := 19) (oi := ⟨some 2, _, _, _, _, _⟩) (v := ?_) rfl (by kernel_rfl) (by kernel_rfl) (by kernel_rfl) (fun _ _ _ h => h) (Or.inl ⟨by rfl, ?_⟩) (by assumption) ?_
      rotate_left 1
      · intro w hSw
        try dsimp only at hSw
        go_simp <;> with_reducible rfl
      try simp only [Act.put, List.setIfInBounds_toArray, List.set_cons_zero, List.set_cons_succ]
      refine wpAnyH_done (by kernel_rfl) ?_ _
      rw [Hwt.out]
      go_wp2_with fail
      go_ret
      exact ⟨rfl, HO.out.trans (((Only.refl (fun _ => False) w7).drew.trans ho8).trans ho9)⟩
    exact AllReadyH.nil
  exact AllReadyH.nil
end Go.Proofs.YtcdfeaodfmfdnaaGreatDoor
namespace Go.Proofs.YtcdfeaodfmfdnaaGreatDoor
open Go.RowKit

theorem way_parts {l : List UInt8} {w : WayD} (hi : WayIn w) (hl : l = wayL w) : 3 ≤ (splitL 32 l).length ∧ (splitL 32 l).getD 1 [] = Lib.decDigits w.x.toNat ∧ (splitL 32 l).getD 2 [] = Lib.decDigits w.y.toNat := by
  obtain ⟨hk, ht, ⟨mx, ex, mx9⟩, my, ey, my9⟩ := hi
  have n1 : (32 : UInt8) ∉ Lib.decDigits mx := dec_no (by decide)
  have n2 : (32 : UInt8) ∉ Lib.decDigits my := dec_no (by decide)
  have hl' : l = kindL w.kind ++ 32 :: (Lib.decDigits mx ++ 32 :: (Lib.decDigits my ++ takeL w.take)) := by rw [hl, wayL, ex, ey]; simp
  have hs : splitL 32 l = kindL w.kind :: Lib.decDigits mx :: splitL 32 (Lib.decDigits my ++ takeL w.take) := by
    rw [hl', splitL_app (kind_no _), splitL_app n1]
  have h3 : ∃ R, splitL 32 (Lib.decDigits my ++ takeL w.take) = Lib.decDigits my :: R := by
    rcases ht with h0 | h1 | h2
    · rw [h0, show takeL 0 = [] from rfl, List.append_nil, splitL_none n2]; exact ⟨_, rfl⟩
    · rw [h1, show takeL 1 = 32 :: [116, 97, 107, 101] from rfl, splitL_app n2]; exact ⟨_, rfl⟩
    · rw [h2, show takeL 2 = 32 :: [113, 117, 105, 101, 116] from rfl, splitL_app n2]; exact ⟨_, rfl⟩
  obtain ⟨R, hR⟩ := h3
  rw [hs, hR, ex, ey]
  exact ⟨by simp, by simp, by simp⟩
theorem cnt_one {l : List UInt8} {n : Int} {m : Nat} (h : CntP l n) (hm : m ≤ 9999) (hl : l = Lib.decDigits m) : n = m := by
  rcases h with ⟨k, rfl, hk, e⟩ | ⟨_, h⟩
  · rw [hl] at e
    have h1 := atoi_dec m
    rw [e, atoi_dec k] at h1
    have := Option.some.inj h1
    omega
  · exact absurd hl (h m hm)
theorem cnt_neg {l : List UInt8} {n : Int} (h : CntP l n) (hn : n < 0) : ∀ m : Nat, m ≤ 9999 → l ≠ Lib.decDigits m := by
  rcases h with ⟨m, rfl, _⟩ | ⟨_, h⟩
  · omega
  · exact h
theorem cnt_pos {l : List UInt8} {n : Int} (h : CntP l n) (hn : 0 ≤ n) : ∃ m : Nat, n = m ∧ m ≤ 9999 ∧ l = Lib.decDigits m := by
  rcases h with h | ⟨rfl, _⟩
  · exact h
  · omega
def WofOut (s : ByteArray) (W : World) (e : Ending) (w' : World) : Prop :=
  ∃ (wy : WayD) (ok : Bool), e = .returned (.tuple #[.agg #[.int .i64 wy.kind, .int .i64 wy.x, .int .i64 wy.y, .int .i64 wy.take], .bool ok]) ∧ WayP s.data.toList wy ok ∧ Only (fun _ => False) W w'
set_option maxHeartbeats 16000000 in
set_option maxRecDepth 100000 in
theorem wayof_any (s : ByteArray) (W : World) (hs : s.size < 4294967281) (he : Env W) :
    Calls Tryz.prog 82 #[.string s] W (WofOut s W) := by
  have hbig := he.big
  have hll : s.data.toList.length = s.size := by simp
  have hal : Only (fun _ => False) W (W.alloc (.cells #[.int .i64 0, .int .i64 0, .int .i64 0, .int .i64 0] 80)) := (Only.refl _ W).alloc _
  have HE0 := hide (he.no hal)
  have HO0 := hide hal
  have HB0 := hide (Blk.new W 80 #[.int .i64 0, .int .i64 0, .int .i64 0, .int .i64 0])
  clear he hal
  go_enter Tryz.func82, Tryz.ntmps82
  go_upto_region 1 with (fail)
  obtain ⟨w1, hw1⟩ : ∃ w1, W.alloc (.cells #[.int .i64 0, .int .i64 0, .int .i64 0, .int .i64 0] 80) = w1 := ⟨_, rfl⟩
  rw [hw1] at HE0 HO0 HB0 ⊢
  clear hw1
  have H1 := hide (split_any 32 s w1 hs HE0.out.m)
  go_upto_region 2 with (go_at_call 33; refine H1.out.mono ?_; rintro e w2 ⟨nl, hnl, rfl, hl, ho2, hsz2⟩; have Hnl := hide hnl; have Hl2 := hide hl; have Ho2 := hide ho2; clear hnl hl ho2 hsz2)
  have HE2 := hide (HE0.out.no Ho2.out)
  have HO2 := hide (HO0.out.trans Ho2.out)
  have HB2 := hide (HB0.out.only Ho2.out (fun h => h))
  obtain ⟨gl, hgl⟩ : ∃ gl, w1.heap.size = gl := ⟨_, rfl⟩
  rw [hgl] at Hl2 ⊢
  clear HE0 HO0 HB0 Ho2 H1 hgl
  obtain ⟨LL, hLL⟩ : ∃ LL, splitL 32 s.data.toList = LL := ⟨_, rfl⟩
  have HLL := hide hLL
  rw [hLL] at Hnl Hl2
  clear hLL
  have hnlb : nl ≤ s.size + 1 := by
    have := splitL_count 32 s.data.toList
    rw [HLL.out] at this
    rw [Hnl.out]; omega
  by_cases h3 : nl < 3
  · have d1 : decide ((nl : Int) < 3) = true := by simp; omega
    have d1n : decide (nl < 3) = true := by simp; omega
    have HWP := hide (show WayP s.data.toList ⟨0, 0, 0, 0⟩ false from ⟨fun h => (by cases h), fun w' hi hl => (by
      have h5 := (way_parts hi hl).1
      rw [HLL.out, ← Hnl.out] at h5
      omega)⟩)
    go_upto_region 3 with (fail)
    refine wp_region_lit ?_
    refine wpList_plain rfl (fun K hK => ?_)
    go_simp
    refine hK _ _ ?_
    clear hK K
    refine wpList_plain rfl (fun K hK => ?_)
    refine wp_store_row 80 (.tmp 2) (.tmp 13) rfl W.heap.size #[.int .i64 0, .int .i64 0, .int .i64 0, .int .i64 0] rfl rfl 80 _ HB2.out (by kernel_rfl) (by simp) (by simp [Value.oneCell']) ?_
    refine hK _ _ ?_
    clear hK K
    have HB4 := hide (setRow_blk2 (vs := #[.int .i64 0, .int .i64 0, .int .i64 0, .int .i64 0]) HB2.out)
    have HO4 := hide (only_setRow (vs := #[.int .i64 0, .int .i64 0, .int .i64 0, .int .i64 0]) HO2.out (Nat.le_refl _))
    refine wpList_plain rfl (fun K hK => ?_)
    go_simp
    refine hK _ _ ?_
    clear hK K
    obtain ⟨y0, y1, y2, y3⟩ := (show _ ∧ _ ∧ _ ∧ _ from ⟨HB4.out.cellv (i := 0) rfl, HB4.out.cellv (i := 1) rfl, HB4.out.cellv (i := 2) rfl, HB4.out.cellv (i := 3) rfl⟩)
    go_wp2_with fail
    refine bodyPost_ret (v := .tuple #[.agg #[.int .i64 0, .int .i64 0, .int .i64 0, .int .i64 0], .bool false]) (by simp [results, Tryz.results82, go_sem, y0, y1, y2, y3]) rfl ⟨⟨0, 0, 0, 0⟩, false, rfl, HWP.out, HO4.out⟩
  · have d1 : decide ((nl : Int) < 3) = false := by simp; omega
    have d1n : decide (nl < 3) = false := by simp; omega
    have hl1 : 1 < LL.length := by rw [← Hnl.out]; omega
    have hl2 : 2 < LL.length := by rw [← Hnl.out]; omega
    obtain ⟨f1, hf1⟩ : ∃ f1, bytes (LL.getD 1 []) = f1 := ⟨_, rfl⟩
    obtain ⟨f2, hf2⟩ : ∃ f2, bytes (LL.getD 2 []) = f2 := ⟨_, rfl⟩
    have Hf1 := hide (show f1.data.toList = LL.getD 1 [] from by rw [← hf1, bytes_list])
    have Hf2 := hide (show f2.data.toList = LL.getD 2 [] from by rw [← hf2, bytes_list])
    have HC := hide (fun w' (ho : Only (fun _ => False) w2 w') => (show w'.cell? ⟨gl, 1, none⟩ = some (.string f1) ∧ w'.cell? ⟨gl, 2, none⟩ = some (.string f2) from (by
      have hR : RowsAt w' gl LL := Blk.only Hl2.out ho (fun h => h)
      rw [← hf1, ← hf2]
      exact ⟨hR.cellD hl1, hR.cellD hl2⟩)))
    have HPT := hide (fun (w' : WayD) (hi : WayIn w') (hl : s.data.toList = wayL w') => (show f1.data.toList = Lib.decDigits w'.x.toNat ∧ f2.data.toList = Lib.decDigits w'.y.toNat from (by
      have h5 := way_parts hi hl
      rw [HLL.out] at h5
      rw [Hf1.out, Hf2.out]
      exact h5.2)))
    clear hf1 hf2 hl1 hl2
    have i1 : (1 : Int) < (nl : Int) := by omega
    have i2 : (2 : Int) < (nl : Int) := by omega
    go_wp2_with fail
    go_loopw [5] (fun iv wr => ∃ kn : Nat, 1 ≤ kn ∧ kn ≤ 4 ∧ iv = .int .i64 (kn : Int) ∧ (∀ w', WayIn w' → s.data.toList = wayL w' → (kn : Int) ≤ w'.kind) ∧ Only (fun _ => False) w2 wr) (fun iv _ => 4 - (intOf iv).toNat)
    case atStart => exact ⟨1, by omega, by omega, rfl, fun w' hi _ => by have := hi.1; omega, Only.refl _ _⟩
    case round =>
      rename World => wr
      obtain ⟨kn, hk1, hk4, rfl, hmin, ho⟩ := hrel
      have Hmin := hide hmin
      have Hor := hide ho
      clear hmin ho
      by_cases hk : kn ≤ 3
      · have d2 : decide ((kn : Int) ≤ 3) = true := by simp; omega
        have d2n : decide (kn ≤ 3) = true := by simp; omega
        go_wp2_with fail
        go_loopw [6] (fun tv wr => ∃ tn : Nat, tn ≤ 3 ∧ tv = .int .i64 (tn : Int) ∧ (∀ w', WayIn w' → s.data.toList = wayL w' → w'.kind = (kn : Int) → (tn : Int) ≤ w'.take) ∧ Only (fun _ => False) w2 wr) (fun tv _ => 3 - (intOf tv).toNat)
        case atStart => exact ⟨0, by omega, rfl, fun w' hi _ _ => by have := hi.2.1; omega, Hor.out⟩
        case round =>
          clear Hor
          rename World => wr
          obtain ⟨tn, ht3, rfl, htmin, ho⟩ := hrel
          have Htmin := hide htmin
          have Hor := hide ho
          clear htmin ho
          by_cases ht : tn ≤ 2
          · have d3 : decide ((tn : Int) ≤ 2) = true := by simp; omega
            have d3n : decide (tn ≤ 2) = true := by simp; omega
            have HE := hide (HE2.out.no Hor.out)
            have HS := hide (fun w' (ho : Only (fun _ => False) wr w') => HC.out w' (Hor.out.trans ho))
            go_upto_region 10 with (fail)
            go_cut [7] (fun p w' => ∃ (gx : Nat) (n1 n2 : Int), p = .pointer (some ⟨gx, 0, none⟩) ∧ Blk w' gx 80 #[.int .i64 (kn : Int), .int .i64 n1, .int .i64 n2, .int .i64 (tn : Int)] ∧ CntP f1.data.toList n1 ∧ CntP f2.data.toList n2 ∧ Only (fun _ => False) wr w')
            case first =>
                refine wp_region_held_drew (S := fun w' : World => (w'.cell? ⟨gl, 1, none⟩ = some (.string f1) ∧ w'.cell? ⟨gl, 2, none⟩ = some (.string f2))) (by kernel_rfl) (HS.out _ (Only.refl (fun _ => False) wr).drew) (fun hHeld => ?_)
                refine wpAnyH_take (i := 0) (oi := ⟨some 22, _, _, _, _, _⟩) (v := ?_) rfl (by kernel_rfl) (by kernel_rfl) (by kernel_rfl) (fun _ _ _ h => h) (Or.inl ⟨by rfl, ?_⟩) (by assumption) ?_
                rotate_left 1
                · intro w hSw
                  try dsimp only at hSw
                  go_simp <;> with_reducible rfl
                try simp only [Act.put, List.setIfInBounds_toArray, List.set_cons_zero, List.set_cons_succ]
                refine wpAnyH_take (i := 1) (oi := ⟨some 23, _, _, _, _, _⟩) (v := ?_) rfl (by kernel_rfl) (by kernel_rfl) (by kernel_rfl) (fun _ _ _ h => h) (Or.inl ⟨by rfl, ?_⟩) (by assumption) ?_
                rotate_left 1
                · intro w hSw
                  try dsimp only at hSw
                  go_simp <;> with_reducible rfl
                try simp only [Act.put, List.setIfInBounds_toArray, List.set_cons_zero, List.set_cons_succ]
                refine wpAnyH_take (i := 2) (oi := ⟨some 24, _, _, _, _, _⟩) (v := ?_) rfl (by kernel_rfl) (by kernel_rfl) (by kernel_rfl) (fun _ _ _ h => h) (Or.inl ⟨by rfl, ?_⟩) (by assumption) ?_
                rotate_left 1
                · intro w hSw
                  try dsimp only at hSw
                  go_simp <;> with_reducible rfl
                try simp only [Act.put, List.setIfInBounds_toArray, List.set_cons_zero, List.set_cons_succ]
                refine wpAnyH_take (i := 3) (oi := ⟨some 25, _, _, _, _, _⟩) (v := ?_) rfl (by kernel_rfl) (by kernel_rfl) (by kernel_rfl) (fun _ _ _ h => h) (Or.inl ⟨by rfl, ?_⟩) (by assumption) ?_
                rotate_left 1
                · intro w hSw
                  try dsimp only at hSw
                  go_simp <;> with_reducible rfl
                try simp only [Act.put, List.setIfInBounds_toArray, List.set_cons_zero, List.set_cons_succ]
                refine wpAnyH_take (i := 5) (oi := ⟨some 27, _, _, _, _, _⟩) (v := ?_) rfl (by kernel_rfl) (by kernel_rfl) (by kernel_rfl) (fun _ _ _ h => h) (Or.inl ⟨by rfl, ?_⟩) (by assumption) ?_
                rotate_left 1
                · intro w hSw
                  try dsimp only at hSw
                  go_simp <;> with_reducible rfl
                try simp only [Act.put, List.setIfInBounds_toArray, List.set_cons_zero, List.set_cons_succ]
                refine wpAnyH_take (i := 6) (oi := ⟨some 28, _, _, _, _, _⟩) (v := ?_) rfl (by kernel_rfl) (by kernel_rfl) (by kernel_rfl) (fun _ _ _ h => h) (Or.inl ⟨by rfl, ?_⟩) (by assumption) ?_
                rotate_left 1
                · intro w hSw
                  try dsimp only at hSw
                  go_simp <;> with_reducible rfl
                try simp only [Act.put, List.setIfInBounds_toArray, List.set_cons_zero, List.set_cons_succ]
                refine wpAnyH_take (i := 7) (oi := ⟨some 29, _, _, _, _, _⟩) (v := ?_) rfl (by kernel_rfl) (by kernel_rfl) (by kernel_rfl) (fun _ _ _ h => h) (Or.inl ⟨by rfl, ?_⟩) (by assumption) ?_
                rotate_left 1
                · intro w hSw
                  try dsimp only at hSw
                  go_simp <;> with_reducible rfl
                try simp only [Act.put, List.setIfInBounds_toArray, List.set_cons_zero, List.set_cons_succ]
                refine wpAnyH_take (i := 9) (oi := ⟨some 31, _, _, _, _, _⟩) (v := ?_) rfl (by kernel_rfl) (by kernel_rfl) (by kernel_rfl) (fun _ _ _ h => h) (Or.inl ⟨by rfl, ?_⟩) (by assumption) ?_
                rotate_left 1
                · intro w hSw
                  try dsimp only at hSw
                  go_simp <;> with_reducible rfl
                try simp only [Act.put, List.setIfInBounds_toArray, List.set_cons_zero, List.set_cons_succ]
                refine wpAnyH_ready (rs := [4, 11]) (by kernel_rfl) (by simp) ?_
                refine AllReadyH.cons (o := ⟨some 26, _, _, _, _, _⟩) rfl (fun K hK => ?_) ?_
                · clear hHeld
                  go_simp
                  go_at_call 83
                  refine (count_any _ _ (HE.out.no (by first | exact (Only.refl (fun _ => False) wr).drew | exact ((Only.refl (fun _ => False) wr).drew.alloc _)))).mono ?_
                  rintro e w8 ⟨⟨n1, rfl, hn1⟩, ho8⟩
                  refine hK.out _ _ (by exact HS.out _ (by first | exact (Only.refl (fun _ => False) wr).drew | exact ((Only.refl (fun _ => False) wr).drew.alloc _) | exact (((Only.refl (fun _ => False) wr).drew.alloc _).trans ho8) | exact ((((Only.refl (fun _ => False) wr).drew.alloc _).trans ho8).trans ho9) | exact ((Only.refl (fun _ => False) wr).drew.trans ho8) | exact (((Only.refl (fun _ => False) wr).drew.trans ho8).alloc _) | exact ((((Only.refl (fun _ => False) wr).drew.trans ho8).alloc _).trans ho9) | exact (((Only.refl (fun _ => False) wr).drew.trans ho8).trans ho9) | exact ((((Only.refl (fun _ => False) wr).drew.trans ho8).trans ho9).alloc _) | exact (only_setRow ((((Only.refl (fun _ => False) wr).drew.alloc _).trans ho8).trans ho9) (Nat.le_refl _)) | exact (only_setRow ((((Only.refl (fun _ => False) wr).drew.trans ho8).alloc _).trans ho9) ((Only.refl (fun _ => False) wr).drew.trans ho8).size) | exact (only_setRow ((((Only.refl (fun _ => False) wr).drew.trans ho8).trans ho9).alloc _) (((Only.refl (fun _ => False) wr).drew.trans ho8).trans ho9).size))) (fun hHeld => ?_)
                  clear hK K
                  try simp only [Act.put, List.setIfInBounds_toArray, List.set_cons_zero, List.set_cons_succ]
                  refine wpAnyH_ready (rs := [8, 11]) (by kernel_rfl) (by simp) ?_
                  refine AllReadyH.cons (o := ⟨some 30, _, _, _, _, _⟩) rfl (fun K hK => ?_) ?_
                  · clear hHeld
                    go_simp
                    go_at_call 83
                    refine (count_any _ _ (HE.out.no (by first | exact (((Only.refl (fun _ => False) wr).drew.alloc _).trans ho8) | exact (((Only.refl (fun _ => False) wr).drew.trans ho8).alloc _) | exact ((Only.refl (fun _ => False) wr).drew.trans ho8)))).mono ?_
                    rintro e w9 ⟨⟨n2, rfl, hn2⟩, ho9⟩
                    refine hK.out _ _ (by exact HS.out _ (by first | exact (Only.refl (fun _ => False) wr).drew | exact ((Only.refl (fun _ => False) wr).drew.alloc _) | exact (((Only.refl (fun _ => False) wr).drew.alloc _).trans ho8) | exact ((((Only.refl (fun _ => False) wr).drew.alloc _).trans ho8).trans ho9) | exact ((Only.refl (fun _ => False) wr).drew.trans ho8) | exact (((Only.refl (fun _ => False) wr).drew.trans ho8).alloc _) | exact ((((Only.refl (fun _ => False) wr).drew.trans ho8).alloc _).trans ho9) | exact (((Only.refl (fun _ => False) wr).drew.trans ho8).trans ho9) | exact ((((Only.refl (fun _ => False) wr).drew.trans ho8).trans ho9).alloc _) | exact (only_setRow ((((Only.refl (fun _ => False) wr).drew.alloc _).trans ho8).trans ho9) (Nat.le_refl _)) | exact (only_setRow ((((Only.refl (fun _ => False) wr).drew.trans ho8).alloc _).trans ho9) ((Only.refl (fun _ => False) wr).drew.trans ho8).size) | exact (only_setRow ((((Only.refl (fun _ => False) wr).drew.trans ho8).trans ho9).alloc _) (((Only.refl (fun _ => False) wr).drew.trans ho8).trans ho9).size))) (fun hHeld => ?_)
                    clear hK K
                    try simp only [Act.put, List.setIfInBounds_toArray, List.set_cons_zero, List.set_cons_succ]
                    refine wpAnyH_take (i := 10) (oi := ⟨some 32, _, _, _, _, _⟩) (v := ?_) rfl (by kernel_rfl) (by kernel_rfl) (by kernel_rfl) (fun _ _ _ h => h) (Or.inl ⟨by rfl, ?_⟩) (by assumption) ?_
                    rotate_left 1
                    · intro w hSw
                      try dsimp only at hSw
                      go_simp <;> with_reducible rfl
                    try simp only [Act.put, List.setIfInBounds_toArray, List.set_cons_zero, List.set_cons_succ]
                    refine wpAnyH_ready (rs := [11]) (by kernel_rfl) (by simp) ?_
                    refine AllReadyH.cons (o := ⟨some 7, _, _, _, _, _⟩) rfl (fun K hK => ?_) ?_
                    · clear hHeld
                      go_simp
                      refine hK.out _ _ (by exact HS.out _ (by first | exact (Only.refl (fun _ => False) wr).drew | exact ((Only.refl (fun _ => False) wr).drew.alloc _) | exact (((Only.refl (fun _ => False) wr).drew.alloc _).trans ho8) | exact ((((Only.refl (fun _ => False) wr).drew.alloc _).trans ho8).trans ho9) | exact ((Only.refl (fun _ => False) wr).drew.trans ho8) | exact (((Only.refl (fun _ => False) wr).drew.trans ho8).alloc _) | exact ((((Only.refl (fun _ => False) wr).drew.trans ho8).alloc _).trans ho9) | exact (((Only.refl (fun _ => False) wr).drew.trans ho8).trans ho9) | exact ((((Only.refl (fun _ => False) wr).drew.trans ho8).trans ho9).alloc _) | exact (only_setRow ((((Only.refl (fun _ => False) wr).drew.alloc _).trans ho8).trans ho9) (Nat.le_refl _)) | exact (only_setRow ((((Only.refl (fun _ => False) wr).drew.trans ho8).alloc _).trans ho9) ((Only.refl (fun _ => False) wr).drew.trans ho8).size) | exact (only_setRow ((((Only.refl (fun _ => False) wr).drew.trans ho8).trans ho9).alloc _) (((Only.refl (fun _ => False) wr).drew.trans ho8).trans ho9).size))) (fun hHeld => ?_)
                      clear hK K
                      try simp only [Act.put, List.setIfInBounds_toArray, List.set_cons_zero, List.set_cons_succ]
                      refine wpAnyH_ready (rs := [12]) (by kernel_rfl) (by simp) ?_
                      refine AllReadyH.cons (o := ⟨none, _, _, _, _, _⟩) rfl (fun K hK => ?_) ?_
                      · clear hHeld
                        rw [if_pos (by rfl)]
                        refine wp_store_row 80 (.tmp 7) (.tmp 32) rfl _ #[.int .i64 (kn : Int), .int .i64 n1, .int .i64 n2, .int .i64 (tn : Int)] rfl rfl 80 _ (by first | exact (show Blk (wr.alloc (.cells #[.int .i64 0, .int .i64 0, .int .i64 0, .int .i64 0] 80)).drew wr.heap.size 80 #[.int .i64 0, .int .i64 0, .int .i64 0, .int .i64 0] from Blk.new wr _ _).only (ho8.trans ho9) (fun h => h) | exact (Blk.new _ 80 #[.int .i64 0, .int .i64 0, .int .i64 0, .int .i64 0]).only ho9 (fun h => h) | exact Blk.new _ 80 #[.int .i64 0, .int .i64 0, .int .i64 0, .int .i64 0]) (by kernel_rfl) (by simp) (by simp [Value.oneCell']) ?_
                        refine hK.out _ _ (by exact HS.out _ (by first | exact (Only.refl (fun _ => False) wr).drew | exact ((Only.refl (fun _ => False) wr).drew.alloc _) | exact (((Only.refl (fun _ => False) wr).drew.alloc _).trans ho8) | exact ((((Only.refl (fun _ => False) wr).drew.alloc _).trans ho8).trans ho9) | exact ((Only.refl (fun _ => False) wr).drew.trans ho8) | exact (((Only.refl (fun _ => False) wr).drew.trans ho8).alloc _) | exact ((((Only.refl (fun _ => False) wr).drew.trans ho8).alloc _).trans ho9) | exact (((Only.refl (fun _ => False) wr).drew.trans ho8).trans ho9) | exact ((((Only.refl (fun _ => False) wr).drew.trans ho8).trans ho9).alloc _) | exact (only_setRow ((((Only.refl (fun _ => False) wr).drew.alloc _).trans ho8).trans ho9) (Nat.le_refl _)) | exact (only_setRow ((((Only.refl (fun _ => False) wr).drew.trans ho8).alloc _).trans ho9) ((Only.refl (fun _ => False) wr).drew.trans ho8).size) | exact (only_setRow ((((Only.refl (fun _ => False) wr).drew.trans ho8).trans ho9).alloc _) (((Only.refl (fun _ => False) wr).drew.trans ho8).trans ho9).size))) (fun hHeld => ?_)
                        clear hK K
                        try simp only [Act.put]
                        refine wpAnyH_done (by kernel_rfl) ?_ _
                        go_wp2_with fail
                        go_meet
                        case rel => first
                          | exact ⟨_, n1, n2, rfl, setRow_blk2 ((show Blk (wr.alloc (.cells #[.int .i64 0, .int .i64 0, .int .i64 0, .int .i64 0] 80)).drew wr.heap.size 80 #[.int .i64 0, .int .i64 0, .int .i64 0, .int .i64 0] from Blk.new wr _ _).only (ho8.trans ho9) (fun h => h)), hn1, hn2, (only_setRow ((((Only.refl (fun _ => False) wr).drew.alloc _).trans ho8).trans ho9) (Nat.le_refl _))⟩
                          | exact ⟨_, n1, n2, rfl, setRow_blk2 ((Blk.new _ 80 #[.int .i64 0, .int .i64 0, .int .i64 0, .int .i64 0]).only ho9 (fun h => h)), hn1, hn2, (only_setRow ((((Only.refl (fun _ => False) wr).drew.trans ho8).alloc _).trans ho9) ((Only.refl (fun _ => False) wr).drew.trans ho8).size)⟩
                          | exact ⟨_, n1, n2, rfl, setRow_blk2 (Blk.new _ 80 #[.int .i64 0, .int .i64 0, .int .i64 0, .int .i64 0]), hn1, hn2, (only_setRow ((((Only.refl (fun _ => False) wr).drew.trans ho8).trans ho9).alloc _) (((Only.refl (fun _ => False) wr).drew.trans ho8).trans ho9).size)⟩
                      exact AllReadyH.nil
                    exact AllReadyH.nil
                  refine AllReadyH.cons (o := ⟨some 7, _, _, _, _, _⟩) rfl (fun K hK => ?_) ?_
                  · clear hHeld
                    go_simp
                    refine hK.out _ _ (by exact HS.out _ (by first | exact (Only.refl (fun _ => False) wr).drew | exact ((Only.refl (fun _ => False) wr).drew.alloc _) | exact (((Only.refl (fun _ => False) wr).drew.alloc _).trans ho8) | exact ((((Only.refl (fun _ => False) wr).drew.alloc _).trans ho8).trans ho9) | exact ((Only.refl (fun _ => False) wr).drew.trans ho8) | exact (((Only.refl (fun _ => False) wr).drew.trans ho8).alloc _) | exact ((((Only.refl (fun _ => False) wr).drew.trans ho8).alloc _).trans ho9) | exact (((Only.refl (fun _ => False) wr).drew.trans ho8).trans ho9) | exact ((((Only.refl (fun _ => False) wr).drew.trans ho8).trans ho9).alloc _) | exact (only_setRow ((((Only.refl (fun _ => False) wr).drew.alloc _).trans ho8).trans ho9) (Nat.le_refl _)) | exact (only_setRow ((((Only.refl (fun _ => False) wr).drew.trans ho8).alloc _).trans ho9) ((Only.refl (fun _ => False) wr).drew.trans ho8).size) | exact (only_setRow ((((Only.refl (fun _ => False) wr).drew.trans ho8).trans ho9).alloc _) (((Only.refl (fun _ => False) wr).drew.trans ho8).trans ho9).size))) (fun hHeld => ?_)
                    clear hK K
                    try simp only [Act.put, List.setIfInBounds_toArray, List.set_cons_zero, List.set_cons_succ]
                    refine wpAnyH_ready (rs := [8]) (by kernel_rfl) (by simp) ?_
                    refine AllReadyH.cons (o := ⟨some 30, _, _, _, _, _⟩) rfl (fun K hK => ?_) ?_
                    · clear hHeld
                      go_simp
                      go_at_call 83
                      refine (count_any _ _ (HE.out.no (by first | exact (((Only.refl (fun _ => False) wr).drew.alloc _).trans ho8) | exact (((Only.refl (fun _ => False) wr).drew.trans ho8).alloc _) | exact ((Only.refl (fun _ => False) wr).drew.trans ho8)))).mono ?_
                      rintro e w9 ⟨⟨n2, rfl, hn2⟩, ho9⟩
                      refine hK.out _ _ (by exact HS.out _ (by first | exact (Only.refl (fun _ => False) wr).drew | exact ((Only.refl (fun _ => False) wr).drew.alloc _) | exact (((Only.refl (fun _ => False) wr).drew.alloc _).trans ho8) | exact ((((Only.refl (fun _ => False) wr).drew.alloc _).trans ho8).trans ho9) | exact ((Only.refl (fun _ => False) wr).drew.trans ho8) | exact (((Only.refl (fun _ => False) wr).drew.trans ho8).alloc _) | exact ((((Only.refl (fun _ => False) wr).drew.trans ho8).alloc _).trans ho9) | exact (((Only.refl (fun _ => False) wr).drew.trans ho8).trans ho9) | exact ((((Only.refl (fun _ => False) wr).drew.trans ho8).trans ho9).alloc _) | exact (only_setRow ((((Only.refl (fun _ => False) wr).drew.alloc _).trans ho8).trans ho9) (Nat.le_refl _)) | exact (only_setRow ((((Only.refl (fun _ => False) wr).drew.trans ho8).alloc _).trans ho9) ((Only.refl (fun _ => False) wr).drew.trans ho8).size) | exact (only_setRow ((((Only.refl (fun _ => False) wr).drew.trans ho8).trans ho9).alloc _) (((Only.refl (fun _ => False) wr).drew.trans ho8).trans ho9).size))) (fun hHeld => ?_)
                      clear hK K
                      try simp only [Act.put, List.setIfInBounds_toArray, List.set_cons_zero, List.set_cons_succ]
                      refine wpAnyH_take (i := 10) (oi := ⟨some 32, _, _, _, _, _⟩) (v := ?_) rfl (by kernel_rfl) (by kernel_rfl) (by kernel_rfl) (fun _ _ _ h => h) (Or.inl ⟨by rfl, ?_⟩) (by assumption) ?_
                      rotate_left 1
                      · intro w hSw
                        try dsimp only at hSw
                        go_simp <;> with_reducible rfl
                      try simp only [Act.put, List.setIfInBounds_toArray, List.set_cons_zero, List.set_cons_succ]
                      refine wpAnyH_ready (rs := [12]) (by kernel_rfl) (by simp) ?_
                      refine AllReadyH.cons (o := ⟨none, _, _, _, _, _⟩) rfl (fun K hK => ?_) ?_
                      · clear hHeld
                        rw [if_pos (by rfl)]
                        refine wp_store_row 80 (.tmp 7) (.tmp 32) rfl _ #[.int .i64 (kn : Int), .int .i64 n1, .int .i64 n2, .int .i64 (tn : Int)] rfl rfl 80 _ (by first | exact (show Blk (wr.alloc (.cells #[.int .i64 0, .int .i64 0, .int .i64 0, .int .i64 0] 80)).drew wr.heap.size 80 #[.int .i64 0, .int .i64 0, .int .i64 0, .int .i64 0] from Blk.new wr _ _).only (ho8.trans ho9) (fun h => h) | exact (Blk.new _ 80 #[.int .i64 0, .int .i64 0, .int .i64 0, .int .i64 0]).only ho9 (fun h => h) | exact Blk.new _ 80 #[.int .i64 0, .int .i64 0, .int .i64 0, .int .i64 0]) (by kernel_rfl) (by simp) (by simp [Value.oneCell']) ?_
                        refine hK.out _ _ (by exact HS.out _ (by first | exact (Only.refl (fun _ => False) wr).drew | exact ((Only.refl (fun _ => False) wr).drew.alloc _) | exact (((Only.refl (fun _ => False) wr).drew.alloc _).trans ho8) | exact ((((Only.refl (fun _ => False) wr).drew.alloc _).trans ho8).trans ho9) | exact ((Only.refl (fun _ => False) wr).drew.trans ho8) | exact (((Only.refl (fun _ => False) wr).drew.trans ho8).alloc _) | exact ((((Only.refl (fun _ => False) wr).drew.trans ho8).alloc _).trans ho9) | exact (((Only.refl (fun _ => False) wr).drew.trans ho8).trans ho9) | exact ((((Only.refl (fun _ => False) wr).drew.trans ho8).trans ho9).alloc _) | exact (only_setRow ((((Only.refl (fun _ => False) wr).drew.alloc _).trans ho8).trans ho9) (Nat.le_refl _)) | exact (only_setRow ((((Only.refl (fun _ => False) wr).drew.trans ho8).alloc _).trans ho9) ((Only.refl (fun _ => False) wr).drew.trans ho8).size) | exact (only_setRow ((((Only.refl (fun _ => False) wr).drew.trans ho8).trans ho9).alloc _) (((Only.refl (fun _ => False) wr).drew.trans ho8).trans ho9).size))) (fun hHeld => ?_)
                        clear hK K
                        try simp only [Act.put]
                        refine wpAnyH_done (by kernel_rfl) ?_ _
                        go_wp2_with fail
                        go_meet
                        case rel => first
                          | exact ⟨_, n1, n2, rfl, setRow_blk2 ((show Blk (wr.alloc (.cells #[.int .i64 0, .int .i64 0, .int .i64 0, .int .i64 0] 80)).drew wr.heap.size 80 #[.int .i64 0, .int .i64 0, .int .i64 0, .int .i64 0] from Blk.new wr _ _).only (ho8.trans ho9) (fun h => h)), hn1, hn2, (only_setRow ((((Only.refl (fun _ => False) wr).drew.alloc _).trans ho8).trans ho9) (Nat.le_refl _))⟩
                          | exact ⟨_, n1, n2, rfl, setRow_blk2 ((Blk.new _ 80 #[.int .i64 0, .int .i64 0, .int .i64 0, .int .i64 0]).only ho9 (fun h => h)), hn1, hn2, (only_setRow ((((Only.refl (fun _ => False) wr).drew.trans ho8).alloc _).trans ho9) ((Only.refl (fun _ => False) wr).drew.trans ho8).size)⟩
                          | exact ⟨_, n1, n2, rfl, setRow_blk2 (Blk.new _ 80 #[.int .i64 0, .int .i64 0, .int .i64 0, .int .i64 0]), hn1, hn2, (only_setRow ((((Only.refl (fun _ => False) wr).drew.trans ho8).trans ho9).alloc _) (((Only.refl (fun _ => False) wr).drew.trans ho8).trans ho9).size)⟩
                      exact AllReadyH.nil
                    exact AllReadyH.nil
                  exact AllReadyH.nil
                refine AllReadyH.cons (o := ⟨some 7, _, _, _, _, _⟩) rfl (fun K hK => ?_) ?_
                · clear hHeld
                  go_simp
                  refine hK.out _ _ (by exact HS.out _ (by first | exact (Only.refl (fun _ => False) wr).drew | exact ((Only.refl (fun _ => False) wr).drew.alloc _) | exact (((Only.refl (fun _ => False) wr).drew.alloc _).trans ho8) | exact ((((Only.refl (fun _ => False) wr).drew.alloc _).trans ho8).trans ho9) | exact ((Only.refl (fun _ => False) wr).drew.trans ho8) | exact (((Only.refl (fun _ => False) wr).drew.trans ho8).alloc _) | exact ((((Only.refl (fun _ => False) wr).drew.trans ho8).alloc _).trans ho9) | exact (((Only.refl (fun _ => False) wr).drew.trans ho8).trans ho9) | exact ((((Only.refl (fun _ => False) wr).drew.trans ho8).trans ho9).alloc _) | exact (only_setRow ((((Only.refl (fun _ => False) wr).drew.alloc _).trans ho8).trans ho9) (Nat.le_refl _)) | exact (only_setRow ((((Only.refl (fun _ => False) wr).drew.trans ho8).alloc _).trans ho9) ((Only.refl (fun _ => False) wr).drew.trans ho8).size) | exact (only_setRow ((((Only.refl (fun _ => False) wr).drew.trans ho8).trans ho9).alloc _) (((Only.refl (fun _ => False) wr).drew.trans ho8).trans ho9).size))) (fun hHeld => ?_)
                  clear hK K
                  try simp only [Act.put, List.setIfInBounds_toArray, List.set_cons_zero, List.set_cons_succ]
                  refine wpAnyH_ready (rs := [4]) (by kernel_rfl) (by simp) ?_
                  refine AllReadyH.cons (o := ⟨some 26, _, _, _, _, _⟩) rfl (fun K hK => ?_) ?_
                  · clear hHeld
                    go_simp
                    go_at_call 83
                    refine (count_any _ _ (HE.out.no (by first | exact (Only.refl (fun _ => False) wr).drew | exact ((Only.refl (fun _ => False) wr).drew.alloc _)))).mono ?_
                    rintro e w8 ⟨⟨n1, rfl, hn1⟩, ho8⟩
                    refine hK.out _ _ (by exact HS.out _ (by first | exact (Only.refl (fun _ => False) wr).drew | exact ((Only.refl (fun _ => False) wr).drew.alloc _) | exact (((Only.refl (fun _ => False) wr).drew.alloc _).trans ho8) | exact ((((Only.refl (fun _ => False) wr).drew.alloc _).trans ho8).trans ho9) | exact ((Only.refl (fun _ => False) wr).drew.trans ho8) | exact (((Only.refl (fun _ => False) wr).drew.trans ho8).alloc _) | exact ((((Only.refl (fun _ => False) wr).drew.trans ho8).alloc _).trans ho9) | exact (((Only.refl (fun _ => False) wr).drew.trans ho8).trans ho9) | exact ((((Only.refl (fun _ => False) wr).drew.trans ho8).trans ho9).alloc _) | exact (only_setRow ((((Only.refl (fun _ => False) wr).drew.alloc _).trans ho8).trans ho9) (Nat.le_refl _)) | exact (only_setRow ((((Only.refl (fun _ => False) wr).drew.trans ho8).alloc _).trans ho9) ((Only.refl (fun _ => False) wr).drew.trans ho8).size) | exact (only_setRow ((((Only.refl (fun _ => False) wr).drew.trans ho8).trans ho9).alloc _) (((Only.refl (fun _ => False) wr).drew.trans ho8).trans ho9).size))) (fun hHeld => ?_)
                    clear hK K
                    try simp only [Act.put, List.setIfInBounds_toArray, List.set_cons_zero, List.set_cons_succ]
                    refine wpAnyH_ready (rs := [8]) (by kernel_rfl) (by simp) ?_
                    refine AllReadyH.cons (o := ⟨some 30, _, _, _, _, _⟩) rfl (fun K hK => ?_) ?_
                    · clear hHeld
                      go_simp
                      go_at_call 83
                      refine (count_any _ _ (HE.out.no (by first | exact (((Only.refl (fun _ => False) wr).drew.alloc _).trans ho8) | exact (((Only.refl (fun _ => False) wr).drew.trans ho8).alloc _) | exact ((Only.refl (fun _ => False) wr).drew.trans ho8)))).mono ?_
                      rintro e w9 ⟨⟨n2, rfl, hn2⟩, ho9⟩
                      refine hK.out _ _ (by exact HS.out _ (by first | exact (Only.refl (fun _ => False) wr).drew | exact ((Only.refl (fun _ => False) wr).drew.alloc _) | exact (((Only.refl (fun _ => False) wr).drew.alloc _).trans ho8) | exact ((((Only.refl (fun _ => False) wr).drew.alloc _).trans ho8).trans ho9) | exact ((Only.refl (fun _ => False) wr).drew.trans ho8) | exact (((Only.refl (fun _ => False) wr).drew.trans ho8).alloc _) | exact ((((Only.refl (fun _ => False) wr).drew.trans ho8).alloc _).trans ho9) | exact (((Only.refl (fun _ => False) wr).drew.trans ho8).trans ho9) | exact ((((Only.refl (fun _ => False) wr).drew.trans ho8).trans ho9).alloc _) | exact (only_setRow ((((Only.refl (fun _ => False) wr).drew.alloc _).trans ho8).trans ho9) (Nat.le_refl _)) | exact (only_setRow ((((Only.refl (fun _ => False) wr).drew.trans ho8).alloc _).trans ho9) ((Only.refl (fun _ => False) wr).drew.trans ho8).size) | exact (only_setRow ((((Only.refl (fun _ => False) wr).drew.trans ho8).trans ho9).alloc _) (((Only.refl (fun _ => False) wr).drew.trans ho8).trans ho9).size))) (fun hHeld => ?_)
                      clear hK K
                      try simp only [Act.put, List.setIfInBounds_toArray, List.set_cons_zero, List.set_cons_succ]
                      refine wpAnyH_take (i := 10) (oi := ⟨some 32, _, _, _, _, _⟩) (v := ?_) rfl (by kernel_rfl) (by kernel_rfl) (by kernel_rfl) (fun _ _ _ h => h) (Or.inl ⟨by rfl, ?_⟩) (by assumption) ?_
                      rotate_left 1
                      · intro w hSw
                        try dsimp only at hSw
                        go_simp <;> with_reducible rfl
                      try simp only [Act.put, List.setIfInBounds_toArray, List.set_cons_zero, List.set_cons_succ]
                      refine wpAnyH_ready (rs := [12]) (by kernel_rfl) (by simp) ?_
                      refine AllReadyH.cons (o := ⟨none, _, _, _, _, _⟩) rfl (fun K hK => ?_) ?_
                      · clear hHeld
                        rw [if_pos (by rfl)]
                        refine wp_store_row 80 (.tmp 7) (.tmp 32) rfl _ #[.int .i64 (kn : Int), .int .i64 n1, .int .i64 n2, .int .i64 (tn : Int)] rfl rfl 80 _ (by first | exact (show Blk (wr.alloc (.cells #[.int .i64 0, .int .i64 0, .int .i64 0, .int .i64 0] 80)).drew wr.heap.size 80 #[.int .i64 0, .int .i64 0, .int .i64 0, .int .i64 0] from Blk.new wr _ _).only (ho8.trans ho9) (fun h => h) | exact (Blk.new _ 80 #[.int .i64 0, .int .i64 0, .int .i64 0, .int .i64 0]).only ho9 (fun h => h) | exact Blk.new _ 80 #[.int .i64 0, .int .i64 0, .int .i64 0, .int .i64 0]) (by kernel_rfl) (by simp) (by simp [Value.oneCell']) ?_
                        refine hK.out _ _ (by exact HS.out _ (by first | exact (Only.refl (fun _ => False) wr).drew | exact ((Only.refl (fun _ => False) wr).drew.alloc _) | exact (((Only.refl (fun _ => False) wr).drew.alloc _).trans ho8) | exact ((((Only.refl (fun _ => False) wr).drew.alloc _).trans ho8).trans ho9) | exact ((Only.refl (fun _ => False) wr).drew.trans ho8) | exact (((Only.refl (fun _ => False) wr).drew.trans ho8).alloc _) | exact ((((Only.refl (fun _ => False) wr).drew.trans ho8).alloc _).trans ho9) | exact (((Only.refl (fun _ => False) wr).drew.trans ho8).trans ho9) | exact ((((Only.refl (fun _ => False) wr).drew.trans ho8).trans ho9).alloc _) | exact (only_setRow ((((Only.refl (fun _ => False) wr).drew.alloc _).trans ho8).trans ho9) (Nat.le_refl _)) | exact (only_setRow ((((Only.refl (fun _ => False) wr).drew.trans ho8).alloc _).trans ho9) ((Only.refl (fun _ => False) wr).drew.trans ho8).size) | exact (only_setRow ((((Only.refl (fun _ => False) wr).drew.trans ho8).trans ho9).alloc _) (((Only.refl (fun _ => False) wr).drew.trans ho8).trans ho9).size))) (fun hHeld => ?_)
                        clear hK K
                        try simp only [Act.put]
                        refine wpAnyH_done (by kernel_rfl) ?_ _
                        go_wp2_with fail
                        go_meet
                        case rel => first
                          | exact ⟨_, n1, n2, rfl, setRow_blk2 ((show Blk (wr.alloc (.cells #[.int .i64 0, .int .i64 0, .int .i64 0, .int .i64 0] 80)).drew wr.heap.size 80 #[.int .i64 0, .int .i64 0, .int .i64 0, .int .i64 0] from Blk.new wr _ _).only (ho8.trans ho9) (fun h => h)), hn1, hn2, (only_setRow ((((Only.refl (fun _ => False) wr).drew.alloc _).trans ho8).trans ho9) (Nat.le_refl _))⟩
                          | exact ⟨_, n1, n2, rfl, setRow_blk2 ((Blk.new _ 80 #[.int .i64 0, .int .i64 0, .int .i64 0, .int .i64 0]).only ho9 (fun h => h)), hn1, hn2, (only_setRow ((((Only.refl (fun _ => False) wr).drew.trans ho8).alloc _).trans ho9) ((Only.refl (fun _ => False) wr).drew.trans ho8).size)⟩
                          | exact ⟨_, n1, n2, rfl, setRow_blk2 (Blk.new _ 80 #[.int .i64 0, .int .i64 0, .int .i64 0, .int .i64 0]), hn1, hn2, (only_setRow ((((Only.refl (fun _ => False) wr).drew.trans ho8).trans ho9).alloc _) (((Only.refl (fun _ => False) wr).drew.trans ho8).trans ho9).size)⟩
                      exact AllReadyH.nil
                    exact AllReadyH.nil
                  exact AllReadyH.nil
                exact AllReadyH.nil
            case rest =>
              obtain ⟨gx, n1, n2, rfl, hbx, hn1, hn2, hon⟩ := hcut
              rename World => w3
              have HE3 := hide (HE.out.no hon)
              have Ho3 := hide (Hor.out.trans hon)
              have Hbx := hide hbx
              have Hn1 := hide hn1
              have Hn2 := hide hn2
              have hgx : gx < w3.heap.size := hbx.lt
              clear HE HS hon Hor hbx hn1 hn2
              obtain ⟨z0, z1, z2, z3⟩ := (show _ ∧ _ ∧ _ ∧ _ from ⟨Hbx.out.cellv (i := 0) rfl, Hbx.out.cellv (i := 1) rfl, Hbx.out.cellv (i := 2) rfl, Hbx.out.cellv (i := 3) rfl⟩)
              have HNX := hide (fun (hno : ∀ w', WayIn w' → s.data.toList = wayL w' → w'.kind = (kn : Int) → w'.take ≠ (tn : Int)) => (show ∀ w', WayIn w' → s.data.toList = wayL w' → w'.kind = (kn : Int) → ((tn + 1 : Nat) : Int) ≤ w'.take from fun w' hi hl hk => by
                have h1 := Htmin.out w' hi hl hk
                have h2 := hno w' hi hl hk
                omega))
              by_cases hp : 0 ≤ n1 ∧ 0 ≤ n2
              · obtain ⟨x, hx, hx9, ex⟩ := cnt_pos Hn1.out hp.1
                obtain ⟨y, hy, hy9, ey⟩ := cnt_pos Hn2.out hp.2
                subst hx hy
                have hwi : WayIn ⟨(kn : Int), (x : Int), (y : Int), (tn : Int)⟩ := ⟨by simp only; omega, by simp only; omega, ⟨x, rfl, hx9⟩, ⟨y, rfl, hy9⟩⟩
                have HT := hide (wtext_any ⟨(kn : Int), (x : Int), (y : Int), (tn : Int)⟩ w3 hwi HE3.out)
                have Hwi := hide hwi
                have e1 : decide ((x : Int) ≥ 0) = true := by simp
                have e2 : decide ((y : Int) ≥ 0) = true := by simp
                obtain ⟨tx, htx⟩ : ∃ tx, bytes (wayL ⟨(kn : Int), (x : Int), (y : Int), (tn : Int)⟩) = tx := ⟨_, rfl⟩
                obtain ⟨b1, hb1⟩ : ∃ b1, (tx.toList == s.toList) = b1 := ⟨_, rfl⟩
                have Hb1 := hide (show (wayL ⟨(kn : Int), (x : Int), (y : Int), (tn : Int)⟩ == s.data.toList) = b1 from by rw [← hb1, ← htx, Go.ByteArray.toList_eq, Go.ByteArray.toList_eq, bytes_list])
                rw [htx] at HT
                clear hp hx9 hy9 ex ey hwi htx
                cases b1
                · have HNY := hide (HNX.out (fun w' hi hl hk ht => by
                    obtain ⟨p1, p2⟩ := HPT.out w' hi hl
                    obtain ⟨-, -, ⟨mx, ex, mx9⟩, my, ey, my9⟩ := hi
                    rw [ex] at p1
                    rw [ey] at p2
                    have q1 := cnt_one Hn1.out mx9 p1
                    have q2 := cnt_one Hn2.out my9 p2
                    have e : w' = ⟨(kn : Int), (x : Int), (y : Int), (tn : Int)⟩ := by
                      obtain ⟨a, b, c, d⟩ := w'
                      simp only at ex ey hk ht
                      rw [ex, ey, hk, ht, q1, q2]
                    have h5 := Hb1.out
                    rw [hl, e] at h5
                    simp at h5))
                  clear HNX
                  go_wp2_with (go_at_call 92; refine HT.out.mono ?_; rintro e w4 ⟨rfl, ho4⟩; have Ho4 := hide ho4; clear ho4)
                  go_roundw
                  case rel => exact ⟨tn + 1, by omega, by go_num, HNY.out, Ho3.out.trans Ho4.out⟩
                  case measure => simp [intOf]; omega
                · have HWP := hide (show WayP s.data.toList ⟨(kn : Int), (x : Int), (y : Int), (tn : Int)⟩ true from ⟨fun _ => ⟨Hwi.out, (beq_iff_eq.1 Hb1.out).symm⟩, fun _ _ _ => rfl⟩)
                  clear HNX
                  go_upto_region 12 with (go_at_call 92; refine HT.out.mono ?_; rintro e w4 ⟨rfl, ho4⟩; have Ho4 := hide ho4; clear ho4)
                  have HB5 := hide (HB2.out.only (Ho3.out.trans Ho4.out) (fun h => h))
                  have HO5 := hide (HO2.out.trans (Ho3.out.trans Ho4.out))
                  clear z0 z1 z2 z3
                  obtain ⟨z0, z1, z2, z3⟩ := (show _ ∧ _ ∧ _ ∧ _ from ⟨(Hbx.out.only Ho4.out (fun h => h)).cellv (i := 0) rfl, (Hbx.out.only Ho4.out (fun h => h)).cellv (i := 1) rfl, (Hbx.out.only Ho4.out (fun h => h)).cellv (i := 2) rfl, (Hbx.out.only Ho4.out (fun h => h)).cellv (i := 3) rfl⟩)
                  refine wp_region_lit ?_
                  refine wpList_plain rfl (fun K hK => ?_)
                  go_simp
                  refine hK _ _ ?_
                  clear hK K
                  refine wpList_plain rfl (fun K hK => ?_)
                  refine wp_store_row 80 (.tmp 2) (.tmp 47) rfl W.heap.size #[.int .i64 (kn : Int), .int .i64 (x : Int), .int .i64 (y : Int), .int .i64 (tn : Int)] rfl rfl 80 _ HB5.out (by kernel_rfl) (by simp) (by simp [Value.oneCell']) ?_
                  refine hK _ _ ?_
                  clear hK K
                  have HB4 := hide (setRow_blk2 (vs := #[.int .i64 (kn : Int), .int .i64 (x : Int), .int .i64 (y : Int), .int .i64 (tn : Int)]) HB5.out)
                  have HO4 := hide (only_setRow (vs := #[.int .i64 (kn : Int), .int .i64 (x : Int), .int .i64 (y : Int), .int .i64 (tn : Int)]) HO5.out (Nat.le_refl _))
                  refine wpList_plain rfl (fun K hK => ?_)
                  go_simp
                  refine hK _ _ ?_
                  clear hK K
                  obtain ⟨y0, y1, y2, y3⟩ := (show _ ∧ _ ∧ _ ∧ _ from ⟨HB4.out.cellv (i := 0) rfl, HB4.out.cellv (i := 1) rfl, HB4.out.cellv (i := 2) rfl, HB4.out.cellv (i := 3) rfl⟩)
                  go_wp2_with fail
                  refine bodyPost_ret (v := .tuple #[.agg #[.int .i64 (kn : Int), .int .i64 (x : Int), .int .i64 (y : Int), .int .i64 (tn : Int)], .bool true]) (by simp [results, Tryz.results82, go_sem, y0, y1, y2, y3]) rfl ⟨⟨(kn : Int), (x : Int), (y : Int), (tn : Int)⟩, true, rfl, HWP.out, HO4.out⟩
              · have HNY := hide (HNX.out (fun w' hi hl hk ht => hp (by
                  obtain ⟨p1, p2⟩ := HPT.out w' hi hl
                  obtain ⟨-, -, ⟨mx, ex, mx9⟩, my, ey, my9⟩ := hi
                  rw [ex] at p1
                  rw [ey] at p2
                  have q1 := cnt_one Hn1.out mx9 p1
                  have q2 := cnt_one Hn2.out my9 p2
                  omega)))
                clear HNX
                by_cases hp1 : 0 ≤ n1
                · have e1 : decide (n1 ≥ 0) = true := by simpa using hp1
                  have e2 : decide (n2 ≥ 0) = false := by simp; omega
                  clear hp hp1
                  go_wp2_with fail
                  go_roundw
                  case rel => exact ⟨tn + 1, by omega, by go_num, HNY.out, Ho3.out⟩
                  case measure => simp [intOf]; omega
                · have e1 : decide (n1 ≥ 0) = false := by simp; omega
                  clear hp hp1
                  go_wp2_with fail
                  go_roundw
                  case rel => exact ⟨tn + 1, by omega, by go_num, HNY.out, Ho3.out⟩
                  case measure => simp [intOf]; omega
          · have d3 : decide ((tn : Int) ≤ 2) = false := by simp; omega
            have d3n : decide (tn ≤ 2) = false := by simp; omega
            go_wp2_with fail
            go_roundw
            case rel => exact ⟨kn + 1, by omega, by omega, by go_num, fun w' hi hl => by
              have h1 := Hmin.out w' hi hl
              have h2 := hi.2.1
              by_cases e : w'.kind = (kn : Int)
              · have := Htmin.out w' hi hl e; omega
              · omega, Hor.out⟩
            case measure => simp [intOf]; omega
      · have d2 : decide ((kn : Int) ≤ 3) = false := by simp; omega
        have d2n : decide (kn ≤ 3) = false := by simp; omega
        have HWP := hide (show WayP s.data.toList ⟨0, 0, 0, 0⟩ false from ⟨fun h => (by cases h), fun w' hi hl => (by have h5 := Hmin.out w' hi hl; have h6 := hi.1; omega)⟩)
        go_upto_region 13 with (fail)
        refine wp_region_lit ?_
        refine wpList_plain rfl (fun K hK => ?_)
        go_simp
        refine hK _ _ ?_
        clear hK K
        refine wpList_plain rfl (fun K hK => ?_)
        refine wp_store_row 80 (.tmp 2) (.tmp 48) rfl W.heap.size #[.int .i64 0, .int .i64 0, .int .i64 0, .int .i64 0] rfl rfl 80 _ (HB2.out.only Hor.out (fun h => h)) (by kernel_rfl) (by simp) (by simp [Value.oneCell']) ?_
        refine hK _ _ ?_
        clear hK K
        have HB4 := hide (setRow_blk2 (vs := #[.int .i64 0, .int .i64 0, .int .i64 0, .int .i64 0]) (HB2.out.only Hor.out (fun h => h)))
        have HO4 := hide (only_setRow (vs := #[.int .i64 0, .int .i64 0, .int .i64 0, .int .i64 0]) (HO2.out.trans Hor.out) (Nat.le_refl _))
        refine wpList_plain rfl (fun K hK => ?_)
        go_simp
        refine hK _ _ ?_
        clear hK K
        obtain ⟨y0, y1, y2, y3⟩ := (show _ ∧ _ ∧ _ ∧ _ from ⟨HB4.out.cellv (i := 0) rfl, HB4.out.cellv (i := 1) rfl, HB4.out.cellv (i := 2) rfl, HB4.out.cellv (i := 3) rfl⟩)
        go_wp2_with fail
        refine bodyPost_ret (v := .tuple #[.agg #[.int .i64 0, .int .i64 0, .int .i64 0, .int .i64 0], .bool false]) (by simp [results, Tryz.results82, go_sem, y0, y1, y2, y3]) rfl ⟨⟨0, 0, 0, 0⟩, false, rfl, HWP.out, HO4.out⟩
end Go.Proofs.YtcdfeaodfmfdnaaGreatDoor
