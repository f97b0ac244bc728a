/- gameref.pieceText: the document's text of a piece, walked. gameref.RulesText at right rules: walked. -/
import Derived.Test.YtcdfeaodfmfdnaaGreatDoorRtWayM
import Derived.Test.YtcdfeaodfmfdnaaGreatDoorRxWriteM
import Derived.Deep.RegionHeld
import Derived.Test.YtcdfeaodfmfdnaaGreatDoorBxParM
namespace Go.Proofs.YtcdfeaodfmfdnaaGreatDoor
open Go.RowKit

theorem conv_one {w : World} {g : Nat} {c : Nat} (hc : upB c = true) (hb : Blk w g 5 #[.int .u8 (c : Int)]) : (convert 96 9 (.slice (some ⟨g, 0, none⟩) 1 1)).run Tryz.prog w = .ok (.string (bytes [UInt8.ofNat c])) w := by
  have hrun := run_convert_bytes_back (P := Tryz.prog) w 96 9 5 ⟨g, 0, none⟩ 1 [UInt8.ofNat c] Tryz.underlying96 Tryz.underlying5 Tryz.underlying9 (fun j hj => by
    have : j = 0 := by simpa using hj
    subst this
    rw [Addr.add_lit, hb.cell]
    simp [up_small hc])
  exact hrun
theorem head_txt (p : PieceD) (a b : ByteArray) (ha : bytes [UInt8.ofNat p.letter] = a) (hb : bytes (Lib.decDigits p.worth.toNat) = b) : ((⟨#[112, 105, 101, 99, 101, 32]⟩ ++ a) ++ ⟨#[32]⟩) ++ b = bytes (headL p) := by
  subst ha hb
  rw [show (⟨#[112, 105, 101, 99, 101, 32]⟩ : ByteArray) = bytes [112, 105, 101, 99, 101, 32] from rfl, show (⟨#[32]⟩ : ByteArray) = bytes [32] from rfl]
  simp only [bytes_cat]
  congr 1
theorem step_conv1 {o : Oper} {a : Act} {K : Act → World → Prop} {Q : Exit → Act → World → Prop} {w : World} (x : Operand) (ho : o.op = .convert 96 9 x)
    (c : Nat) (hc : upB c = true) (g : Nat) (hx : a.eval x = .slice (some ⟨g, 0, none⟩) 1 1) (hb : Blk w g 5 #[.int .u8 (c : Int)])
    (h : K (a.put o.dst (.string (bytes [UInt8.ofNat c]))) w) : Oper.wp Tryz.prog o a w K Q := by
  have hr := conv_one hc hb
  unfold Oper.wp execOp
  simp only [ho, hx, Sem.run_bind, Sem.run_pure, Result.andThen_ok, hr]
  exact h
set_option maxHeartbeats 8000000 in
set_option maxRecDepth 100000 in
theorem ptext_any (p : PieceD) (Ak : Option Addr) (ck : Nat) (W : World) (hu : upB p.letter = true) (h0 : 0 ≤ p.worth) (h9 : p.worth ≤ 9999) (h8 : p.ways.length ≤ 8) (hok : ∀ w ∈ p.ways, WayOk w) (hways : WaysAt W W.heap.size Ak p.ways) (he : Env W) :
    Calls Tryz.prog 49 #[.agg #[.int .u8 (p.letter : Int), .int .i64 p.worth, .slice Ak p.ways.length ck]] W fun e w' => e = .returned (.string (bytes (wordR 1 ++ tailP p))) ∧ Only (fun _ => False) W w' := by
  obtain ⟨wn, hwn⟩ : ∃ wn : Nat, p.worth = (wn : Int) := ⟨p.worth.toNat, by omega⟩
  obtain ⟨lt, hlet⟩ : ∃ lt, bytes [UInt8.ofNat p.letter] = lt := ⟨_, rfl⟩
  obtain ⟨ld, hld⟩ : ∃ ld, bytes (Lib.decDigits wn) = ld := ⟨_, rfl⟩
  have Hhead := hide (head_txt p lt ld hlet (by rw [hwn]; exact hld))
  have hw9 := hide (show wn ≤ 9999 from by omega)
  have hlt1 : lt.size = 1 := by rw [← hlet, bytes_size]; rfl
  have hld1 : ld.size ≤ 4 := by rw [← hld, bytes_size]; exact dec_len hw9.out
  have hhl : (headL p).length ≤ 12 := head_len (by omega)
  have Hlt := hide hlet
  have Hld := hide hld
  have hup := hide hu
  have Hok := hide hok
  rw [hwn]
  have c9 : ¬ 9223372036854775807 < 8 + ld.size := by omega
  have hal : Only (fun _ => False) W (W.alloc (.cells #[.int .u8 (p.letter : Int), .int .i64 (wn : Int), .slice Ak p.ways.length ck] 77)) := (Only.refl _ W).alloc _
  have HE5 := hide (he.no hal)
  have HO5 := hide hal
  have HB5 := hide (Blk.new W 77 #[.int .u8 (p.letter : Int), .int .i64 (wn : Int), .slice Ak p.ways.length ck])
  have HV5 := hide (show WaysAt (W.alloc (.cells #[.int .u8 (p.letter : Int), .int .i64 (wn : Int), .slice Ak p.ways.length ck] 77)) W.heap.size Ak p.ways from (by
    intro hn
    obtain ⟨b, off, e, hlt, hc⟩ := hways hn
    exact ⟨b, off, e, hlt, fun k hk => by rw [← hc k hk]; simp only [World.cell?, hal.block b (by omega) (fun h => h)]⟩))
  clear hu h0 h9 hok hways he hwn hlet hld hal
  go_enter Tryz.func49, Tryz.ntmps49
  go_upto_region 1 with (fail)
  obtain ⟨w5, hw5⟩ : ∃ w5, W.alloc (.cells #[.int .u8 (p.letter : Int), .int .i64 (wn : Int), .slice Ak p.ways.length ck] 77) = w5 := ⟨_, rfl⟩
  rw [hw5] at HE5 HO5 HB5 HV5 ⊢
  have hsz : W.heap.size ≤ w5.heap.size := HO5.out.size
  obtain ⟨gp, hgp⟩ : ∃ gp, W.heap.size = gp := ⟨_, rfl⟩
  rw [hgp] at HB5 ⊢
  clear hw5 hgp
  have HS := hide (fun w' (ho : Only (fun _ => False) w5 w') => (show w'.cell? ⟨gp, 0, none⟩ = some (.int .u8 (p.letter : Int)) ∧ w'.cell? ⟨gp, 1, none⟩ = some (.int .i64 (wn : Int)) from (by
    have hB := HB5.out.only ho (fun h => h)
    exact ⟨hB.cellv rfl, hB.cellv rfl⟩)))
  go_cut [3] (fun s w' => s = .string (bytes (headL p)) ∧ Only (fun _ => False) w5 w')
  case first =>
    refine wp_region_held_drew (S := fun w' : World => (w'.cell? ⟨gp, 0, none⟩ = some (.int .u8 (p.letter : Int)) ∧ w'.cell? ⟨gp, 1, none⟩ = some (.int .i64 (wn : Int)))) (by kernel_rfl) (HS.out _ (Only.refl (fun _ => False) w5).drew) (fun hHeld => ?_)
    refine wpAnyH_take (i := 0) (oi := ⟨some 5, _, _, _, _, _⟩) (v := ?_) rfl (by kernel_rfl) (by kernel_rfl) (by kernel_rfl) (fun _ _ _ h => h) (Or.inl ⟨by rfl, ?_⟩) (by assumption) ?_
    rotate_left 1
    · intro w hSw
      try dsimp only at hSw
      go_simp <;> with_reducible rfl
    try simp only [Act.put, List.setIfInBounds_toArray, List.set_cons_zero, List.set_cons_succ]
    refine wpAnyH_take (i := 1) (oi := ⟨some 6, _, _, _, _, _⟩) (v := ?_) rfl (by kernel_rfl) (by kernel_rfl) (by kernel_rfl) (fun _ _ _ h => h) (Or.inl ⟨by rfl, ?_⟩) (by assumption) ?_
    rotate_left 1
    · intro w hSw
      try dsimp only at hSw
      go_simp <;> with_reducible rfl
    try simp only [Act.put, List.setIfInBounds_toArray, List.set_cons_zero, List.set_cons_succ]
    refine wpAnyH_take (i := 6) (oi := ⟨some 11, _, _, _, _, _⟩) (v := ?_) rfl (by kernel_rfl) (by kernel_rfl) (by kernel_rfl) (fun _ _ _ h => h) (Or.inl ⟨by rfl, ?_⟩) (by assumption) ?_
    rotate_left 1
    · intro w hSw
      try dsimp only at hSw
      go_simp <;> with_reducible rfl
    try simp only [Act.put, List.setIfInBounds_toArray, List.set_cons_zero, List.set_cons_succ]
    refine wpAnyH_take (i := 7) (oi := ⟨some 12, _, _, _, _, _⟩) (v := ?_) rfl (by kernel_rfl) (by kernel_rfl) (by kernel_rfl) (fun _ _ _ h => h) (Or.inl ⟨by rfl, ?_⟩) (by assumption) ?_
    rotate_left 1
    · intro w hSw
      try dsimp only at hSw
      go_simp <;> with_reducible rfl
    try simp only [Act.put, List.setIfInBounds_toArray, List.set_cons_zero, List.set_cons_succ]
    refine wpAnyH_ready (rs := [2, 8]) (by kernel_rfl) (by simp) ?_
    refine AllReadyH.cons (o := ⟨some 7, _, _, _, _, _⟩) rfl (fun K hK => ?_) ?_
    · clear hHeld
      go_simp
      refine hK.out _ _ (by exact HS.out _ (by first | exact (Only.refl (fun _ => False) w5).drew | exact ((Only.refl (fun _ => False) w5).drew.alloc _) | exact (((Only.refl (fun _ => False) w5).drew.alloc _).trans ho6) | exact ((Only.refl (fun _ => False) w5).drew.trans ho6) | exact (((Only.refl (fun _ => False) w5).drew.trans ho6).alloc _))) (fun hHeld => ?_)
      clear hK K
      try simp only [Act.put, List.setIfInBounds_toArray, List.set_cons_zero, List.set_cons_succ]
      refine wpAnyH_ready (rs := [3, 8]) (by kernel_rfl) (by simp) ?_
      refine AllReadyH.cons (o := ⟨some 8, _, _, _, _, _⟩) rfl (fun K hK => ?_) ?_
      · clear hHeld
        rw [if_pos (by rfl)]
        refine step_conv1 (.tmp 7) rfl p.letter hup.out _ rfl (by first | exact Blk.new _ 5 #[.int .u8 (p.letter : Int)] | exact (show Blk (w5.alloc (.cells #[.int .u8 (p.letter : Int)] 5)).drew w5.heap.size 5 #[.int .u8 (p.letter : Int)] from Blk.new w5 _ _) | exact (show Blk (w5.alloc (.cells #[.int .u8 (p.letter : Int)] 5)).drew w5.heap.size 5 #[.int .u8 (p.letter : Int)] from Blk.new w5 _ _).only ho6 (fun h => h)) ?_
        rw [Hlt.out]
        refine hK.out _ _ (by exact HS.out _ (by first | exact (Only.refl (fun _ => False) w5).drew | exact ((Only.refl (fun _ => False) w5).drew.alloc _) | exact (((Only.refl (fun _ => False) w5).drew.alloc _).trans ho6) | exact ((Only.refl (fun _ => False) w5).drew.trans ho6) | exact (((Only.refl (fun _ => False) w5).drew.trans ho6).alloc _))) (fun hHeld => ?_)
        clear hK K
        try simp only [Act.put, List.setIfInBounds_toArray, List.set_cons_zero, List.set_cons_succ]
        refine wpAnyH_take (i := 4) (oi := ⟨some 9, _, _, _, _, _⟩) (v := ?_) rfl (by kernel_rfl) (by kernel_rfl) (by kernel_rfl) (fun _ _ _ h => h) (Or.inl ⟨by rfl, ?_⟩) (by assumption) ?_
        rotate_left 1
        · intro w hSw
          try dsimp only at hSw
          go_simp <;> with_reducible rfl
        try simp only [Act.put, List.setIfInBounds_toArray, List.set_cons_zero, List.set_cons_succ]
        refine wpAnyH_take (i := 5) (oi := ⟨some 10, _, _, _, _, _⟩) (v := ?_) rfl (by kernel_rfl) (by kernel_rfl) (by kernel_rfl) (fun _ _ _ h => h) (Or.inl ⟨by rfl, ?_⟩) (by assumption) ?_
        rotate_left 1
        · intro w hSw
          try dsimp only at hSw
          go_simp <;> with_reducible rfl
        try simp only [Act.put, List.setIfInBounds_toArray, List.set_cons_zero, List.set_cons_succ]
        refine wpAnyH_ready (rs := [8]) (by kernel_rfl) (by simp) ?_
        refine AllReadyH.cons (o := ⟨some 13, _, _, _, _, _⟩) rfl (fun K hK => ?_) ?_
        · clear hHeld
          go_simp
          go_at_call 29
          refine (itoa_env wn _ hw9.out (HE5.out.no (by first | exact (Only.refl (fun _ => False) w5).drew | exact ((Only.refl (fun _ => False) w5).drew.alloc _)))).mono ?_
          rintro e w6 ⟨rfl, ho6⟩
          rw [Hld.out]
          refine hK.out _ _ (by exact HS.out _ (by first | exact (Only.refl (fun _ => False) w5).drew | exact ((Only.refl (fun _ => False) w5).drew.alloc _) | exact (((Only.refl (fun _ => False) w5).drew.alloc _).trans ho6) | exact ((Only.refl (fun _ => False) w5).drew.trans ho6) | exact (((Only.refl (fun _ => False) w5).drew.trans ho6).alloc _))) (fun hHeld => ?_)
          clear hK K
          try simp only [Act.put, List.setIfInBounds_toArray, List.set_cons_zero, List.set_cons_succ]
          refine wpAnyH_take (i := 9) (oi := ⟨some 14, _, _, _, _, _⟩) (v := ?_) rfl (by kernel_rfl) (by kernel_rfl) (by kernel_rfl) (fun _ _ _ h => h) (Or.inl ⟨by rfl, ?_⟩) (by assumption) ?_
          rotate_left 1
          · intro w hSw
            try dsimp only at hSw
            go_simp <;> with_reducible rfl
          try simp only [Act.put, List.setIfInBounds_toArray, List.set_cons_zero, List.set_cons_succ]
          refine wpAnyH_take (i := 10) (oi := ⟨some 3, _, _, _, _, _⟩) (v := ?_) rfl (by kernel_rfl) (by kernel_rfl) (by kernel_rfl) (fun _ _ _ h => h) (Or.inl ⟨by rfl, ?_⟩) (by assumption) ?_
          rotate_left 1
          · intro w hSw
            try dsimp only at hSw
            go_simp <;> with_reducible rfl
          try simp only [Act.put, List.setIfInBounds_toArray, List.set_cons_zero, List.set_cons_succ]
          refine wpAnyH_done (by kernel_rfl) ?_ _
          rw [Hhead.out]
          go_wp2_with fail
          go_meet
          case rel => exact ⟨rfl, by first | exact (((Only.refl (fun _ => False) w5).drew.alloc _).trans ho6) | exact (((Only.refl (fun _ => False) w5).drew.trans ho6).alloc _)⟩
        exact AllReadyH.nil
      refine AllReadyH.cons (o := ⟨some 13, _, _, _, _, _⟩) rfl (fun K hK => ?_) ?_
      · clear hHeld
        go_simp
        go_at_call 29
        refine (itoa_env wn _ hw9.out (HE5.out.no (by first | exact (Only.refl (fun _ => False) w5).drew | exact ((Only.refl (fun _ => False) w5).drew.alloc _)))).mono ?_
        rintro e w6 ⟨rfl, ho6⟩
        rw [Hld.out]
        refine hK.out _ _ (by exact HS.out _ (by first | exact (Only.refl (fun _ => False) w5).drew | exact ((Only.refl (fun _ => False) w5).drew.alloc _) | exact (((Only.refl (fun _ => False) w5).drew.alloc _).trans ho6) | exact ((Only.refl (fun _ => False) w5).drew.trans ho6) | exact (((Only.refl (fun _ => False) w5).drew.trans ho6).alloc _))) (fun hHeld => ?_)
        clear hK K
        try simp only [Act.put, List.setIfInBounds_toArray, List.set_cons_zero, List.set_cons_succ]
        refine wpAnyH_ready (rs := [3]) (by kernel_rfl) (by simp) ?_
        refine AllReadyH.cons (o := ⟨some 8, _, _, _, _, _⟩) rfl (fun K hK => ?_) ?_
        · clear hHeld
          rw [if_pos (by rfl)]
          refine step_conv1 (.tmp 7) rfl p.letter hup.out _ rfl (by first | exact Blk.new _ 5 #[.int .u8 (p.letter : Int)] | exact (show Blk (w5.alloc (.cells #[.int .u8 (p.letter : Int)] 5)).drew w5.heap.size 5 #[.int .u8 (p.letter : Int)] from Blk.new w5 _ _) | exact (show Blk (w5.alloc (.cells #[.int .u8 (p.letter : Int)] 5)).drew w5.heap.size 5 #[.int .u8 (p.letter : Int)] from Blk.new w5 _ _).only ho6 (fun h => h)) ?_
          rw [Hlt.out]
          refine hK.out _ _ (by exact HS.out _ (by first | exact (Only.refl (fun _ => False) w5).drew | exact ((Only.refl (fun _ => False) w5).drew.alloc _) | exact (((Only.refl (fun _ => False) w5).drew.alloc _).trans ho6) | exact ((Only.refl (fun _ => False) w5).drew.trans ho6) | exact (((Only.refl (fun _ => False) w5).drew.trans ho6).alloc _))) (fun hHeld => ?_)
          clear hK K
          try simp only [Act.put, List.setIfInBounds_toArray, List.set_cons_zero, List.set_cons_succ]
          refine wpAnyH_take (i := 4) (oi := ⟨some 9, _, _, _, _, _⟩) (v := ?_) rfl (by kernel_rfl) (by kernel_rfl) (by kernel_rfl) (fun _ _ _ h => h) (Or.inl ⟨by rfl, ?_⟩) (by assumption) ?_
          rotate_left 1
          · intro w hSw
            try dsimp only at hSw
            go_simp <;> with_reducible rfl
          try simp only [Act.put, List.setIfInBounds_toArray, List.set_cons_zero, List.set_cons_succ]
          refine wpAnyH_take (i := 5) (oi := ⟨some 10, _, _, _, _, _⟩) (v := ?_) rfl (by kernel_rfl) (by kernel_rfl) (by kernel_rfl) (fun _ _ _ h => h) (Or.inl ⟨by rfl, ?_⟩) (by assumption) ?_
          rotate_left 1
          · intro w hSw
            try dsimp only at hSw
            go_simp <;> with_reducible rfl
          try simp only [Act.put, List.setIfInBounds_toArray, List.set_cons_zero, List.set_cons_succ]
          refine wpAnyH_take (i := 9) (oi := ⟨some 14, _, _, _, _, _⟩) (v := ?_) rfl (by kernel_rfl) (by kernel_rfl) (by kernel_rfl) (fun _ _ _ h => h) (Or.inl ⟨by rfl, ?_⟩) (by assumption) ?_
          rotate_left 1
          · intro w hSw
            try dsimp only at hSw
            go_simp <;> with_reducible rfl
          try simp only [Act.put, List.setIfInBounds_toArray, List.set_cons_zero, List.set_cons_succ]
          refine wpAnyH_take (i := 10) (oi := ⟨some 3, _, _, _, _, _⟩) (v := ?_) rfl (by kernel_rfl) (by kernel_rfl) (by kernel_rfl) (fun _ _ _ h => h) (Or.inl ⟨by rfl, ?_⟩) (by assumption) ?_
          rotate_left 1
          · intro w hSw
            try dsimp only at hSw
            go_simp <;> with_reducible rfl
          try simp only [Act.put, List.setIfInBounds_toArray, List.set_cons_zero, List.set_cons_succ]
          refine wpAnyH_done (by kernel_rfl) ?_ _
          rw [Hhead.out]
          go_wp2_with fail
          go_meet
          case rel => exact ⟨rfl, by first | exact (((Only.refl (fun _ => False) w5).drew.alloc _).trans ho6) | exact (((Only.refl (fun _ => False) w5).drew.trans ho6).alloc _)⟩
        exact AllReadyH.nil
      exact AllReadyH.nil
    refine AllReadyH.cons (o := ⟨some 13, _, _, _, _, _⟩) rfl (fun K hK => ?_) ?_
    · clear hHeld
      go_simp
      go_at_call 29
      refine (itoa_env wn _ hw9.out (HE5.out.no (by first | exact (Only.refl (fun _ => False) w5).drew | exact ((Only.refl (fun _ => False) w5).drew.alloc _)))).mono ?_
      rintro e w6 ⟨rfl, ho6⟩
      rw [Hld.out]
      refine hK.out _ _ (by exact HS.out _ (by first | exact (Only.refl (fun _ => False) w5).drew | exact ((Only.refl (fun _ => False) w5).drew.alloc _) | exact (((Only.refl (fun _ => False) w5).drew.alloc _).trans ho6) | exact ((Only.refl (fun _ => False) w5).drew.trans ho6) | exact (((Only.refl (fun _ => False) w5).drew.trans ho6).alloc _))) (fun hHeld => ?_)
      clear hK K
      try simp only [Act.put, List.setIfInBounds_toArray, List.set_cons_zero, List.set_cons_succ]
      refine wpAnyH_ready (rs := [2]) (by kernel_rfl) (by simp) ?_
      refine AllReadyH.cons (o := ⟨some 7, _, _, _, _, _⟩) rfl (fun K hK => ?_) ?_
      · clear hHeld
        go_simp
        refine hK.out _ _ (by exact HS.out _ (by first | exact (Only.refl (fun _ => False) w5).drew | exact ((Only.refl (fun _ => False) w5).drew.alloc _) | exact (((Only.refl (fun _ => False) w5).drew.alloc _).trans ho6) | exact ((Only.refl (fun _ => False) w5).drew.trans ho6) | exact (((Only.refl (fun _ => False) w5).drew.trans ho6).alloc _))) (fun hHeld => ?_)
        clear hK K
        try simp only [Act.put, List.setIfInBounds_toArray, List.set_cons_zero, List.set_cons_succ]
        refine wpAnyH_ready (rs := [3]) (by kernel_rfl) (by simp) ?_
        refine AllReadyH.cons (o := ⟨some 8, _, _, _, _, _⟩) rfl (fun K hK => ?_) ?_
        · clear hHeld
          rw [if_pos (by rfl)]
          refine step_conv1 (.tmp 7) rfl p.letter hup.out _ rfl (by first | exact Blk.new _ 5 #[.int .u8 (p.letter : Int)] | exact (show Blk (w5.alloc (.cells #[.int .u8 (p.letter : Int)] 5)).drew w5.heap.size 5 #[.int .u8 (p.letter : Int)] from Blk.new w5 _ _) | exact (show Blk (w5.alloc (.cells #[.int .u8 (p.letter : Int)] 5)).drew w5.heap.size 5 #[.int .u8 (p.letter : Int)] from Blk.new w5 _ _).only ho6 (fun h => h)) ?_
          rw [Hlt.out]
          refine hK.out _ _ (by exact HS.out _ (by first | exact (Only.refl (fun _ => False) w5).drew | exact ((Only.refl (fun _ => False) w5).drew.alloc _) | exact (((Only.refl (fun _ => False) w5).drew.alloc _).trans ho6) | exact ((Only.refl (fun _ => False) w5).drew.trans ho6) | exact (((Only.refl (fun _ => False) w5).drew.trans ho6).alloc _))) (fun hHeld => ?_)
          clear hK K
          try simp only [Act.put, List.setIfInBounds_toArray, List.set_cons_zero, List.set_cons_succ]
          refine wpAnyH_take (i := 4) (oi := ⟨some 9, _, _, _, _, _⟩) (v := ?_) rfl (by kernel_rfl) (by kernel_rfl) (by kernel_rfl) (fun _ _ _ h => h) (Or.inl ⟨by rfl, ?_⟩) (by assumption) ?_
          rotate_left 1
          · intro w hSw
            try dsimp only at hSw
            go_simp <;> with_reducible rfl
          try simp only [Act.put, List.setIfInBounds_toArray, List.set_cons_zero, List.set_cons_succ]
          refine wpAnyH_take (i := 5) (oi := ⟨some 10, _, _, _, _, _⟩) (v := ?_) rfl (by kernel_rfl) (by kernel_rfl) (by kernel_rfl) (fun _ _ _ h => h) (Or.inl ⟨by rfl, ?_⟩) (by assumption) ?_
          rotate_left 1
          · intro w hSw
            try dsimp only at hSw
            go_simp <;> with_reducible rfl
          try simp only [Act.put, List.setIfInBounds_toArray, List.set_cons_zero, List.set_cons_succ]
          refine wpAnyH_take (i := 9) (oi := ⟨some 14, _, _, _, _, _⟩) (v := ?_) rfl (by kernel_rfl) (by kernel_rfl) (by kernel_rfl) (fun _ _ _ h => h) (Or.inl ⟨by rfl, ?_⟩) (by assumption) ?_
          rotate_left 1
          · intro w hSw
            try dsimp only at hSw
            go_simp <;> with_reducible rfl
          try simp only [Act.put, List.setIfInBounds_toArray, List.set_cons_zero, List.set_cons_succ]
          refine wpAnyH_take (i := 10) (oi := ⟨some 3, _, _, _, _, _⟩) (v := ?_) rfl (by kernel_rfl) (by kernel_rfl) (by kernel_rfl) (fun _ _ _ h => h) (Or.inl ⟨by rfl, ?_⟩) (by assumption) ?_
          rotate_left 1
          · intro w hSw
            try dsimp only at hSw
            go_simp <;> with_reducible rfl
          try simp only [Act.put, List.setIfInBounds_toArray, List.set_cons_zero, List.set_cons_succ]
          refine wpAnyH_done (by kernel_rfl) ?_ _
          rw [Hhead.out]
          go_wp2_with fail
          go_meet
          case rel => exact ⟨rfl, by first | exact (((Only.refl (fun _ => False) w5).drew.alloc _).trans ho6) | exact (((Only.refl (fun _ => False) w5).drew.trans ho6).alloc _)⟩
        exact AllReadyH.nil
      exact AllReadyH.nil
    exact AllReadyH.nil
  case rest =>
    obtain ⟨rfl, ho⟩ := hcut
    rename World => w6
    have HE6 := hide (HE5.out.no ho)
    have HO6 := hide (HO5.out.trans ho)
    have HB6 := hide (HB5.out.only ho (fun h => h))
    have HV6 := hide (show WaysAt w6 W.heap.size Ak p.ways from (by
      intro hn
      obtain ⟨b, off, e, hlt, hc⟩ := HV5.out hn
      exact ⟨b, off, e, hlt, fun k hk => by rw [← hc k hk]; simp only [World.cell?, ho.block b (by omega) (fun h => h)]⟩))
    obtain ⟨s0, hs0⟩ : ∃ s0, bytes (headL p) = s0 := ⟨_, rfl⟩
    have Hs0 := hide hs0
    rw [hs0]
    clear hs0 ho HE5 HO5 HB5 HV5 HS Hhead Hlt Hld c9
    go_wp2_with fail
    go_loopw [3, 4] (fun sv kv wq => ∃ (k : Nat) (s : ByteArray), k ≤ p.ways.length ∧ kv = .int .i64 (k : Int) ∧ sv = .string s ∧ s = bytes (headL p ++ waysL (p.ways.take k)) ∧ Only (fun _ => False) w6 wq) (fun _ kv _ => p.ways.length - (intOf kv).toNat)
    case atStart => exact ⟨0, s0, by omega, rfl, rfl, by rw [List.take_zero, waysL_nil, List.append_nil]; exact Hs0.out.symm, Only.refl _ _⟩
    case round =>
      rename World => wq
      obtain ⟨k, s, hkl, rfl, rfl, hs, hoq⟩ := hrel
      have Hoq := hide hoq
      have Hs := hide hs
      have HEq := hide (HE6.out.no hoq)
      have hbq := HB6.out.only hoq (fun h => h)
      have hwt : (waysL (p.ways.take k)).length ≤ 23 * 8 := by
        have h1 := waysL_len (ws := p.ways.take k) (fun w hw => Hok.out w (List.mem_of_mem_take hw))
        have h2 : (p.ways.take k).length ≤ 8 := by rw [List.length_take]; omega
        omega
      have hss : s.size ≤ 300 := by rw [hs, bytes_size, List.length_append]; omega
      obtain ⟨y0, y1, y2⟩ := (show _ ∧ _ ∧ _ from ⟨hbq.cellv (i := 0) rfl, hbq.cellv (i := 1) rfl, hbq.cellv (i := 2) rfl⟩)
      by_cases hk : k < p.ways.length
      · have d2 : decide ((k : Int) < (p.ways.length : Int)) = true := by simp; omega
        have d2n : decide (k < p.ways.length) = true := by simp; omega
        have k0 : (0 : Int) ≤ (k : Int) := by omega
        have k1 : (k : Int) < (p.ways.length : Int) := by omega
        have hvq : WaysAt wq W.heap.size Ak p.ways := by
          intro hn
          obtain ⟨b, off, e, hlt, hc⟩ := HV6.out hn
          exact ⟨b, off, e, hlt, fun k hk => by rw [← hc k hk]; simp only [World.cell?, hoq.block b (by have := HO6.out.size; omega) (fun h => h)]⟩
        obtain ⟨b2, off2, rfl, hb2, z0, z1, z2, z3⟩ := ways_at hvq hk
        have htk : p.ways.take (k + 1) = p.ways.take k ++ [p.ways[k]] := by rw [List.take_succ_eq_append_getElem hk]
        have htl : (p.ways.take k).length = k := by rw [List.length_take]; omega
        have hwo := Hok.out _ (List.getElem_mem hk)
        obtain ⟨wy, hwy⟩ : ∃ wy, p.ways[k] = wy := ⟨_, rfl⟩
        rw [hwy] at hwo htk z0 z1 z2 z3
        have HT := hide (wtext_any wy wq (way_in hwo) HEq.out)
        have hwl := wayL_len hwo
        obtain ⟨tx, htx⟩ : ∃ tx, bytes (wayL wy) = tx := ⟨_, rfl⟩
        have htxs : tx.size ≤ 21 := by rw [← htx, bytes_size]; exact hwl
        have hsep := waysL_snoc (p.ways.take k) wy
        rw [← htk, htl] at hsep
        rw [htx] at HT
        by_cases h0 : k = 0
        · have d0 : ((k : Int) == 0) = true := by simp; omega
          have d0n : (k == 0) = true := by simp; omega
          rw [if_pos h0] at hsep
          have Hcat := hide (show (s ++ ⟨#[58, 32]⟩) ++ tx = bytes (headL p ++ waysL (p.ways.take (k + 1))) from by
            rw [hs, ← htx, show (⟨#[58, 32]⟩ : ByteArray) = bytes [58, 32] from rfl, bytes_cat, bytes_cat, hsep]
            congr 1
            simp)
          clear hwo htk htl hwy hwl htx hsep h0 hs hoq hbq hvq
          go_wp2_with (go_at_call 92; refine HT.out.mono ?_; rintro e w7 ⟨rfl, ho7⟩; have Ho7 := hide ho7; clear ho7)
          rw [Hcat.out]
          go_roundw
          case rel => exact ⟨k + 1, _, by omega, by go_num, rfl, rfl, Hoq.out.trans Ho7.out⟩
          case measure => simp [intOf]; omega
        · have d0 : ((k : Int) == 0) = false := by simp; omega
          have d0n : (k == 0) = false := by simp; omega
          rw [if_neg h0] at hsep
          have Hcat := hide (show (s ++ ⟨#[44, 32]⟩) ++ tx = bytes (headL p ++ waysL (p.ways.take (k + 1))) from by
            rw [hs, ← htx, show (⟨#[44, 32]⟩ : ByteArray) = bytes [44, 32] from rfl, bytes_cat, bytes_cat, hsep]
            congr 1
            simp)
          clear hwo htk htl hwy hwl htx hsep h0 hs hoq hbq hvq
          go_wp2_with (go_at_call 92; refine HT.out.mono ?_; rintro e w7 ⟨rfl, ho7⟩; have Ho7 := hide ho7; clear ho7)
          rw [Hcat.out]
          go_roundw
          case rel => exact ⟨k + 1, _, by omega, by go_num, rfl, rfl, Hoq.out.trans Ho7.out⟩
          case measure => simp [intOf]; omega
      · have d2 : decide ((k : Int) < (p.ways.length : Int)) = false := by simp; omega
        have d2n : decide (k < p.ways.length) = false := by simp; omega
        have hke : k = p.ways.length := by omega
        have Hse := hide (show s = bytes (wordR 1 ++ tailP p) from by rw [hs, hke, List.take_length, piece_head])
        clear hke hs
        go_wp2_with fail
        go_ret
        exact ⟨congrArg (fun b : ByteArray => Ending.returned (.string b)) Hse.out, HO6.out.trans Hoq.out⟩
end Go.Proofs.YtcdfeaodfmfdnaaGreatDoor
namespace Go.Proofs.YtcdfeaodfmfdnaaGreatDoor
open Go.RowKit

/-- lines, each with its end -/
def catL (ls : List (List UInt8)) : List UInt8 := (ls.map (· ++ [10])).flatten
theorem catL_app (a b : List (List UInt8)) : catL (a ++ b) = catL a ++ catL b := by simp [catL]
theorem catL_one (a : List UInt8) : catL [a] = a ++ [10] := by simp [catL]
theorem catL_join : ∀ ls : List (List UInt8), joinL 10 (ls ++ [[]]) = catL ls
  | [] => rfl
  | a :: l => by
    rw [List.cons_append, joinL_cons (by simp), catL_join l]
    simp [catL]
theorem catL_len {m : Nat} : ∀ {ls : List (List UInt8)}, (∀ a ∈ ls, a.length ≤ m) → (catL ls).length ≤ ls.length * (m + 1)
  | [], _ => by simp [catL]
  | a :: l, h => by
    have h1 := catL_len (fun x hx => h x (List.mem_cons_of_mem _ hx))
    have h2 := h a List.mem_cons_self
    rw [show a :: l = [a] ++ l from rfl, catL_app, catL_one]
    simp only [List.length_append, List.length_cons, List.length_nil, Nat.add_mul]
    omega
theorem catup_len {r : RulesD} (h : RulesOk r) {k : Nat} (hk : k ≤ 8) : (catL (upR r k)).length ≤ 40000 := by
  obtain ⟨h1, h2⟩ := up_len h k
  have h3 := catL_len h2
  have := Nat.mul_le_mul_right (400 + 1) (show (upR r k).length ≤ 80 by omega)
  omega
set_option maxHeartbeats 16000000 in
set_option maxRecDepth 100000 in
theorem rtext_any (r : RulesD) (A : Option Addr) (cp : Nat) (W : World) (hr : RulesOk r) (he : Env W) (hP : PiecesAt W W.heap.size A r.pieces) :
    Calls Tryz.prog 15 #[.agg #[.int .i64 r.start.w, .int .i64 r.start.h, .string r.start.cells, .int .i64 r.start.turn, .string r.start.h0, .string r.start.h1, .slice A r.pieces.length cp, .bool r.drops, .int .u8 (r.lose : Int), .int .i64 r.line, .int .u8 (r.reach : Int), .bool r.stuck, .int .i64 r.plies]] W fun e w' => e = .returned (.string (bytes (textR r))) ∧ Only (fun _ => False) W w' := by
  have hbig := he.big
  have HP1 := hide (show WrS W r A cp (W.alloc (.cells #[.int .i64 r.start.w, .int .i64 r.start.h, .string r.start.cells, .int .i64 r.start.turn, .string r.start.h0, .string r.start.h1, .slice A r.pieces.length cp, .bool r.drops, .int .u8 (r.lose : Int), .int .i64 r.line, .int .u8 (r.reach : Int), .bool r.stuck, .int .i64 r.plies] 27)) from (by
    have ho : Only (fun _ => False) W (W.alloc (.cells #[.int .i64 r.start.w, .int .i64 r.start.h, .string r.start.cells, .int .i64 r.start.turn, .string r.start.h0, .string r.start.h1, .slice A r.pieces.length cp, .bool r.drops, .int .u8 (r.lose : Int), .int .i64 r.line, .int .u8 (r.reach : Int), .bool r.stuck, .int .i64 r.plies] 27)) := (Only.refl _ W).alloc _
    exact ⟨ho, he.no ho, Blk.new W _ _, hP.low ho (fun _ h => h.elim) (Nat.le_refl _), by rw [World.size_alloc]; omega⟩))
  have Hr := hide hr
  have HWS := hide (fun w => text_any r.start w hr.start)
  have hst := textL_len hr.start
  clear hr he hP
  go_enter Tryz.func15, Tryz.ntmps15
  go_upto_region 1 with (fail)
  obtain ⟨w1, hw1⟩ : ∃ w1, W.alloc (.cells #[.int .i64 r.start.w, .int .i64 r.start.h, .string r.start.cells, .int .i64 r.start.turn, .string r.start.h0, .string r.start.h1, .slice A r.pieces.length cp, .bool r.drops, .int .u8 (r.lose : Int), .int .i64 r.line, .int .u8 (r.reach : Int), .bool r.stuck, .int .i64 r.plies] 27) = w1 := ⟨_, rfl⟩
  rw [hw1] at HP1 ⊢
  clear hw1
  obtain ⟨y0, y1, y2, y3, y4, y5, y6, y7, y8, y9, y10, y11, y12⟩ := Blk.rules HP1.out.b
  obtain ⟨st, hstt⟩ : ∃ st, bytes (textL r.start) = st := ⟨_, rfl⟩
  have hst1 : st.size ≤ 100 := by rw [← hstt, bytes_size]; exact hst
  have Hcat := hide (show (⟨#[115, 116, 97, 114, 116, 32]⟩ ++ st) ++ ⟨#[10]⟩ = bytes (catL (upR r 1)) from by
    rw [← hstt, show (⟨#[115, 116, 97, 114, 116, 32]⟩ : ByteArray) = bytes [115, 116, 97, 114, 116, 32] from rfl, show (⟨#[10]⟩ : ByteArray) = bytes [10] from rfl, bytes_cat, bytes_cat, show upR r 1 = [wordR 0 ++ 32 :: textL r.start] from rfl, catL_one]
    simp [wordR])
  rw [hstt] at HWS
  clear hstt hst
  go_upto_region 2 with (go_at_call 48; refine (HWS.out _).mono ?_; rintro e w3 ⟨rfl, hl3⟩; have Hl3 := hide hl3; clear hl3)
  have HP3 := hide (HP1.out.no hbig (Only.of_below Hl3.out (fun k h1 h2 => by omega)))
  rw [Hcat.out]
  obtain ⟨s1, hs1⟩ : ∃ s1, bytes (catL (upR r 1)) = s1 := ⟨_, rfl⟩
  have Hs1 := hide hs1
  rw [hs1]
  clear y0 y1 y2 y3 y4 y5 y6 y7 y8 y9 y10 y11 y12 HP1 Hl3 HWS Hcat hs1
  go_wp2_with fail
  go_loopw [3, 4] (fun sv iv wr => ∃ (i : Nat) (s : ByteArray), i ≤ r.pieces.length ∧ iv = .int .i64 (i : Int) ∧ sv = .string s ∧ s = bytes (catL (upR r 1 ++ (r.pieces.take i).map (fun p => wordR 1 ++ tailP p))) ∧ WrS W r A cp wr) (fun _ iv _ => r.pieces.length - (intOf iv).toNat)
  case atStart => exact ⟨0, s1, by omega, rfl, rfl, by rw [← Hs1.out]; simp, HP3.out⟩
  case round =>
    clear HP3 Hs1
    rename World => wr
    obtain ⟨i, s, hil, rfl, rfl, hs, hp⟩ := hrel
    have HP := hide hp
    clear hp
    have hp10 := Hr.out.p10
    obtain ⟨y0, y1, y2, y3, y4, y5, y6, y7, y8, y9, y10, y11, y12⟩ := Blk.rules HP.out.b
    by_cases hi : i < r.pieces.length
    · have d1 : decide ((i : Int) < (r.pieces.length : Int)) = true := by simp; omega
      have d1n : decide (i < r.pieces.length) = true := by simp; omega
      have i0 : (0 : Int) ≤ (i : Int) := by omega
      have i1 : (i : Int) < (r.pieces.length : Int) := by omega
      obtain ⟨pb, off, rfl, hpb, z0, z1, Ak, ck, hck, z2, hways⟩ := HP.out.p.at_ hi
      have hok := Hr.out.pieces i hi
      have hlt : r.pieces.take (i + 1) = r.pieces.take i ++ [r.pieces[i]] := by rw [List.take_succ_eq_append_getElem hi]
      have hpl := seg_len Hr.out (k := 1) (a := wordR 1 ++ tailP r.pieces[i]) (List.mem_map.2 ⟨_, List.getElem_mem hi, rfl⟩)
      have hsl : s.size ≤ 40000 := by
        rw [hs, bytes_size]
        have h5 := catL_len (m := 400) (ls := upR r 1 ++ (r.pieces.take i).map (fun p => wordR 1 ++ tailP p)) (fun a ha => by
          rcases List.mem_append.1 ha with h | h
          · exact (up_len Hr.out 1).2 a h
          · obtain ⟨p, hp, rfl⟩ := List.mem_map.1 h
            exact seg_len Hr.out (k := 1) (List.mem_map.2 ⟨p, List.mem_of_mem_take hp, rfl⟩))
        have h6 := (up_len Hr.out 1).1
        have h7 : (upR r 1 ++ (r.pieces.take i).map (fun p => wordR 1 ++ tailP p)).length ≤ 80 := by
          simp only [List.length_append, List.length_map, List.length_take]; omega
        have := Nat.mul_le_mul_right (400 + 1) h7
        omega
      obtain ⟨pc, hpc⟩ : ∃ pc, r.pieces[i] = pc := ⟨_, rfl⟩
      rw [hpc] at hok hlt z0 z1 z2 hck hways hpl
      have h0 := hok.w0
      have h9 := hok.w1
      have HT := hide (ptext_any pc Ak ck wr hok.letter h0 (by omega) hok.len (fun w hw => by
        obtain ⟨j, hj, e⟩ := List.getElem_of_mem hw
        rw [← e]; exact hok.ways j hj) (hways.more (by have := HP.out.sz; omega)) HP.out.e)
      obtain ⟨tx, htx⟩ : ∃ tx, bytes (wordR 1 ++ tailP pc) = tx := ⟨_, rfl⟩
      have htxs : tx.size ≤ 400 := by rw [← htx, bytes_size]; exact hpl
      have Hcat := hide (show s ++ (tx ++ ⟨#[10]⟩) = bytes (catL (upR r 1 ++ (r.pieces.take (i + 1)).map (fun p => wordR 1 ++ tailP p))) from by
        rw [hs, ← htx, show (⟨#[10]⟩ : ByteArray) = bytes [10] from rfl, bytes_cat, bytes_cat, hlt, List.map_append, List.map_singleton, show ∀ X Y : List (List UInt8), upR r 1 ++ (X ++ Y) = (upR r 1 ++ X) ++ Y from fun X Y => (List.append_assoc _ _ _).symm, catL_app (upR r 1 ++ _), catL_one])
      rw [htx] at HT
      clear hpc hlt hok h0 h9 hways htx hs hpl
      go_wp2_with (go_at_call 49; refine HT.out.mono ?_; rintro e w7 ⟨rfl, ho7⟩; have Ho7 := hide ho7; clear ho7)
      rw [Hcat.out]
      have HP7 := hide (HP.out.no hbig Ho7.out)
      go_roundw
      case rel => exact ⟨i + 1, _, by omega, by go_num, rfl, rfl, HP7.out⟩
      case measure => simp [intOf]; omega
    · have hie : i = r.pieces.length := by omega
      have hls : upR r 1 ++ (r.pieces.take i).map (fun p => wordR 1 ++ tailP p) = upR r 2 := by
        rw [hie, List.take_length, show upR r 2 = upR r 1 ++ segR r 1 from upR_succ r 1]; rfl
      rw [hls] at hs
      subst hs
      have d1 : decide ((i : Int) < (r.pieces.length : Int)) = false := by simp; omega
      have d1n : decide (i < r.pieces.length) = false := by simp; omega
      clear hls hil hie
      have hsz2 : (bytes (catL (upR r 2))).size ≤ 40000 := by rw [bytes_size]; exact catup_len Hr.out (by omega)
      obtain ⟨s2, hs2⟩ : ∃ s2, bytes (catL (upR r 2)) = s2 := ⟨_, rfl⟩
      have Hs2 := hide hs2
      rw [hs2] at hsz2 ⊢
      clear hs2
      obtain ⟨bc, hbc⟩ : ∃ bc, r.drops = bc := ⟨_, rfl⟩
      have HsT := hide (fun h : bc = true => (show upR r 3 = upR r 2 ++ [wordR 2] from by rw [upR_succ]; simp [segR, hbc, h]))
      have HsF := hide (fun h : bc = false => (show upR r 3 = upR r 2 from by rw [upR_succ]; simp [segR, hbc, h]))
      rw [hbc] at y7
      clear hbc
      go_upto_if 27 with (fail)
      go_cut [3] (fun sv w' => sv = .string (bytes (catL (upR r 3))) ∧ WrS W r A cp w')
      case first =>
        cases bc
        case false =>
          go_wp2_with fail
          go_meet
          case rel => exact ⟨by rw [HsF.out (by simp), Hs2.out], HP.out⟩
        case true =>
          have Hcat := hide (show s2 ++ ⟨#[100, 114, 111, 112, 115, 10]⟩ = bytes (catL (upR r 3)) from by
            rw [← Hs2.out, show (⟨#[100, 114, 111, 112, 115, 10]⟩ : ByteArray) = bytes (wordR 2 ++ [10]) from rfl, bytes_cat, HsT.out (by simp), catL_app, catL_one])
          go_wp2_with fail
          rw [Hcat.out]
          go_meet
          case rel => exact ⟨rfl, HP.out⟩
      case rest =>
        obtain ⟨rfl, hp⟩ := hcut
        rename World => wr
        clear HsT HsF Hs2 hsz2 HP y0 y1 y2 y3 y4 y5 y6 y7 y8 y9 y10 y11 y12
        have HP := hide hp
        clear hp
        obtain ⟨y0, y1, y2, y3, y4, y5, y6, y7, y8, y9, y10, y11, y12⟩ := Blk.rules HP.out.b
        have hsz2 : (bytes (catL (upR r 3))).size ≤ 40000 := by rw [bytes_size]; exact catup_len Hr.out (by omega)
        obtain ⟨s2, hs2⟩ : ∃ s2, bytes (catL (upR r 3)) = s2 := ⟨_, rfl⟩
        have Hs2 := hide hs2
        rw [hs2] at hsz2 ⊢
        clear hs2
        obtain ⟨bc, hbc⟩ : ∃ bc, decide ((r.lose : Int) > 0) = bc := ⟨_, rfl⟩
        have hnz : bc = true → r.lose ≠ 0 := fun h => by
          rw [h] at hbc
          have := of_decide_eq_true hbc
          omega
        have hz : bc = false → r.lose = 0 := fun h => by
          rw [h] at hbc
          have := of_decide_eq_false hbc
          omega
        have HsT := hide (fun h : bc = true => (show upR r 4 = upR r 3 ++ [wordR 3 ++ [32, UInt8.ofNat r.lose]] from by rw [upR_succ]; simp [segR, hnz h]))
        have HsF := hide (fun h : bc = false => (show upR r 4 = upR r 3 from by rw [upR_succ]; simp [segR, hz h]))
        have HuT := hide (fun h : bc = true => (show upB r.lose = true from (Hr.out.lose.resolve_left (hnz h)).1))
        have hbn : decide (0 < r.lose) = bc := by rw [← hbc]; simp
        clear hnz hz
        go_upto_if 32 with (fail)
        go_cut [3] (fun sv w' => sv = .string (bytes (catL (upR r 4))) ∧ WrS W r A cp w')
        case first =>
          cases bc
          case false =>
            go_wp2_with fail
            go_meet
            case rel => exact ⟨by rw [HsF.out (by simp), Hs2.out], HP.out⟩
          case true =>
            have hup := HuT.out (by simp)
            have hcv := conv_one hup (Blk.new wr 5 #[.int .u8 (r.lose : Int)])
            obtain ⟨lt, hlet⟩ : ∃ lt, bytes [UInt8.ofNat r.lose] = lt := ⟨_, rfl⟩
            have hlt1 : lt.size = 1 := by rw [← hlet, bytes_size]; rfl
            have Hcat := hide (show s2 ++ ((⟨#[108, 111, 115, 101, 32]⟩ ++ lt) ++ ⟨#[10]⟩) = bytes (catL (upR r 4)) from by
              rw [← Hs2.out, ← hlet, show (⟨#[108, 111, 115, 101, 32]⟩ : ByteArray) = bytes [108, 111, 115, 101, 32] from rfl, show (⟨#[10]⟩ : ByteArray) = bytes [10] from rfl, bytes_cat, bytes_cat, bytes_cat, HsT.out (by simp), catL_app, catL_one]
              rfl)
            rw [hlet] at hcv
            clear hup hlet
            go_wp2_with fail
            rw [Hcat.out]
            go_meet
            case rel => exact ⟨rfl, HP.out.no hbig ((Only.refl _ wr).alloc _)⟩
        case rest =>
          obtain ⟨rfl, hp⟩ := hcut
          rename World => wr
          clear HsT HsF Hs2 hsz2 HuT hbc hbn HP y0 y1 y2 y3 y4 y5 y6 y7 y8 y9 y10 y11 y12
          have HP := hide hp
          clear hp
          obtain ⟨y0, y1, y2, y3, y4, y5, y6, y7, y8, y9, y10, y11, y12⟩ := Blk.rules HP.out.b
          have hsz2 : (bytes (catL (upR r 4))).size ≤ 40000 := by rw [bytes_size]; exact catup_len Hr.out (by omega)
          obtain ⟨s2, hs2⟩ : ∃ s2, bytes (catL (upR r 4)) = s2 := ⟨_, rfl⟩
          have Hs2 := hide hs2
          rw [hs2] at hsz2 ⊢
          clear hs2
          obtain ⟨bc, hbc⟩ : ∃ bc, decide (r.line > 0) = bc := ⟨_, rfl⟩
          have hnz : bc = true → 0 < r.line := fun h => by
            rw [h] at hbc
            have := of_decide_eq_true hbc
            omega
          have hz : bc = false → r.line = 0 := fun h => by
            rw [h] at hbc
            have := of_decide_eq_false hbc
            have := Hr.out.line
            omega
          have HsT := hide (fun h : bc = true => (show upR r 5 = upR r 4 ++ [wordR 4 ++ 32 :: Lib.decDigits r.line.toNat] from by
            have := hnz h
            rw [upR_succ]; simp [segR]; omega))
          have HsF := hide (fun h : bc = false => (show upR r 5 = upR r 4 from by rw [upR_succ]; simp [segR, hz h]))
          have HuT := hide (fun h : bc = true => (show 0 < r.line ∧ r.line ≤ 8 from by have := hnz h; have := Hr.out.line; omega))
          have hbn : decide (0 < r.line) = bc := by rw [← hbc]
          clear hnz hz
          go_upto_if 43 with (fail)
          go_cut [3] (fun sv w' => sv = .string (bytes (catL (upR r 5))) ∧ WrS W r A cp w')
          case first =>
            cases bc
            case false =>
              go_wp2_with fail
              go_meet
              case rel => exact ⟨by rw [HsF.out (by simp), Hs2.out], HP.out⟩
            case true =>
              have hup := HuT.out (by simp)
              obtain ⟨ln, hln⟩ : ∃ ln : Nat, r.line = (ln : Int) := ⟨r.line.toNat, by omega⟩
              have hln9 : ln ≤ 9999 := by omega
              obtain ⟨lt, hlet⟩ : ∃ lt, bytes (Lib.decDigits ln) = lt := ⟨_, rfl⟩
              have hlt1 : lt.size ≤ 4 := by rw [← hlet, bytes_size]; exact dec_len hln9
              have HI := hide (itoa_env ln wr hln9 HP.out.e)
              rw [hlet] at HI
              have Hcat := hide (show s2 ++ ((⟨#[108, 105, 110, 101, 32]⟩ ++ lt) ++ ⟨#[10]⟩) = bytes (catL (upR r 5)) from by
                rw [← Hs2.out, ← hlet, show (⟨#[108, 105, 110, 101, 32]⟩ : ByteArray) = bytes [108, 105, 110, 101, 32] from rfl, show (⟨#[10]⟩ : ByteArray) = bytes [10] from rfl, bytes_cat, bytes_cat, bytes_cat, HsT.out (by simp), catL_app, catL_one, hln, Int.toNat_natCast]
                rfl)
              rw [hln] at y9
              clear hup hlet hln
              go_wp2_with (go_at_call 29; refine HI.out.mono ?_; rintro e w9 ⟨rfl, ho9⟩; have Ho9 := hide ho9; clear ho9)
              rw [Hcat.out]
              go_meet
              case rel => exact ⟨rfl, HP.out.no hbig Ho9.out⟩
          case rest =>
            obtain ⟨rfl, hp⟩ := hcut
            rename World => wr
            clear HsT HsF Hs2 hsz2 HuT hbc hbn HP y0 y1 y2 y3 y4 y5 y6 y7 y8 y9 y10 y11 y12
            have HP := hide hp
            clear hp
            obtain ⟨y0, y1, y2, y3, y4, y5, y6, y7, y8, y9, y10, y11, y12⟩ := Blk.rules HP.out.b
            have hsz2 : (bytes (catL (upR r 5))).size ≤ 40000 := by rw [bytes_size]; exact catup_len Hr.out (by omega)
            obtain ⟨s2, hs2⟩ : ∃ s2, bytes (catL (upR r 5)) = s2 := ⟨_, rfl⟩
            have Hs2 := hide hs2
            rw [hs2] at hsz2 ⊢
            clear hs2
            obtain ⟨bc, hbc⟩ : ∃ bc, decide ((r.reach : Int) > 0) = bc := ⟨_, rfl⟩
            have hnz : bc = true → r.reach ≠ 0 := fun h => by
              rw [h] at hbc
              have := of_decide_eq_true hbc
              omega
            have hz : bc = false → r.reach = 0 := fun h => by
              rw [h] at hbc
              have := of_decide_eq_false hbc
              omega
            have HsT := hide (fun h : bc = true => (show upR r 6 = upR r 5 ++ [wordR 5 ++ [32, UInt8.ofNat r.reach]] from by rw [upR_succ]; simp [segR, hnz h]))
            have HsF := hide (fun h : bc = false => (show upR r 6 = upR r 5 from by rw [upR_succ]; simp [segR, hz h]))
            have HuT := hide (fun h : bc = true => (show upB r.reach = true from (Hr.out.reach.resolve_left (hnz h)).1))
            have hbn : decide (0 < r.reach) = bc := by rw [← hbc]; simp
            clear hnz hz
            go_upto_if 53 with (fail)
            go_cut [3] (fun sv w' => sv = .string (bytes (catL (upR r 6))) ∧ WrS W r A cp w')
            case first =>
              cases bc
              case false =>
                go_wp2_with fail
                go_meet
                case rel => exact ⟨by rw [HsF.out (by simp), Hs2.out], HP.out⟩
              case true =>
                have hup := HuT.out (by simp)
                have hcv := conv_one hup (Blk.new wr 5 #[.int .u8 (r.reach : Int)])
                obtain ⟨lt, hlet⟩ : ∃ lt, bytes [UInt8.ofNat r.reach] = lt := ⟨_, rfl⟩
                have hlt1 : lt.size = 1 := by rw [← hlet, bytes_size]; rfl
                have Hcat := hide (show s2 ++ ((⟨#[114, 101, 97, 99, 104, 32]⟩ ++ lt) ++ ⟨#[10]⟩) = bytes (catL (upR r 6)) from by
                  rw [← Hs2.out, ← hlet, show (⟨#[114, 101, 97, 99, 104, 32]⟩ : ByteArray) = bytes [114, 101, 97, 99, 104, 32] from rfl, show (⟨#[10]⟩ : ByteArray) = bytes [10] from rfl, bytes_cat, bytes_cat, bytes_cat, HsT.out (by simp), catL_app, catL_one]
                  rfl)
                rw [hlet] at hcv
                clear hup hlet
                go_wp2_with fail
                rw [Hcat.out]
                go_meet
                case rel => exact ⟨rfl, HP.out.no hbig ((Only.refl _ wr).alloc _)⟩
            case rest =>
              obtain ⟨rfl, hp⟩ := hcut
              rename World => wr
              clear HsT HsF Hs2 hsz2 HuT hbc hbn HP y0 y1 y2 y3 y4 y5 y6 y7 y8 y9 y10 y11 y12
              have HP := hide hp
              clear hp
              obtain ⟨y0, y1, y2, y3, y4, y5, y6, y7, y8, y9, y10, y11, y12⟩ := Blk.rules HP.out.b
              have hsz2 : (bytes (catL (upR r 6))).size ≤ 40000 := by rw [bytes_size]; exact catup_len Hr.out (by omega)
              obtain ⟨s2, hs2⟩ : ∃ s2, bytes (catL (upR r 6)) = s2 := ⟨_, rfl⟩
              have Hs2 := hide hs2
              rw [hs2] at hsz2 ⊢
              clear hs2
              obtain ⟨bc, hbc⟩ : ∃ bc, r.stuck = bc := ⟨_, rfl⟩
              have HsT := hide (fun h : bc = true => (show upR r 7 = upR r 6 ++ [wordR 6] from by rw [upR_succ]; simp [segR, hbc, h]))
              have HsF := hide (fun h : bc = false => (show upR r 7 = upR r 6 from by rw [upR_succ]; simp [segR, hbc, h]))
              rw [hbc] at y11
              clear hbc
              go_upto_if 63 with (fail)
              go_cut [3] (fun sv w' => sv = .string (bytes (catL (upR r 7))) ∧ WrS W r A cp w')
              case first =>
                cases bc
                case false =>
                  go_wp2_with fail
                  go_meet
                  case rel => exact ⟨by rw [HsF.out (by simp), Hs2.out], HP.out⟩
                case true =>
                  have Hcat := hide (show s2 ++ ⟨#[115, 116, 117, 99, 107, 10]⟩ = bytes (catL (upR r 7)) from by
                    rw [← Hs2.out, show (⟨#[115, 116, 117, 99, 107, 10]⟩ : ByteArray) = bytes (wordR 6 ++ [10]) from rfl, bytes_cat, HsT.out (by simp), catL_app, catL_one])
                  go_wp2_with fail
                  rw [Hcat.out]
                  go_meet
                  case rel => exact ⟨rfl, HP.out⟩
              case rest =>
                obtain ⟨rfl, hp⟩ := hcut
                rename World => wr
                clear HsT HsF Hs2 hsz2 HP y0 y1 y2 y3 y4 y5 y6 y7 y8 y9 y10 y11 y12
                have HP := hide hp
                clear hp
                obtain ⟨y0, y1, y2, y3, y4, y5, y6, y7, y8, y9, y10, y11, y12⟩ := Blk.rules HP.out.b
                have hsz2 : (bytes (catL (upR r 7))).size ≤ 40000 := by rw [bytes_size]; exact catup_len Hr.out (by omega)
                obtain ⟨s2, hs2⟩ : ∃ s2, bytes (catL (upR r 7)) = s2 := ⟨_, rfl⟩
                have Hs2 := hide hs2
                rw [hs2] at hsz2 ⊢
                clear hs2
                have hq1 := Hr.out.pl1
                have hq2 := Hr.out.pl2
                obtain ⟨pn, hpn⟩ : ∃ pn : Nat, r.plies = (pn : Int) := ⟨r.plies.toNat, by omega⟩
                have hpn9 : pn ≤ 9999 := by omega
                obtain ⟨lt, hlet⟩ : ∃ lt, bytes (Lib.decDigits pn) = lt := ⟨_, rfl⟩
                have hlt1 : lt.size ≤ 4 := by rw [← hlet, bytes_size]; exact dec_len hpn9
                have HI := hide (itoa_env pn wr hpn9 HP.out.e)
                rw [hlet] at HI
                have Hcat := hide (show ((s2 ++ ⟨#[112, 108, 105, 101, 115, 32]⟩) ++ lt) ++ ⟨#[10]⟩ = bytes (textR r) from by
                  unfold textR linesR
                  rw [catL_join, upR_succ r 7, catL_app, ← Hs2.out, ← hlet, show (⟨#[112, 108, 105, 101, 115, 32]⟩ : ByteArray) = bytes [112, 108, 105, 101, 115, 32] from rfl, show (⟨#[10]⟩ : ByteArray) = bytes [10] from rfl, bytes_cat, bytes_cat, bytes_cat, show segR r 7 = [wordR 7 ++ 32 :: Lib.decDigits r.plies.toNat] from rfl, catL_one, hpn, Int.toNat_natCast]
                  simp [wordR])
                rw [hpn] at y12
                clear hq1 hq2 hlet hpn
                go_wp2_with (go_at_call 29; refine HI.out.mono ?_; rintro e w9 ⟨rfl, ho9⟩; have Ho9 := hide ho9; clear ho9)
                go_ret
                exact ⟨congrArg (fun b : ByteArray => Ending.returned (.string b)) Hcat.out, HP.out.o.trans Ho9.out⟩
end Go.Proofs.YtcdfeaodfmfdnaaGreatDoor
