/- A board in a mirror, or turned round with the players exchanged: the same moves. -/
import Derived.Test.YtdfegpohmaideaaEndsPlain
import Derived.Test.YtdfegpohmaideaaOther
import Derived.Test.YtdfegpohmaideaaMadePlain
import Derived.Test.YtdfegpohmaideaaMmBoard
/- A board in a mirror, or turned round with the players exchanged: the same moves. -/
namespace Go.Proofs.Ytdfegpohmaideaa

def flipI (f : Bool) (n x : Int) : Int := if f then n - 1 - x else x
def sgI (f : Bool) (x : Int) : Int := if f then -x else x
/-- the other player's letter, if the players are exchanged -/
def casN (s : Bool) (c : Nat) : Nat := if s then otherN c else c
def plI (s : Bool) (pl : Int) : Int := if s then 1 - pl else pl
/-- cell a of p is cell g a of q: fx: left and right are changed; s: up and down, and the players -/
structure Sym (p q : Pos) (g : Nat → Nat) (fx s : Bool) : Prop where
  okp : PosOk p
  okq : PosOk q
  ew : q.w = p.w
  eh : q.h = p.h
  et : q.turn = plI s p.turn
  lt : ∀ a, a < p.cells.size → g a < p.cells.size
  inv : ∀ a, a < p.cells.size → g (g a) = a
  col : ∀ a, a < p.cells.size → ((g a % p.w.toNat : Nat) : Int) = flipI fx p.w ((a % p.w.toNat : Nat) : Int)
  row : ∀ a, a < p.cells.size → ((g a / p.w.toNat : Nat) : Int) = flipI s p.h ((a / p.w.toNat : Nat) : Int)
  cell : ∀ a, a < p.cells.size → cellN q (g a) = casN s (cellN p a)
  hand : ∀ pl, pl = 0 ∨ pl = 1 → handOf q (plI s pl) = handOf p pl
theorem cellB_lt {n : Nat} (h : cellB n = true) : n < 123 := by
  simp only [cellB, upB, lowB, decide_eq_true_eq] at h; omega
theorem other_other (n : Nat) (h : cellB n = true) : otherN (otherN n) = n :=
  (show ∀ m : Nat, m < 123 → cellB m = true → otherN (otherN m) = m by decide +kernel) n (cellB_lt h) h
theorem cas_cas {s : Bool} {n : Nat} (h : cellB n = true) : casN s (casN s n) = n := by
  cases s
  · rfl
  · exact other_other n h
theorem pl_pl (s : Bool) (pl : Int) : plI s (plI s pl) = pl := by cases s <;> simp [plI]; omega
section
variable {p q : Pos} {g : Nat → Nat} {fx s : Bool}
theorem Sym.size (S : Sym p q g fx s) : q.cells.size = p.cells.size := by
  have h1 := S.okq.size
  have h2 := S.okp.size
  rw [S.ew, S.eh] at h1
  omega
theorem Sym.symm (S : Sym p q g fx s) : Sym q p g fx s where
  okp := S.okq
  okq := S.okp
  ew := S.ew.symm
  eh := S.eh.symm
  et := by rw [S.et, pl_pl]
  lt a ha := by rw [S.size] at ha ⊢; exact S.lt a ha
  inv a ha := by rw [S.size] at ha; exact S.inv a ha
  col a ha := by rw [S.size] at ha; rw [S.ew]; exact S.col a ha
  row a ha := by rw [S.size] at ha; rw [S.ew, S.eh]; exact S.row a ha
  cell a ha := by
    rw [S.size] at ha
    have h1 := S.cell (g a) (S.lt a ha)
    rw [S.inv a ha] at h1
    rw [h1, cas_cas (cellN_ok S.okp (S.lt a ha))]
  hand pl hpl := by
    have h1 := S.hand (plI s pl) (by unfold plI; split <;> omega)
    rw [pl_pl] at h1
    exact h1.symm
theorem Sym.dx (S : Sym p q g fx s) {a t : Nat} (ha : a < p.cells.size) (ht : t < p.cells.size) : dxI q (g a) (g t) = sgI fx (dxI p a t) := by
  unfold dxI
  rw [S.ew, S.col a ha, S.col t ht]
  cases fx <;> simp [flipI, sgI]; omega
theorem Sym.dy (S : Sym p q g fx s) {a t : Nat} (ha : a < p.cells.size) (ht : t < p.cells.size) : dyI q (g a) (g t) = sgI s (dyI p a t) := by
  unfold dyI
  rw [S.ew, S.row a ha, S.row t ht]
  cases s <;> simp [flipI, sgI]; omega
theorem absI_sg (f : Bool) (n : Int) : absI (sgI f n) = absI n := by
  cases f
  · rfl
  · unfold absI sgI
    simp only [if_true]
    split <;> split <;> omega
theorem Sym.hit (S : Sym p q g fx s) {w : WayD} {a t k : Nat} (ha : a < p.cells.size) (ht : t < p.cells.size) : HitR q w (g a) (g t) k ↔ HitR p w a t k := by
  unfold HitR
  rw [S.dx ha ht, S.dy ha ht, absI_sg, absI_sg]
theorem own_cas {s : Bool} {c : Nat} (h : cellB c = true) (pl : Int) (hpl : pl = 0 ∨ pl = 1) : ownN (casN s c) = plI s pl ↔ ownN c = pl := by
  have key := (show ∀ m : Nat, m < 123 → cellB m = true → ((ownN (otherN m) = 1 ↔ ownN m = 0) ∧ (ownN (otherN m) = 0 ↔ ownN m = 1)) by decide +kernel) c (cellB_lt h) h
  cases s
  · exact Iff.rfl
  · rcases hpl with rfl | rfl
    · exact key.1
    · exact key.2
theorem own_two {s : Bool} {c : Nat} (h : cellB c = true) : ownN (casN s c) = 2 ↔ ownN c = 2 := by
  have key := (show ∀ m : Nat, m < 123 → cellB m = true → (ownN (otherN m) = 2 ↔ ownN m = 2) by decide +kernel) c (cellB_lt h) h
  cases s
  · exact Iff.rfl
  · exact key
theorem cap_cas {s : Bool} {c : Nat} (h : cellB c = true) : capN (casN s c) = capN c := by
  have key := (show ∀ m : Nat, m < 123 → cellB m = true → capN (otherN m) = capN m by decide +kernel) c (cellB_lt h) h
  cases s
  · rfl
  · exact key
theorem cas_dot {s : Bool} {c : Nat} (h : cellB c = true) : casN s c = 46 ↔ c = 46 := by
  have key := (show ∀ m : Nat, m < 123 → cellB m = true → (otherN m = 46 ↔ m = 46) by decide +kernel) c (cellB_lt h) h
  cases s
  · exact Iff.rfl
  · exact key
theorem fits_cas {s : Bool} {c : Nat} (h : cellB c = true) (turn take : Int) (ht : turn = 0 ∨ turn = 1) : fitsR (plI s turn) take (casN s c) = fitsR turn take c := by
  unfold fitsR
  have e1 : (ownN (casN s c) == 2) = (ownN c == 2) := by rw [Bool.eq_iff_iff, beq_iff_eq, beq_iff_eq]; exact own_two h
  have e2 : (ownN (casN s c) == 1 - plI s turn) = (ownN c == 1 - turn) := by
    rw [Bool.eq_iff_iff, beq_iff_eq, beq_iff_eq]
    have := own_cas (s := s) h (1 - turn) (by omega)
    rw [← this, show plI s (1 - turn) = 1 - plI s turn by cases s <;> simp [plI]]
  rw [e1, e2]
theorem piece_cas {s : Bool} {c : Nat} (h : cellB c = true) (ps : List PieceD) : pieceAt ps (casN s c) = pieceAt ps c := by
  unfold pieceAt pieceX
  rw [cap_cas h]
theorem sg_tdiv (f : Bool) (n k : Int) : (sgI f n).tdiv k = sgI f (n.tdiv k) := by
  cases f
  · rfl
  · simp [sgI, Int.neg_tdiv]
end
end Go.Proofs.Ytdfegpohmaideaa
/- A way in a mirror. -/
namespace Go.Proofs.Ytdfegpohmaideaa

theorem tdiv_between (n : Int) (k i : Nat) (hi : i ≤ k) (hk : 1 ≤ k) : (0 ≤ n → 0 ≤ n.tdiv k * i ∧ n.tdiv k * i ≤ n) ∧ (n ≤ 0 → n ≤ n.tdiv k * i ∧ n.tdiv k * i ≤ 0) := by
  have pos : ∀ m : Int, 0 ≤ m → 0 ≤ m.tdiv k * i ∧ m.tdiv k * i ≤ m := fun m hm => by
    rw [Int.tdiv_eq_ediv_of_nonneg hm]
    have d0 : 0 ≤ m / (k : Int) := Int.ediv_nonneg hm (by omega)
    have d1 : m / (k : Int) * (k : Int) ≤ m := Int.ediv_mul_le m (by omega)
    have d2 : m / (k : Int) * (i : Int) ≤ m / (k : Int) * (k : Int) := Int.mul_le_mul_of_nonneg_left (by omega) d0
    exact ⟨Int.mul_nonneg d0 (by omega), by omega⟩
  refine ⟨pos n, fun hn => ?_⟩
  have h := pos (-n) (by omega)
  rw [Int.neg_tdiv, Int.neg_mul] at h
  omega
section
variable {p q : Pos} {g : Nat → Nat} {fx s : Bool}
/-- a cell by its column and its row -/
theorem PosOk.at_xy (hp : PosOk p) {x y : Int} (x0 : 0 ≤ x) (x1 : x < p.w) (y0 : 0 ≤ y) (y1 : y < p.h) :
    ∃ b, (y * p.w + x).toNat = b ∧ b < p.cells.size ∧ ((b % p.w.toNat : Nat) : Int) = x ∧ ((b / p.w.toNat : Nat) : Int) = y := by
  obtain ⟨n, hn⟩ : ∃ n : Nat, p.w = (n : Int) := ⟨p.w.toNat, by have := hp.w1; omega⟩
  obtain ⟨m, hm⟩ : ∃ m : Nat, p.h = (m : Int) := ⟨p.h.toNat, by have := hp.h1; omega⟩
  obtain ⟨a, rfl⟩ : ∃ a : Nat, x = (a : Int) := ⟨x.toNat, by omega⟩
  obtain ⟨b, rfl⟩ : ∃ b : Nat, y = (b : Int) := ⟨y.toNat, by omega⟩
  have hsz := hp.size
  rw [hn, hm] at hsz
  rw [hn] at x1 ⊢
  rw [hm] at y1
  have ha : a < n := by omega
  have hb : b < m := by omega
  have hlt : b * n + a < n * m := by
    have h1 : (b + 1) * n ≤ m * n := Nat.mul_le_mul_right n hb
    rw [Nat.add_mul, Nat.one_mul] at h1
    rw [Nat.mul_comm n m]
    omega
  have hs2 : p.cells.size = n * m := by exact_mod_cast hsz
  refine ⟨b * n + a, ?_, by rw [hs2]; exact hlt, ?_, ?_⟩
  · have : ((b : Int) * (n : Int) + (a : Int)) = ((b * n + a : Nat) : Int) := by push_cast; rfl
    rw [this, Int.toNat_natCast]
  · rw [Int.toNat_natCast, Nat.add_comm, Nat.add_mul_mod_self_right, Nat.mod_eq_of_lt ha]
  · rw [Int.toNat_natCast, Nat.add_comm, Nat.add_mul_div_right _ _ (by omega), Nat.div_eq_of_lt ha, Nat.zero_add]
theorem PosOk.xy (hp : PosOk p) {a : Nat} (ha : a < p.cells.size) : 0 ≤ ((a % p.w.toNat : Nat) : Int) ∧ ((a % p.w.toNat : Nat) : Int) < p.w ∧ 0 ≤ ((a / p.w.toNat : Nat) : Int) ∧ ((a / p.w.toNat : Nat) : Int) < p.h ∧ (a : Int) = ((a / p.w.toNat : Nat) : Int) * p.w + ((a % p.w.toNat : Nat) : Int) := by
  obtain ⟨n, hn⟩ : ∃ n : Nat, p.w = (n : Int) := ⟨p.w.toNat, by have := hp.w1; omega⟩
  obtain ⟨m, hm⟩ : ∃ m : Nat, p.h = (m : Int) := ⟨p.h.toNat, by have := hp.h1; omega⟩
  have hsz := hp.size
  have h1 := hp.w1
  rw [hn, hm] at hsz
  rw [hn, hm, Int.toNat_natCast]
  have hn1 : 0 < n := by omega
  have hs2 : p.cells.size = n * m := by exact_mod_cast hsz
  have hd : a / n < m := (Nat.div_lt_iff_lt_mul hn1).2 (by rw [Nat.mul_comm]; omega)
  have hm2 := Nat.mod_lt a hn1
  have he := Nat.div_add_mod a n
  obtain ⟨d, hdd⟩ : ∃ d, a / n = d := ⟨_, rfl⟩
  obtain ⟨c, hcc⟩ : ∃ c, a % n = c := ⟨_, rfl⟩
  rw [hdd] at hd he ⊢
  rw [hcc] at hm2 he ⊢
  refine ⟨by omega, by omega, by omega, by omega, ?_⟩
  have : (a : Int) = ((n * d + c : Nat) : Int) := by rw [he]
  rw [this]
  push_cast
  rw [Int.mul_comm (n : Int)]
theorem flip_in (f : Bool) {n x : Int} (h0 : 0 ≤ x) (h1 : x < n) : 0 ≤ flipI f n x ∧ flipI f n x < n := by cases f <;> simp [flipI] <;> omega
theorem flip_add (f : Bool) (n x u : Int) : flipI f n (x + u) = flipI f n x + sgI f u := by cases f <;> simp [flipI, sgI]; omega
theorem Sym.free (S : Sym p q g fx s) {a t k : Nat} (ha : a < p.cells.size) (ht : t < p.cells.size) (hk : 1 ≤ k) (h : FreeR p a t k) : FreeR q (g a) (g t) k := by
  intro i h1 h2
  obtain ⟨ax0, ax1, ay0, ay1, ae⟩ := S.okp.xy ha
  obtain ⟨tx0, tx1, ty0, ty1, te⟩ := S.okp.xy ht
  have hu := tdiv_between (dxI p a t) k i (by omega) hk
  have hv := tdiv_between (dyI p a t) k i (by omega) hk
  have hf := h i h1 h2
  rw [S.dx ha ht, S.dy ha ht, sg_tdiv, sg_tdiv, S.ew]
  have edx : dxI p a t = ((t % p.w.toNat : Nat) : Int) - ((a % p.w.toNat : Nat) : Int) := rfl
  have edy : dyI p a t = ((t / p.w.toNat : Nat) : Int) - ((a / p.w.toNat : Nat) : Int) := rfl
  obtain ⟨gx0, gx1, gy0, gy1, ge⟩ := S.okp.xy (S.lt a ha)
  rw [S.col a ha, S.row a ha] at ge
  obtain ⟨ax, hax⟩ : ∃ ax : Int, ((a % p.w.toNat : Nat) : Int) = ax := ⟨_, rfl⟩
  obtain ⟨ay, hay⟩ : ∃ ay : Int, ((a / p.w.toNat : Nat) : Int) = ay := ⟨_, rfl⟩
  obtain ⟨dx, hdx⟩ : ∃ dx : Int, (dxI p a t).tdiv k * i = dx := ⟨_, rfl⟩
  obtain ⟨dy, hdy⟩ : ∃ dy : Int, (dyI p a t).tdiv k * i = dy := ⟨_, rfl⟩
  rw [hax, hay] at ae ge
  rw [hax] at ax0 ax1 edx
  rw [hay] at ay0 ay1 edy
  rw [hdx] at hu hf
  rw [hdy] at hv hf
  have e1 : sgI fx ((dxI p a t).tdiv k) * (i : Int) = sgI fx dx := by rw [← hdx]; cases fx <;> simp [sgI, Int.neg_mul]
  have e2 : sgI s ((dyI p a t).tdiv k) * (i : Int) = sgI s dy := by rw [← hdy]; cases s <;> simp [sgI, Int.neg_mul]
  rw [e1, e2]
  have bx : 0 ≤ ax + dx ∧ ax + dx < p.w := by
    rcases Int.le_total 0 (dxI p a t) with h0 | h0
    · have := hu.1 h0; omega
    · have := hu.2 h0; omega
  have bY : 0 ≤ ay + dy ∧ ay + dy < p.h := by
    rcases Int.le_total 0 (dyI p a t) with h0 | h0
    · have := hv.1 h0; omega
    · have := hv.2 h0; omega
  obtain ⟨b, hb, hbl, hbc, hbr⟩ := S.okp.at_xy bx.1 bx.2 bY.1 bY.2
  have hidx : ((a : Int) + dx + dy * p.w).toNat = b := by
    rw [← hb, ae]
    congr 1
    rw [Int.add_mul]
    omega
  rw [hidx] at hf
  have hg : ((g a : Int) + sgI fx dx + sgI s dy * p.w).toNat = g b := by
    obtain ⟨_, _, _, _, gbe⟩ := S.okp.xy (S.lt b hbl)
    rw [S.col b hbl, S.row b hbl, hbc, hbr, flip_add, flip_add] at gbe
    rw [ge]
    have : (flipI s p.h ay * p.w + flipI fx p.w ax + sgI fx dx + sgI s dy * p.w) = (g b : Int) := by
      rw [gbe, Int.add_mul]
      omega
    rw [this, Int.toNat_natCast]
  rw [hg, S.cell b hbl, hf]
  exact (cas_dot (by decide)).2 rfl
end
end Go.Proofs.Ytdfegpohmaideaa
/- The moves in a mirror. -/
namespace Go.Proofs.Ytdfegpohmaideaa

def symM (g : Nat → Nat) (m : Mv) : Mv := ⟨if m.f < 0 then m.f else (g m.f.toNat : Int), (g m.t.toNat : Int), m.c⟩
section
variable {p q : Pos} {g : Nat → Nat} {fx s : Bool}
theorem PosOk.turn01 (hp : PosOk p) : p.turn = 0 ∨ p.turn = 1 := by have := hp.t0; have := hp.t1; omega
theorem Sym.goes (S : Sym p q g fx s) {w : WayD} {a t : Nat} (ha : a < p.cells.size) (ht : t < p.cells.size) (h : GoesR p w a t) : GoesR q w (g a) (g t) := by
  unfold GoesR at h ⊢
  split
  · rename_i hk
    rw [if_pos hk] at h
    rw [S.dx ha ht, S.dy ha ht, absI_sg, S.et]
    refine ⟨h.1, ?_⟩
    rw [← h.2]
    obtain ⟨d, hd⟩ : ∃ d, dyI p a t = d := ⟨_, rfl⟩
    rw [hd]
    rcases S.okp.turn01 with e | e <;> rw [e] <;> cases s <;> simp [sgI, plI]
  · rename_i hk
    rw [if_neg hk] at h
    obtain ⟨k, k1, k7, hk1, hh, hf⟩ := h
    exact ⟨k, k1, k7, hk1, (S.hit ha ht).2 hh, S.free ha ht k1 hf⟩
theorem Sym.handT (S : Sym p q g fx s) : handOf q q.turn = handOf p p.turn := by rw [S.et]; exact S.hand _ S.okp.turn01
theorem Sym.mem (S : Sym p q g fx s) {r : RulesD} {m : Mv} (h : m ∈ everyL r p) : symM g m ∈ everyL r q := by
  unfold everyL at h ⊢
  rw [List.mem_append] at h ⊢
  rcases h with h | h
  · left
    split at h
    · rename_i hd
      rw [if_pos hd]
      obtain ⟨t, ht, hm⟩ := List.mem_flatMap.1 h
      have htl : t < p.cells.size := List.mem_range.1 ht
      refine List.mem_flatMap.2 ⟨g t, List.mem_range.2 (by rw [S.size]; exact S.lt t htl), ?_⟩
      unfold everyDrop at hm ⊢
      rw [S.handT]
      obtain ⟨i, hi, hmi⟩ := List.mem_flatMap.1 hm
      refine List.mem_flatMap.2 ⟨i, hi, ?_⟩
      split at hmi
      · rename_i hc
        rw [Bool.and_eq_true, beq_iff_eq] at hc
        have h46 : cellN q (g t) = 46 := by rw [S.cell t htl, hc.1]; exact (cas_dot (by decide)).2 rfl
        rw [if_pos (by rw [h46, hc.2]; rfl)]
        rw [List.mem_singleton] at hmi ⊢
        rw [hmi]
        rfl
      · simp at hmi
    · simp at h
  · right
    obtain ⟨a, ha, hm⟩ := List.mem_flatMap.1 h
    have hal : a < p.cells.size := List.mem_range.1 ha
    refine List.mem_flatMap.2 ⟨g a, List.mem_range.2 (by rw [S.size]; exact S.lt a hal), ?_⟩
    unfold everyBoard at hm ⊢
    split at hm
    · rename_i ho
      have ho2 : ownN (cellN q (g a)) = q.turn := by rw [S.cell a hal, S.et]; exact (own_cas (cellN_ok S.okp hal) _ S.okp.turn01).2 ho
      rw [if_pos ho2, S.cell a hal, piece_cas (cellN_ok S.okp hal)]
      cases hx : pieceAt r.pieces (cellN p a) with
      | none => rw [hx] at hm; simp at hm
      | some x =>
        rw [hx] at hm
        simp only at hm ⊢
        obtain ⟨t, ht, hmt⟩ := List.mem_flatMap.1 hm
        have htl : t < p.cells.size := List.mem_range.1 ht
        refine List.mem_flatMap.2 ⟨g t, List.mem_range.2 (by rw [S.size]; exact S.lt t htl), ?_⟩
        split at hmt
        · rename_i hc
          have hc2 : canB q x.ways (g a) (g t) = true := by
            unfold canB at hc ⊢
            rw [List.any_eq_true] at hc ⊢
            obtain ⟨w, hw, hwc⟩ := hc
            refine ⟨w, hw, ?_⟩
            rw [Bool.and_eq_true, Bool.and_eq_true] at hwc ⊢
            obtain ⟨⟨h1, h2⟩, h3⟩ := hwc
            refine ⟨⟨?_, ?_⟩, ?_⟩
            · rw [S.cell t htl, S.et, fits_cas (cellN_ok S.okp htl) _ _ S.okp.turn01]; exact h1
            · rw [bne_iff_ne] at h2 ⊢
              intro e
              have := congrArg g e
              rw [S.inv a hal, S.inv t htl] at this
              exact h2 this
            · unfold goesB at h3 ⊢
              have h4 : GoesR p w a t := by simpa using h3
              simpa using S.goes hal htl h4
          rw [if_pos hc2]
          rw [List.mem_singleton] at hmt ⊢
          rw [hmt]
          unfold symM
          simp only
          rw [if_neg (show ¬ ((a : Int) < 0) by omega), Int.toNat_natCast, Int.toNat_natCast]
        · simp at hmt
    · simp at hm
end
end Go.Proofs.Ytdfegpohmaideaa
/- As many moves in a mirror. -/
namespace Go.Proofs.Ytdfegpohmaideaa

theorem nodup_le {α : Type} [DecidableEq α] : ∀ (l m : List α), l.Nodup → (∀ x ∈ l, x ∈ m) → l.length ≤ m.length
  | [], _, _, _ => Nat.zero_le _
  | x :: l, m, hn, h => by
    rw [List.nodup_cons] at hn
    have hx : x ∈ m := h x (by simp)
    have h1 := nodup_le l (m.erase x) hn.2 (fun y hy => by
      have hne : y ≠ x := fun e => hn.1 (e ▸ hy)
      exact (List.mem_erase_of_ne hne).2 (h y (by simp [hy])))
    rw [List.length_erase_of_mem hx] at h1
    have h2 : 0 < m.length := List.length_pos_of_mem hx
    rw [List.length_cons]
    omega
section
variable {p q : Pos} {g : Nat → Nat} {fx s : Bool}
theorem Sym.two (S : Sym p q g fx s) {r : RulesD} {m : Mv} (h : m ∈ everyL r p) : symM g (symM g m) = m := by
  obtain ⟨h0, h1, h2⟩ := every_form S.okp.turn01 h
  have et : ((g (g m.t.toNat) : Nat) : Int) = m.t := by rw [S.inv _ h1]; exact Int.toNat_of_nonneg h0
  unfold symM
  simp only
  rcases h2 with ⟨e, _⟩ | ⟨e1, e2, _⟩
  · have hneg : m.f < 0 := by rw [e]; decide
    rw [if_pos hneg, if_pos hneg, Int.toNat_natCast]
    exact Mv.ext_ rfl et rfl
  · rw [if_neg (show ¬ m.f < 0 by omega)]
    rw [if_neg (show ¬ ((g m.f.toNat : Nat) : Int) < 0 by omega), Int.toNat_natCast, Int.toNat_natCast, S.inv _ e2]
    exact Mv.ext_ (Int.toNat_of_nonneg e1) et rfl
theorem Sym.len_le (S : Sym p q g fx s) (r : RulesD) : (everyL r p).length ≤ (everyL r q).length := by
  classical
  have hn : ((everyL r p).map (symM g)).Nodup := by
    rw [List.nodup_iff_pairwise_ne, List.pairwise_map]
    have hs := every_sorted (r := r) S.okp
    refine hs.imp_of_mem (fun {a b} ha hb hab e => ?_)
    have := congrArg (symM g) e
    rw [S.two ha, S.two hb] at this
    exact ltM_irrefl _ (this ▸ hab)
  have := nodup_le _ (everyL r q) hn (fun x hx => by
    obtain ⟨m, hm, rfl⟩ := List.mem_map.1 hx
    exact S.mem hm)
  rwa [List.length_map] at this
theorem Sym.len (S : Sym p q g fx s) (r : RulesD) : (everyL r q).length = (everyL r p).length := Nat.le_antisymm (S.symm.len_le r) (S.len_le r)
end
end Go.Proofs.Ytdfegpohmaideaa
/- Who has won in a mirror. -/
namespace Go.Proofs.Ytdfegpohmaideaa

theorem hasL_cells {p : Pos} (c : Nat) : hasL p.cells.data.toList c = true ↔ ∃ a, a < p.cells.size ∧ cellN p a = c := by
  unfold hasL
  rw [List.any_eq_true]
  constructor
  · rintro ⟨x, hx, hc⟩
    obtain ⟨a, ha, rfl⟩ := List.getElem_of_mem hx
    exact ⟨a, ha, by unfold cellN; rw [getD_get ha]; exact beq_iff_eq.1 hc⟩
  · rintro ⟨a, ha, hc⟩
    have ha' : a < p.cells.data.toList.length := ha
    refine ⟨p.cells.data.toList[a], List.getElem_mem ha', ?_⟩
    unfold cellN at hc
    rw [getD_get ha'] at hc
    exact beq_iff_eq.2 hc
theorem let_cas {s : Bool} {c : Nat} (h : upB c = true) {pl : Int} (hpl : pl = 0 ∨ pl = 1) : letN c (plI s pl) = casN s (letN c pl) := by
  cases s
  · rfl
  · have hc := upB_lt h
    rcases hpl with rfl | rfl
    · simp [plI, casN, letN, otherN, h]
    · have h1 : upB (c + 32) = false := by simp [upB]; omega
      have h2 : lowB (c + 32) = true := by simp [lowB]; omega
      simp [plI, casN, letN, otherN, h1, h2]
theorem let_ok {c : Nat} (h : upB c = true) (pl : Int) : cellB (letN c pl) = true := by
  have hc := upB_lt h
  unfold letN cellB upB lowB
  split <;> simp <;> omega
section
variable {p q : Pos} {g : Nat → Nat} {fx s : Bool}
theorem Sym.has_le (S : Sym p q g fx s) {c : Nat} (h : hasL p.cells.data.toList c = true) : hasL q.cells.data.toList (casN s c) = true := by
  obtain ⟨a, ha, rfl⟩ := (hasL_cells c).1 h
  exact (hasL_cells _).2 ⟨g a, by rw [S.size]; exact S.lt a ha, S.cell a ha⟩
theorem Sym.lacks (S : Sym p q g fx s) {r : RulesD} (hl : r.lose = 0 ∨ upB r.lose = true) {pl : Int} (hpl : pl = 0 ∨ pl = 1) : lacksB r q (plI s pl) = lacksB r p pl := by
  unfold lacksB
  rcases hl with h | h
  · rw [h]; rfl
  · rw [let_cas h hpl]
    congr 2
    rw [Bool.eq_iff_iff]
    refine ⟨fun hh => ?_, fun hh => S.has_le hh⟩
    have := S.symm.has_le hh
    rwa [cas_cas (let_ok h pl)] at this
end
end Go.Proofs.Ytdfegpohmaideaa
/- Who has won in a mirror: lines and rows. -/
namespace Go.Proofs.Ytdfegpohmaideaa

theorem mine_cas {s : Bool} {c : Nat} (h : cellB c = true) {pl : Int} (hpl : pl = 0 ∨ pl = 1) : mineB (casN s c) (plI s pl) = mineB c pl := by
  rw [Bool.eq_iff_iff, ← own_mine hpl, ← own_mine (show plI s pl = 0 ∨ plI s pl = 1 by unfold plI; split <;> omega)]
  exact own_cas h pl hpl
theorem row_has {p : Pos} (hp : PosOk p) {pl : Int} (hpl : pl = 0 ∨ pl = 1) (c : Nat) :
    hasL (rowOf p pl) c = true ↔ ∃ a, a < p.cells.size ∧ cellN p a = c ∧ ((a / p.w.toNat : Nat) : Int) = if pl = 0 then p.h - 1 else 0 := by
  obtain ⟨n, hn⟩ : ∃ n : Nat, p.w = (n : Int) := ⟨p.w.toNat, by have := hp.w1; omega⟩
  obtain ⟨m, hm⟩ : ∃ m : Nat, p.h = (m : Int) := ⟨p.h.toNat, by have := hp.h1; omega⟩
  have hsz := hp.size
  have w1 := hp.w1
  have h1 := hp.h1
  rw [hn, hm] at hsz
  rw [hn] at w1
  rw [hm] at h1
  have hs2 : p.cells.size = n * m := by exact_mod_cast hsz
  obtain ⟨m', rfl⟩ : ∃ k, m = k + 1 := ⟨m - 1, by omega⟩
  have hs3 : p.cells.size = m' * n + n := by rw [hs2, Nat.mul_add, Nat.mul_one, Nat.mul_comm]
  have hlen : p.cells.data.toList.length = m' * n + n := hs3
  have hcell : ∀ a (ha : a < p.cells.data.toList.length), cellN p a = p.cells.data.toList[a].toNat := fun a ha => by unfold cellN; rw [getD_get ha]
  rw [hn, hm, Int.toNat_natCast]
  rw [hs3]
  unfold hasL rowOf
  rw [List.any_eq_true, hn, Int.toNat_natCast]
  rcases hpl with rfl | rfl
  · rw [if_pos rfl, if_pos rfl, hs3, show m' * n + n - n = m' * n by omega]
    constructor
    · rintro ⟨x, hx, hc⟩
      obtain ⟨a, ha, rfl⟩ := List.getElem_of_mem hx
      rw [List.length_drop] at ha
      refine ⟨m' * n + a, by omega, ?_, ?_⟩
      · rw [hcell _ (by omega)]
        rw [List.getElem_drop] at hc
        exact beq_iff_eq.1 hc
      · rw [Nat.add_comm, Nat.add_mul_div_right _ _ (by omega), Nat.div_eq_of_lt (by omega)]; push_cast; omega
    · rintro ⟨a, ha, hc, hd⟩
      have hd2 : a / n = m' := by push_cast at hd; omega
      have he := Nat.div_add_mod a n
      rw [hd2, Nat.mul_comm] at he
      refine ⟨p.cells.data.toList[a], ?_, by rw [hcell _ (by omega)] at hc; exact beq_iff_eq.2 hc⟩
      have hx : (p.cells.data.toList.drop (m' * n))[a - m' * n]'(by rw [List.length_drop]; omega) = p.cells.data.toList[a] := by
        rw [List.getElem_drop]
        congr 1
        omega
      rw [← hx]
      exact List.getElem_mem _
  · rw [if_neg (by decide), if_neg (by decide)]
    constructor
    · rintro ⟨x, hx, hc⟩
      obtain ⟨a, ha, rfl⟩ := List.getElem_of_mem hx
      rw [List.length_take] at ha
      refine ⟨a, by omega, ?_, ?_⟩
      · rw [hcell _ (by omega)]
        rw [List.getElem_take] at hc
        exact beq_iff_eq.1 hc
      · rw [Nat.div_eq_of_lt (by omega)]; rfl
    · rintro ⟨a, ha, hc, hd⟩
      have hd2 : a / n = 0 := by omega
      have ha2 : a < n := by
        rcases Nat.div_eq_zero_iff.1 hd2 with h | h
        · omega
        · exact h
      refine ⟨p.cells.data.toList[a], ?_, by rw [hcell _ (by omega)] at hc; exact beq_iff_eq.2 hc⟩
      have hx : (p.cells.data.toList.take n)[a]'(by rw [List.length_take]; omega) = p.cells.data.toList[a] := List.getElem_take
      rw [← hx]
      exact List.getElem_mem _
theorem has_two {p : Pos} (hp : PosOk p) {pl : Int} {n : Nat} (hn : 1 ≤ n) {a : Nat} (ha : a < p.cells.size) {dx dy : Int} (hd : (dx, dy) ∈ dirs4 ∨ (-dx, -dy) ∈ dirs4)
    (h : LineR p pl n dx dy ((a % p.w.toNat : Nat) : Int) ((a / p.w.toNat : Nat) : Int)) : HasR p pl n := by
  rcases hd with hd | hd
  · exact ⟨a, ha, (dx, dy), hd, h⟩
  · obtain ⟨n, rfl⟩ : ∃ m, n = m + 1 := ⟨n - 1, by omega⟩
    have hsz : p.cells.size = p.w.toNat * p.h.toNat := hp.len
    obtain ⟨e1, e2, e3, _⟩ := idx_at (h n (by omega)).1
    refine ⟨_, by rw [hsz]; exact e3, (-dx, -dy), hd, ?_⟩
    rw [e1, e2]
    exact line_back h
section
variable {p q : Pos} {g : Nat → Nat} {fx s : Bool}
theorem Sym.reach_le (S : Sym p q g fx s) {c : Nat} {pl : Int} (hpl : pl = 0 ∨ pl = 1) (h : hasL (rowOf p pl) c = true) : hasL (rowOf q (plI s pl)) (casN s c) = true := by
  obtain ⟨a, ha, hc, hd⟩ := (row_has S.okp hpl c).1 h
  refine (row_has S.okq (by unfold plI; split <;> omega) _).2 ⟨g a, by rw [S.size]; exact S.lt a ha, by rw [S.cell a ha, hc], ?_⟩
  rw [S.ew, S.row a ha, hd, S.eh]
  rcases hpl with rfl | rfl <;> cases s <;> simp [plI, flipI]
theorem Sym.reach (S : Sym p q g fx s) {r : RulesD} (hl : r.reach = 0 ∨ upB r.reach = true) {pl : Int} (hpl : pl = 0 ∨ pl = 1) : reachB r q (plI s pl) = reachB r p pl := by
  unfold reachB
  rcases hl with h | h
  · rw [h]; rfl
  · rw [let_cas h hpl]
    congr 1
    rw [Bool.eq_iff_iff]
    refine ⟨fun hh => ?_, fun hh => S.reach_le hpl hh⟩
    have := S.symm.reach_le (pl := plI s pl) (by unfold plI; split <;> omega) hh
    rwa [cas_cas (let_ok h pl), pl_pl] at this
theorem step_flip (f : Bool) (n x d : Int) (k : Nat) : stepI (flipI f n x) (sgI f d) k = flipI f n (stepI x d k) := by
  unfold stepI
  rw [flip_add]
  cases f <;> simp [sgI, Int.mul_neg]
theorem Sym.line (S : Sym p q g fx s) {pl : Int} (hpl : pl = 0 ∨ pl = 1) {n : Nat} {dx dy x y : Int} (h : LineR p pl n dx dy x y) : LineR q (plI s pl) n (sgI fx dx) (sgI s dy) (flipI fx p.w x) (flipI s p.h y) := by
  intro k hk
  obtain ⟨⟨x0, x1, y0, y1⟩, hm⟩ := h k hk
  rw [step_flip, step_flip]
  obtain ⟨X, hX⟩ : ∃ X, stepI x dx k = X := ⟨_, rfl⟩
  obtain ⟨Y, hY⟩ : ∃ Y, stepI y dy k = Y := ⟨_, rfl⟩
  rw [hX] at x0 x1 hm ⊢
  rw [hY] at y0 y1 hm ⊢
  have fx' := flip_in fx x0 x1
  have fy' := flip_in s y0 y1
  refine ⟨⟨fx'.1, by rw [S.ew]; exact fx'.2, fy'.1, by rw [S.eh]; exact fy'.2⟩, ?_⟩
  obtain ⟨b, hb, hbl, hbc, hbr⟩ := S.okp.at_xy x0 x1 y0 y1
  have hi : idxN p.w X Y = b := hb
  have hg : idxN q.w (flipI fx p.w X) (flipI s p.h Y) = g b := by
    obtain ⟨_, _, _, _, gbe⟩ := S.okp.xy (S.lt b hbl)
    rw [S.col b hbl, S.row b hbl, hbc, hbr] at gbe
    unfold idxN
    rw [S.ew, ← gbe, Int.toNat_natCast]
  rw [hi] at hm
  rw [hg, S.cell b hbl, mine_cas (cellN_ok S.okp hbl) hpl]
  exact hm
theorem Sym.hasR (S : Sym p q g fx s) {pl : Int} (hpl : pl = 0 ∨ pl = 1) {n : Nat} (hn : 1 ≤ n) (h : HasR p pl n) : HasR q (plI s pl) n := by
  obtain ⟨a, ha, ⟨dx, dy⟩, hd, hl⟩ := h
  have h2 := S.line hpl hl
  rw [← S.col a ha, ← S.row a ha, ← S.ew] at h2
  refine has_two S.okq hn (by rw [S.size]; exact S.lt a ha) ?_ h2
  unfold dirs4 at hd ⊢
  simp only [List.mem_cons, Prod.mk.injEq, List.not_mem_nil, or_false] at hd
  rcases hd with ⟨rfl, rfl⟩ | ⟨rfl, rfl⟩ | ⟨rfl, rfl⟩ | ⟨rfl, rfl⟩ <;> cases fx <;> cases s <;> simp [sgI]
theorem Sym.lineB (S : Sym p q g fx s) {r : RulesD} {pl : Int} (hpl : pl = 0 ∨ pl = 1) : Go.Proofs.Ytdfegpohmaideaa.lineB r q (plI s pl) = Go.Proofs.Ytdfegpohmaideaa.lineB r p pl := by
  unfold Go.Proofs.Ytdfegpohmaideaa.lineB
  by_cases h : 0 < r.line
  · congr 1
    unfold hasB
    rw [Bool.eq_iff_iff]
    simp only [decide_eq_true_eq]
    refine ⟨fun hh => ?_, fun hh => S.hasR hpl (by omega) hh⟩
    have := S.symm.hasR (pl := plI s pl) (by unfold plI; split <;> omega) (by omega) hh
    rwa [pl_pl] at this
  · rw [decide_eq_false h]; rfl
/-- who has won, the players exchanged -/
def swI (s : Bool) (n : Int) : Int := if s ∧ (n = 1 ∨ n = 2) then 3 - n else n
theorem Sym.ends (S : Sym p q g fx s) {r : RulesD} (h1 : r.lose = 0 ∨ upB r.lose = true) (h2 : r.reach = 0 ∨ upB r.reach = true) : endsN r q = swI s (endsN r p) := by
  have ht := S.okp.turn01
  have ht2 : 1 - p.turn = 0 ∨ 1 - p.turn = 1 := by omega
  have e2 : 1 - q.turn = plI s (1 - p.turn) := by rw [S.et]; cases s <;> simp [plI]
  unfold endsN
  rw [e2, S.et, S.lacks h1 ht, S.lacks h1 ht2, S.lineB ht, S.lineB ht2, S.reach h2 ht, S.reach h2 ht2, S.len]
  obtain ⟨t, htt⟩ : ∃ t, p.turn = t := ⟨_, rfl⟩
  rw [htt] at ht ⊢
  rcases ht with rfl | rfl <;> cases s <;> (repeat' split) <;> first | rfl | simp_all [plI, swI]
theorem Sym.moves (S : Sym p q g fx s) {r : RulesD} (h1 : r.lose = 0 ∨ upB r.lose = true) (h2 : r.reach = 0 ∨ upB r.reach = true) : (movesL r q).length = (movesL r p).length ∧ ∀ m ∈ movesL r p, symM g m ∈ movesL r q := by
  have he : endsN r q = 0 ↔ endsN r p = 0 := by rw [S.ends h1 h2]; unfold swI; split <;> omega
  unfold movesL
  by_cases h : endsN r p = 0
  · rw [if_pos h, if_pos (he.2 h)]
    exact ⟨S.len r, fun m hm => S.mem hm⟩
  · rw [if_neg h, if_neg (fun hh => h (he.1 hh))]
    exact ⟨rfl, fun m hm => by simp at hm⟩
end
end Go.Proofs.Ytdfegpohmaideaa
/- The two mirrors: left and right; the board turned round with the players exchanged. -/
namespace Go.Proofs.Ytdfegpohmaideaa

theorem fitsL_mem {ps : List PieceD} {l : List UInt8} : FitsL ps l ↔ ∀ x ∈ l, x.toNat = 46 ∨ (pieceX ps x.toNat).isSome = true := by
  unfold FitsL
  constructor
  · intro h x hx
    obtain ⟨k, hk, rfl⟩ := List.getElem_of_mem hx
    exact h k hk
  · exact fun h k hk => h _ (List.getElem_mem hk)
section
variable {p q : Pos} {g : Nat → Nat} {fx s : Bool}
theorem Sym.ofOk (S : Sym p q g fx s) {r : RulesD} (h : OfOk r p) : OfOk r q where
  rules := h.rules
  pos := S.okq
  w := by rw [S.ew]; exact h.w
  h := by rw [S.eh]; exact h.h
  fits := by
    have hf := fitsL_mem.1 h.fits
    unfold Pos.all at hf
    refine fitsL_mem.2 fun x hx => ?_
    unfold Pos.all at hx
    rw [List.mem_append, List.mem_append] at hx
    have hhand : ∀ pl, pl = 0 ∨ pl = 1 → ∀ y ∈ handOf q pl, y.toNat = 46 ∨ (pieceX r.pieces y.toNat).isSome = true := by
      intro pl hpl y hy
      have h2 : plI s pl = 0 ∨ plI s pl = 1 := by unfold plI; split <;> omega
      have h1 := S.hand (plI s pl) h2
      rw [pl_pl] at h1
      rw [h1] at hy
      refine hf y ?_
      rw [List.mem_append, List.mem_append]
      rcases h2 with e | e <;> rw [e] at hy
      · exact .inl (.inr hy)
      · exact .inr hy
    rcases hx with (hx | hx) | hx
    · obtain ⟨a, ha, rfl⟩ := List.getElem_of_mem hx
      have ha' : a < q.cells.size := ha
      have hap : a < p.cells.size := by rw [← S.size]; exact ha'
      have hgl := S.lt a hap
      have hc := S.cell (g a) hgl
      rw [S.inv a hap] at hc
      have e1 : (q.cells.data.toList[a]).toNat = cellN q a := by unfold cellN; rw [getD_get ha]
      have hgl2 : g a < p.cells.data.toList.length := hgl
      have e2 : (p.cells.data.toList[g a]).toNat = cellN p (g a) := by unfold cellN; rw [getD_get hgl2]
      have h3 := hf (p.cells.data.toList[g a]) (by rw [List.mem_append, List.mem_append]; exact .inl (.inl (List.getElem_mem _)))
      rw [e2] at h3
      rw [e1, hc]
      have ok := cellN_ok S.okp hgl
      refine h3.imp (fun h => (cas_dot ok).2 h) (fun h => ?_)
      unfold pieceX at h ⊢
      rwa [cap_cas ok]
    · exact hhand 0 (.inl rfl) x hx
    · exact hhand 1 (.inr rfl) x hx
end
/-- a cell in the mirror -/
def mirI (fx s : Bool) (p : Pos) (a : Nat) : Nat := srcI false fx s p.w.toNat p.h.toNat a
theorem mirI_eq (fx s : Bool) (p : Pos) (a : Nat) : mirI fx s p a = flipN s p.h.toNat (a / p.w.toNat) * p.w.toNat + flipN fx p.w.toNat (a % p.w.toNat) := by
  simp [mirI, srcI, oW, oH]
theorem flipN_I (f : Bool) {n : Int} {x : Nat} (h : (x : Int) < n) : ((flipN f n.toNat x : Nat) : Int) = flipI f n x := by
  cases f
  · rfl
  · simp only [flipN, flipI, if_true]; omega
section
variable {p : Pos} {fx s : Bool}
theorem mir_lt (hp : PosOk p) {a : Nat} (ha : a < p.cells.size) : mirI fx s p a < p.cells.size := by
  have e : p.cells.size = p.w.toNat * p.h.toNat := hp.len
  rw [e] at ha ⊢
  exact srcI_lt ha
theorem mir_xy (hp : PosOk p) {a : Nat} (ha : a < p.cells.size) : mirI fx s p a % p.w.toNat = flipN fx p.w.toNat (a % p.w.toNat) ∧ mirI fx s p a / p.w.toNat = flipN s p.h.toNat (a / p.w.toNat) := by
  have e : p.cells.size = p.w.toNat * p.h.toNat := hp.len
  rw [e] at ha
  have h1 := flipN_lt (f := fx) (col_lt ha)
  rw [mirI_eq, mod_cell h1, div_cell h1]
  exact ⟨rfl, rfl⟩
theorem mir_mir (hp : PosOk p) {a : Nat} (ha : a < p.cells.size) : mirI fx s p (mirI fx s p a) = a := by
  obtain ⟨h1, h2⟩ := mir_xy (fx := fx) (s := s) hp ha
  have e : p.cells.size = p.w.toNat * p.h.toNat := hp.len
  rw [e] at ha
  rw [mirI_eq, h1, h2, flipN_flipN (col_lt ha), flipN_flipN (row_lt ha), cell_back]
theorem mir_col (hp : PosOk p) {a : Nat} (ha : a < p.cells.size) : ((mirI fx s p a % p.w.toNat : Nat) : Int) = flipI fx p.w ((a % p.w.toNat : Nat) : Int) := by
  rw [(mir_xy hp ha).1]
  exact flipN_I _ (hp.xy ha).2.1
theorem mir_row (hp : PosOk p) {a : Nat} (ha : a < p.cells.size) : ((mirI fx s p a / p.w.toNat : Nat) : Int) = flipI s p.h ((a / p.w.toNat : Nat) : Int) := by
  rw [(mir_xy hp ha).2]
  exact flipN_I _ (hp.xy ha).2.2.2.1
end
/-- a cell of a board turned round -/
theorem cell_turn {p : Pos} (hp : PosOk p) {a : Nat} (ha : a < p.cells.size) {k : Nat} {fx s : Bool} (hk : sBit k = false) (hx : aBit k = fx) (hs : bBit k = s) : (turnP p k).cells.data.toList.getD a 0 = p.cells.data.toList.getD (mirI fx s p a) 0 := by
  have ha' : a < p.cells.data.toList.length := ha
  have hm' : mirI fx s p a < p.cells.data.toList.length := mir_lt hp ha
  have e : (turnP p k).cells.data.toList = turnCells (sBit k) (aBit k) (bBit k) p.w.toNat p.h.toNat p.cells.data.toList := rfl
  rw [e, hk, hx, hs, getD_get (by rw [turnCells_len]; exact ha'), turnCells_get hp.len ha', getD_get hm']
  rfl
theorem turn_sym {p : Pos} (hp : PosOk p) : Sym p (turnP p 1) (mirI true false p) true false where
  okp := hp
  okq := turn_ok hp 1
  ew := rfl
  eh := rfl
  et := rfl
  lt _ ha := mir_lt hp ha
  inv _ ha := mir_mir hp ha
  col _ ha := mir_col hp ha
  row _ ha := mir_row hp ha
  cell a ha := by
    unfold cellN
    rw [cell_turn hp (mir_lt (fx := true) (s := false) hp ha) (k := 1) (fx := true) (s := false) rfl rfl rfl, mir_mir hp ha]
    rfl
  hand pl _ := rfl
theorem exch_sym {p : Pos} (hp : PosOk p) : Sym p (exchP p) (mirI false true p) false true where
  okp := hp
  okq := exch_ok hp
  ew := rfl
  eh := rfl
  et := rfl
  lt _ ha := mir_lt hp ha
  inv _ ha := mir_mir hp ha
  col _ ha := mir_col hp ha
  row _ ha := mir_row hp ha
  cell a ha := by
    have hm := mir_lt (fx := false) (s := true) hp ha
    have ht : mirI false true p a < (turnP p 2).cells.data.toList.length := by
      have : (turnP p 2).cells.data.toList.length = p.cells.data.toList.length := turnCells_len _ _ _ _ _ _
      rw [this]; exact hm
    have h2 := cell_turn hp hm (k := 2) (fx := false) (s := true) rfl rfl rfl
    rw [mir_mir hp ha, getD_get ht] at h2
    have e : (exchP p).cells.data.toList = otherL (turnP p 2).cells.data.toList := rfl
    unfold cellN
    rw [e, getD_get (by simpa [otherL] using ht), otherL_get ht, h2]
    rfl
  hand pl hpl := by rcases hpl with rfl | rfl <;> rfl
end Go.Proofs.Ytdfegpohmaideaa
