/- nim.Values$1: the value of one place of a graph, reckoned by way of the others. -/
import Derived.Test.YtfoehijlafooaaaNimMex
import Derived.Test.YtfoehijlafooaaaNimLook
import Derived.Test.YtfoehijlafooaaaGraphPlain
namespace Go.Proofs.Ytfoehijlafooaaa
open Go.RowKit

theorem info_int : (Try.prog.info? 3).map (fun i => (i.zero, i.size, i.bytes)) = some (some (.int .i64 0), 1, 8) := by kernel_rfl

def nxOf (rows : List (List Int)) (j : Nat) : List Nat := ((rows[j]?).getD []).map Int.toNat
def intV (f : Nat → Int) : Nat → Value := fun j => .int .i64 (f j)
theorem intV_upd (n : Nat) (f : Nat → Int) (i : Nat) (v : Int) : (arrV n (intV f)).setIfInBounds i (.int .i64 v) = arrV n (intV (upd f i v)) :=
  arrV_set _ _ _ _ _ (by simp [intV, upd]) (fun j _ hj => by simp [intV, upd, hj])

structure VEnv (w : World) (B : Nat) (rows : List (List Int)) (A : Option Addr) (c bS bN bV bO gS gO : Nat) (S O : Nat → Int) : Prop where
  boxS : Blk w bS 26 #[.slice (some ⟨gS, 0, none⟩) rows.length rows.length]
  boxN : Blk w bN 25 #[.slice A rows.length c]
  boxV : Blk w bV 87 #[.func (.func 44) #[] #[.pointer (some ⟨bS, 0, none⟩), .pointer (some ⟨bN, 0, none⟩), .pointer (some ⟨bV, 0, none⟩), .pointer (some ⟨bO, 0, none⟩)]]
  boxO : Blk w bO 26 #[.slice (some ⟨gO, 0, none⟩) rows.length rows.length]
  arrS : Blk w gS 3 (arrV rows.length (intV S))
  arrO : Blk w gO 3 (arrV rows.length (intV O))
  rows_ : Rows2 w B A rows
  ne : gS ≠ gO
  hB : B ≤ gS ∧ B ≤ gO ∧ B ≤ w.heap.size

theorem VEnv.keep {w0 w w' : World} {B : Nat} {rows : List (List Int)} {A : Option Addr} {c bS bN bV bO gS gO : Nat} {S0 O0 S O : Nat → Int} (h0 : VEnv w0 B rows A c bS bN bV bO gS gO S0 O0)
    (h : VEnv w B rows A c bS bN bV bO gS gO S O) (hb : Only (fun k => w0.heap.size ≤ k) w w') : VEnv w' B rows A c bS bN bV bO gS gO S O :=
  ⟨h.boxS.only hb (by have := h0.boxS.lt; omega), h.boxN.only hb (by have := h0.boxN.lt; omega), h.boxV.only hb (by have := h0.boxV.lt; omega), h.boxO.only hb (by have := h0.boxO.lt; omega),
   h.arrS.only hb (by have := h0.arrS.lt; omega), h.arrO.only hb (by have := h0.arrO.lt; omega),
   h.rows_.below (hb.below_ (fun k hk => by have := h0.hB.2.2; omega) h.hB.2.2), h.ne, h.hB.1, h.hB.2.1, Nat.le_trans h.hB.2.2 hb.size⟩
theorem VEnv.setS {w : World} {B : Nat} {rows : List (List Int)} {A : Option Addr} {c bS bN bV bO gS gO : Nat} {S O : Nat → Int} (h : VEnv w B rows A c bS bN bV bO gS gO S O) (i : Nat) (v : Int) :
    VEnv (w.setCell ⟨gS, i, none⟩ (.int .i64 v)) B rows A c bS bN bV bO gS gO (upd S i v) O := by
  have hs : (w.setCell ⟨gS, i, none⟩ (.int .i64 v)).heap.size = w.heap.size := by simp [World.setCell]
  exact ⟨h.boxS.far (h.boxS.ne_ h.arrS (by decide)) _, h.boxN.far (h.boxN.ne_ h.arrS (by decide)) _, h.boxV.far (h.boxV.ne_ h.arrS (by decide)) _, h.boxO.far (h.boxO.ne_ h.arrS (by decide)) _,
    by rw [← intV_upd]; exact h.arrS.set_ i _, h.arrO.far (fun e => h.ne e.symm) _,
    h.rows_.below ((Below.refl _ _).setCell (p := ⟨gS, i, none⟩) h.hB.1 _), h.ne, h.hB.1, h.hB.2.1, by rw [hs]; exact h.hB.2.2⟩
theorem VEnv.setO {w : World} {B : Nat} {rows : List (List Int)} {A : Option Addr} {c bS bN bV bO gS gO : Nat} {S O : Nat → Int} (h : VEnv w B rows A c bS bN bV bO gS gO S O) (i : Nat) (v : Int) :
    VEnv (w.setCell ⟨gO, i, none⟩ (.int .i64 v)) B rows A c bS bN bV bO gS gO S (upd O i v) := by
  have hs : (w.setCell ⟨gO, i, none⟩ (.int .i64 v)).heap.size = w.heap.size := by simp [World.setCell]
  exact ⟨h.boxS.far (h.boxS.ne_ h.arrO (by decide)) _, h.boxN.far (h.boxN.ne_ h.arrO (by decide)) _, h.boxV.far (h.boxV.ne_ h.arrO (by decide)) _, h.boxO.far (h.boxO.ne_ h.arrO (by decide)) _,
    h.arrS.far h.ne _, by rw [← intV_upd]; exact h.arrO.set_ i _,
    h.rows_.below ((Below.refl _ _).setCell (p := ⟨gO, i, none⟩) h.hB.2.1 _), h.ne, h.hB.1, h.hB.2.1, by rw [hs]; exact h.hB.2.2⟩

/-- what a call finds: 0, 1 or 2 in each place; those under way lead to i -/
structure VPre (n : Nat) (nx : Nat → List Nat) (S O : Nat → Int) (i : Nat) : Prop where
  good : Good n nx S O
  vals : ∀ j, j < n → S j = 0 ∨ S j = 1 ∨ S j = 2
  way : ∀ j, j < n → S j = 1 → RP nx j i
  out0 : ∀ j, j < n → 0 ≤ O j

def VPost (n : Nat) (nx : Nat → List Nat) (S O : Nat → Int) (i : Nat) (S' O' : Nat → Int) (r : Bool) : Prop :=
  if r then Good n nx S' O' ∧ (∀ j, j < n → (S' j = 0 ∨ S' j = 1 ∨ S' j = 2) ∧ (S' j = 1 ↔ S j = 1) ∧ (S j = 2 → S' j = 2 ∧ O' j = O j) ∧ (S' j = 0 → S j = 0) ∧ 0 ≤ O' j) ∧ S' i = 2
  else ∃ j, j < n ∧ RP nx j j

/-- in the midst: the first m others of i are known -/
structure VMid (n : Nat) (nx : Nat → List Nat) (S O : Nat → Int) (i m : Nat) (S1 O1 : Nat → Int) : Prop where
  good : Good n nx S1 O1
  all : ∀ j, j < n → (S1 j = 0 ∨ S1 j = 1 ∨ S1 j = 2) ∧ (S1 j = 1 ↔ S j = 1 ∨ j = i) ∧ (S j = 2 → S1 j = 2 ∧ O1 j = O j) ∧ (S1 j = 0 → S j = 0 ∧ j ≠ i) ∧ 0 ≤ O1 j
  done : ∀ q k, q < m → (nx i)[q]? = some k → S1 k = 2

theorem VMid.start {n : Nat} {nx : Nat → List Nat} {S O : Nat → Int} {i : Nat} (h : VPre n nx S O i) (h0 : S i = 0) : VMid n nx S O i 0 (upd S i 1) O :=
  ⟨h.good.mark h0, fun j hj => by
    by_cases e : j = i
    · subst e; rw [upd_same]; exact ⟨by omega, by simp, by omega, by omega, h.out0 j hj⟩
    · rw [upd_other _ _ e]; exact ⟨h.vals j hj, by simp [e], by simp, fun hz => ⟨hz, e⟩, h.out0 j hj⟩, fun q k hq => by omega⟩
theorem VMid.pre {n : Nat} {nx : Nat → List Nat} {S O : Nat → Int} {i m k : Nat} {S1 O1 : Nat → Int} (h : VMid n nx S O i m S1 O1) (h0 : VPre n nx S O i) (hk : k ∈ nx i) : VPre n nx S1 O1 k :=
  ⟨h.good, fun j hj => (h.all j hj).1, fun j hj h1 => by
    rcases ((h.all j hj).2.1).1 h1 with h2 | rfl
    · exact .more (h0.way j hj h2) hk
    · exact .one hk, fun j hj => (h.all j hj).2.2.2.2⟩
theorem VMid.zeros_ {n : Nat} {nx : Nat → List Nat} {S O : Nat → Int} {i m : Nat} {S1 O1 : Nat → Int} (h : VMid n nx S O i m S1 O1) (hi : i < n) (h0 : S i = 0) : zeros S1 n < zeros S n := by
  have h1 := zeros_less (v := 1) h0 (by decide) n hi
  have h2 := zeros_mono (S := upd S i 1) (S' := S1) n (fun j hj hz => by
    obtain ⟨h3, h4⟩ := (h.all j hj).2.2.2.1 hz
    rw [upd_other _ _ h4]; exact h3)
  omega
theorem VMid.next {n : Nat} {nx : Nat → List Nat} {S O : Nat → Int} {i m k : Nat} {S1 O1 S2 O2 : Nat → Int} (h : VMid n nx S O i m S1 O1) (hin : Inside n nx) (hi : i < n) (hk : (nx i)[m]? = some k) (hp : VPost n nx S1 O1 k S2 O2 true) : VMid n nx S O i (m + 1) S2 O2 := by
  simp only [VPost, if_true] at hp
  obtain ⟨hg, hall, hk2⟩ := hp
  refine ⟨hg, fun j hj => ?_, fun q k' hq hk' => ?_⟩
  · obtain ⟨a1, a2, a3, a4, a5⟩ := h.all j hj
    obtain ⟨b1, b2, b3, b4, b5⟩ := hall j hj
    exact ⟨b1, b2.trans a2, fun h2 => by
      obtain ⟨c1, c2⟩ := a3 h2
      obtain ⟨d1, d2⟩ := b3 c1
      exact ⟨d1, d2.trans c2⟩, fun hz => a4 (b4 hz), b5⟩
  · rcases Nat.lt_or_ge q m with hx | hx
    · have h1 := h.done q k' hx hk'
      exact ((hall k' (hin i hi k' (List.mem_of_getElem? hk'))).2.2.1 h1).1
    · have : q = m := by omega
      subst this
      rw [hk] at hk'
      injection hk' with hk'
      subst hk'
      exact hk2
theorem VMid.keeps {n : Nat} {nx : Nat → List Nat} {S O : Nat → Int} {i m k : Nat} {S1 O1 S2 O2 : Nat → Int} (h : VMid n nx S O i m S1 O1) (hin : Inside n nx) (hi : i < n) (hp : VPost n nx S1 O1 k S2 O2 true) : ∀ q k', q < m → (nx i)[q]? = some k' → O2 k' = O1 k' := by
  simp only [VPost, if_true] at hp
  intro q k' hq hk'
  exact ((hp.2.1 k' (hin i hi k' (List.mem_of_getElem? hk'))).2.2.1 (h.done q k' hq hk')).2
theorem VMid.last {n : Nat} {nx : Nat → List Nat} {S O : Nat → Int} {i : Nat} {S1 O1 : Nat → Int} (h : VMid n nx S O i (nx i).length S1 O1) (hi : i < n) (h0 : S i = 0) :
    VPost n nx S O i (upd S1 i 2) (upd O1 i (mexS ((nx i).map O1) : Int)) true := by
  have h1 : S1 i = 1 := ((h.all i hi).2.1).2 (.inr rfl)
  simp only [VPost, if_true]
  refine ⟨h.good.finish (by omega) (fun k hk => ?_), fun j hj => ?_, upd_same _ _ _⟩
  · obtain ⟨q, hq, hqk⟩ := List.mem_iff_getElem.1 hk
    exact h.done q k hq (by rw [List.getElem?_eq_getElem hq, hqk])
  · obtain ⟨a1, a2, a3, a4, a5⟩ := h.all j hj
    by_cases e : j = i
    · subst e; rw [upd_same, upd_same]; exact ⟨by omega, by omega, by omega, by omega, by omega⟩
    · rw [upd_other _ _ e, upd_other _ _ e]
      exact ⟨a1, by rw [a2]; simp [e], a3, fun hz => (a4 hz).1, a5⟩

theorem nxOf_get {rows : List (List Int)} {i m : Nat} (hi : i < rows.length) (hm : m < rows[i].length) : (nxOf rows i)[m]? = some (rows[i][m]).toNat := by
  simp [nxOf, hi, hm]
theorem nxOf_len {rows : List (List Int)} {i : Nat} (hi : i < rows.length) : (nxOf rows i).length = rows[i].length := by simp [nxOf, hi]
theorem nxOf_in {rows : List (List Int)} (hin : ∀ j (h : j < rows.length) m (h2 : m < rows[j].length), 0 ≤ rows[j][m] ∧ rows[j][m] < rows.length) : Inside rows.length (nxOf rows) := by
  intro j hj k hk
  obtain ⟨q, hq, hqk⟩ := List.mem_iff_getElem.1 hk
  rw [nxOf_len hj] at hq
  have := nxOf_get hj hq
  rw [List.getElem?_eq_getElem (by rw [nxOf_len hj]; exact hq), hqk] at this
  injection this with this
  have := hin j hj q hq
  omega

def VAns (B : Nat) (rows : List (List Int)) (A : Option Addr) (c bS bN bV bO gS gO : Nat) (S O : Nat → Int) (i : Nat) (w : World) (e : Ending) (w' : World) : Prop :=
  ∃ S' O' r, e = .returned (.bool r) ∧ VEnv w' B rows A c bS bN bV bO gS gO S' O' ∧ VPost rows.length (nxOf rows) S O i S' O' r ∧ Only (fun k => k = gS ∨ k = gO) w w'

set_option maxHeartbeats 1000000 in
set_option maxRecDepth 20000 in
theorem value_any (B : Nat) (rows : List (List Int)) (A : Option Addr) (c bS bN bV bO gS gO : Nat) (_hn : rows.length ≤ 1000)
    (hrl : ∀ j (h : j < rows.length), rows[j].length ≤ 1000) (hin : ∀ j (h : j < rows.length) m (h2 : m < rows[j].length), 0 ≤ rows[j][m] ∧ rows[j][m] < rows.length) :
    ∀ (m : Nat) (S O : Nat → Int) (i : Nat) (w : World), zeros S rows.length ≤ m → i < rows.length → VEnv w B rows A c bS bN bV bO gS gO S O → VPre rows.length (nxOf rows) S O i →
      Calls Try.prog 44 #[.int .i64 i, .pointer (some ⟨bS, 0, none⟩), .pointer (some ⟨bN, 0, none⟩), .pointer (some ⟨bV, 0, none⟩), .pointer (some ⟨bO, 0, none⟩)] w
        (VAns B rows A c bS bN bV bO gS gO S O i w) := by
  intro m
  induction m with
  | zero =>
    intro S O i w hz hi hE hP
    have h0 : S i ≠ 0 := by
      intro h0
      have := zeros_less (v := 1) h0 (by decide) rows.length hi
      omega
    have e1 := hE.boxS.cell 0
    have c1 := hE.arrS.cellv (arrV_get hi)
    unfold intV at c1
    simp at e1
    rcases hP.vals i hi with h0' | h1 | h2
    · exact absurd h0' h0
    · rw [h1] at c1
      have HE := hide hE
      have HP := hide hP
      have H1 := hide h1
      clear hE hP h1 h0
      go_enter Try.func44, Try.ntmps44
      go_wp2_with fail
      go_ret
      exact ⟨S, O, false, rfl, HE.out, ⟨i, hi, HP.out.way i hi H1.out⟩, Only.refl _ _⟩
    · rw [h2] at c1
      have HE := hide hE
      have HP := hide hP
      have H2 := hide h2
      clear hE hP h2 h0
      go_enter Try.func44, Try.ntmps44
      go_wp2_with fail
      go_ret
      exact ⟨S, O, true, rfl, HE.out, ⟨HP.out.good, fun j hj => ⟨HP.out.vals j hj, Iff.rfl, fun h => ⟨h, rfl⟩, id, HP.out.out0 j hj⟩, H2.out⟩, Only.refl _ _⟩
  | succ m ih =>
    intro S O i w hz hi hE hP
    have e1 := hE.boxS.cell 0
    have e2 := hE.boxN.cell 0
    have e3 := hE.boxV.cell 0
    have e4 := hE.boxO.cell 0
    have c1 := hE.arrS.cellv (arrV_get hi)
    unfold intV at c1
    simp at e1 e2 e3 e4
    have f1 := hE.arrS.free i
    rcases hP.vals i hi with h0 | h1 | h2
    · rw [h0] at c1
      have hE1 := hE.setS i 1
      have e1' := hE1.boxS.cell 0
      have e2' := hE1.boxN.cell 0
      have e3' := hE1.boxV.cell 0
      have e4' := hE1.boxO.cell 0
      simp at e1' e2' e3' e4'
      obtain ⟨b, off, rfl, hb, Ak, ck, hle, hcell0, hck⟩ := hE.rows_.at_ hi
      have hcell : (w.setCell ⟨gS, i, none⟩ (.int .i64 1)).cell? ⟨b, off + i, none⟩ = some (.slice Ak rows[i].length ck) :=
        (((Below.refl B w).setCell (p := ⟨gS, i, none⟩) hE.hB.1 _).cell (p := ⟨b, off + i, none⟩) hb).trans hcell0
      have hBs := hE.hB
      have hgS := hE.arrS.lt
      have hgO := hE.arrO.lt
      obtain ⟨i0, hi0, hz0, hz1, hz2⟩ := info_parts info_int
      have HI0 := hide hi0
      have HZ0 := hide hz0
      have HZ1 := hide hz1
      have HZ2 := hide hz2
      clear hcell0 hi0 hz0 hz1 hz2
      have HE := hide hE
      have HE1 := hide hE1
      have HP := hide hP
      have H0 := hide h0
      have HI := hide ih
      have Hck := hide hck
      clear hE hP h0 ih hE1 hck
      go_enter Try.func44, Try.ntmps44
      go_wp2_with fail
      go_loopw [7, 28] (fun l idx wr => ∃ (q : Nat) (S1 O1 : Nat → Int), q ≤ rows[i].length ∧ idx = .int .i64 q ∧ wr.ownsRow w.heap.size 3 1 l q (((nxOf rows i).take q).map (intV O1)) ∧
          VEnv wr B rows (some ⟨b, off, none⟩) c bS bN bV bO gS gO S1 O1 ∧ VMid rows.length (nxOf rows) S O i q S1 O1 ∧ Only (fun k => k = gS ∨ k = gO) w wr) (fun _ idx _ => rows[i].length - (intOf idx).toNat)
      case atStart => exact ⟨0, _, _, by omega, rfl, World.ownsRow_nil _ _ _ _, HE1.out, VMid.start HP.out H0.out, (Only.refl _ _).setCell (p := ⟨gS, i, none⟩) (.inl (.inl rfl)) _⟩
      case round =>
        obtain ⟨q, S1, O1, hq, rfl, hown, hE1, hM, hO⟩ := hrel
        clear e1' e2' e3' e4' e1 e2 e3 e4 c1 f1 hcell
        have HO := hide hO
        have HM := hide hM
        have HE2 := hide hE1
        by_cases hlt : q < rows[i].length
        · obtain ⟨kN, hkN⟩ : ∃ kN : Nat, rows[i][q] = kN := ⟨rows[i][q].toNat, by have := hin i hi q hlt; omega⟩
          have hkn : kN < rows.length := by have := hin i hi q hlt; omega
          have hget := nxOf_get hi hlt
          rw [hkN, Int.toNat_natCast] at hget
          have hckr := Hck.out.below (hO.below_ (B := B) (by rintro k (rfl | rfl) <;> omega) hBs.2.2)
          obtain ⟨b2, off2, rfl, hb2, hcell2⟩ := hckr.at_ (k := q) (by simpa using hlt)
          rw [ints_get, hkN] at hcell2
          have r3 := hE1.boxV.cell 0
          simp at r3
          have Hkn := hide hkN
          have Hget := hide hget
          have Hown := hide hown
          clear hO hM hE1 hkN hget hown hckr
          go_wp2_with fail
          refine (HI.out S1 O1 kN _ (by have := HM.out.zeros_ hi H0.out; omega) hkn HE2.out (HM.out.pre HP.out (List.mem_of_getElem? Hget.out))).mono ?_
          rintro e w2 ⟨S2, O2, r, rfl, hE2, hPo, hO2⟩
          have HE3 := hide hE2
          have HPo := hide hPo
          have HO2 := hide hO2
          have r4 := hE2.boxO.cell 0
          have r5 := hE2.arrO.cellv (arrV_get hkn)
          simp at r4
          unfold intV at r5
          clear hE2 hPo hO2 r3 hcell2
          cases r with
          | false =>
            go_wp2_with fail
            go_ret
            exact ⟨S2, O2, false, rfl, HE3.out, by simpa [VPost] using HPo.out, HO.out.trans (HO2.out.mono (fun k _ hk => hk))⟩
          | true =>
            have hM3 := HM.out.next (nxOf_in hin) hi Hget.out HPo.out
            have hkeep := HM.out.keeps (nxOf_in hin) hi HPo.out
            have heq : ((nxOf rows i).take q).map (intV O1) = ((nxOf rows i).take q).map (intV O2) := by
              apply List.map_congr_left
              intro k' hk'
              obtain ⟨p, hp, hpk⟩ := List.mem_iff_getElem.1 hk'
              simp only [List.length_take] at hp
              simp only [List.getElem_take] at hpk
              simp only [intV]
              rw [hkeep p k' (by omega) (by rw [List.getElem?_eq_getElem (by omega), hpk])]
            have hown2 := ownsRow_only Hown.out HO2.out (fun g hg hS => by have := (Hown.out.lt g hg).1; omega)
            rw [heq] at hown2
            have hap := hown2.alloc (.cells #[.int .i64 (O2 kN)] 3)
            have hsz2 : w.heap.size ≤ w2.heap.size := Nat.le_trans HO.out.size HO2.out.size
            have Hap := hide hap
            have HM3 := hide hM3
            have hql : q < 1000 := by have := hrl i hi; omega
            clear hkeep heq hown2 hap hM3
            go_wp2_with (at_builtin; refine wpList_append1 _ rfl (.tmp 36) (.tmp 41) 26 rfl w.heap.size 3 i0 (.int .i64 0) 8 Try.underlying26 HI0.out HZ0.out HZ1.out HZ2.out rfl _ q _ rfl Hap.out (.int .i64 (O2 kN)) w2.heap.size rfl ?h1 rfl ?h2 ?h3 ?h4 ?_)
            case h1 => simp [go_sem]
            case h2 => unfold maxLen; omega
            case h3 => omega
            case h4 => simp; omega
            intro v3 w3 hown3 hO3
            have Hown3 := hide hown3
            have HO3 := hide hO3
            clear hown3 hO3
            go_wp2_with fail
            go_roundw
            case rel =>
              have hO23 : Only (fun k => w.heap.size ≤ k) w2 w3 := ((Only.refl _ _).alloc _).trans HO3.out
              have hOall : Only (fun k => k = gS ∨ k = gO) w w3 := (HO.out.trans HO2.out).trans' hO23 (fun k hk h => by omega)
              refine ⟨q + 1, S2, O2, by omega, by go_num, ?_, HE.out.keep HE3.out hO23, HM3.out, hOall⟩
              have hx := Hown3.out
              have hg2 : (nxOf rows i)[q]? = some kN := Hget.out
              obtain ⟨hqlt, hqk⟩ := List.getElem?_eq_some_iff.1 hg2
              rw [List.take_succ_eq_append_getElem hqlt, hqk, List.map_append, List.map_take]
              exact hx
            case measure => simp [intOf]; omega
        · have hql : q = rows[i].length := by omega
          subst hql
          rw [List.take_of_length_le (by rw [nxOf_len hi]; exact Nat.le_refl _)] at hown
          have r1 := hE1.boxS.cell 0
          have r4 := hE1.boxO.cell 0
          simp at r1 r4
          have r2 := hE1.arrS.cellv (arrV_get hi)
          have r3 := hE1.arrO.cellv (arrV_get hi)
          unfold intV at r2 r3
          have f2 := hE1.arrS.free i
          have f3 := hE1.arrO.free i
          have hne := hE1.ne
          obtain ⟨Al, cl, rfl, hcl, hll, hcells⟩ := Cells.of_own hown
          have hS := hE1.arrS.lt
          have hO' := hE1.arrO.lt
          have h1 := hE1.boxS.lt
          have h4 := hE1.boxO.lt
          have n1 : bS ≠ gS := hE1.boxS.ne_ hE1.arrS (by decide)
          have n2 : bS ≠ gO := hE1.boxS.ne_ hE1.arrO (by decide)
          have n3 : bO ≠ gS := hE1.boxO.ne_ hE1.arrS (by decide)
          have n4 : bO ≠ gO := hE1.boxO.ne_ hE1.arrO (by decide)
          have hmx : ∀ W, Below wr.heap.size wr W → Calls Try.prog 45 #[.slice Al rows[i].length cl] W fun e w' => e = .returned (.int .i64 (mexS ((nxOf rows i).map O1))) ∧ Below wr.heap.size wr w' := by
            intro W hW
            have hl : ((nxOf rows i).map O1).length = rows[i].length := by simp [nxOf_len hi]
            have hc : Cells W wr.heap.size Al (ints ((nxOf rows i).map O1)) := by
              have : ints ((nxOf rows i).map O1) = (nxOf rows i).map (intV O1) := by simp [ints, intV]
              rw [this]
              exact hcells.below hW
            have := mex_any Al cl ((nxOf rows i).map O1) W _ hW.size (by have := hrl i hi; omega) (by
              intro x hx
              obtain ⟨k, hk, rfl⟩ := List.mem_map.1 hx
              exact (hM.all k (nxOf_in hin i hi k hk)).2.2.2.2) hc
            rw [hl] at this
            exact this.mono fun e w' ⟨h1, h2⟩ => ⟨h1, hW.trans (h2.mono hW.size)⟩
          have Hmx := hide hmx
          clear hO hM hE1 hown hmx hcells hll HE1
          go_wp2_with fail
          go_region_with (go_at_call 45; refine (Hmx.out _ (below_drewN (Below.refl _ _) 1)).mono ?_; rintro e w2 ⟨rfl, hb2⟩; obtain ⟨hc2, hf2⟩ := bcell hb2; have Hb2 := hide hb2; clear hb2)
          all_goals
            go_wp2_with fail
            go_ret
            exact ⟨upd S1 i 2, upd O1 i (mexS ((nxOf rows i).map O1) : Int), true, rfl, ((HE2.out.keep HE2.out (Only.of_below Hb2.out (fun k _ h => h))).setO i _).setS i 2,
              VMid.last (by rw [nxOf_len hi]; exact HM.out) hi H0.out,
              ((HO.out.trans' (Only.of_below (B := wr.heap.size) (S := fun k => wr.heap.size ≤ k) Hb2.out (fun k _ h => h)) (fun k hk h => by have := HO.out.size; omega)).setCell (p := ⟨gO, i, none⟩) (.inl (.inr rfl)) _).setCell (p := ⟨gS, i, none⟩) (.inl (.inl rfl)) _⟩
    · rw [h1] at c1
      have HE := hide hE
      have HP := hide hP
      have H1 := hide h1
      clear hE hP h1 ih
      go_enter Try.func44, Try.ntmps44
      go_wp2_with fail
      go_ret
      exact ⟨S, O, false, rfl, HE.out, ⟨i, hi, HP.out.way i hi H1.out⟩, Only.refl _ _⟩
    · rw [h2] at c1
      have HE := hide hE
      have HP := hide hP
      have H2 := hide h2
      clear hE hP h2 ih
      go_enter Try.func44, Try.ntmps44
      go_wp2_with fail
      go_ret
      exact ⟨S, O, true, rfl, HE.out, ⟨HP.out.good, fun j hj => ⟨HP.out.vals j hj, Iff.rfl, fun h => ⟨h, rfl⟩, id, HP.out.out0 j hj⟩, H2.out⟩, Only.refl _ _⟩
end Go.Proofs.Ytfoehijlafooaaa
