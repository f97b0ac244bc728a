/- (*house.House).Take: its contract, out of its answers. -/
import Derived.Test.YtcdfeaodfmfdnaaGreatDoorPlHoTk3
namespace Go.Proofs.YtcdfeaodfmfdnaaGreatDoor
open Go.RowKit

/-- a house in memory: its block h, its pieces' rows from lo up to h, its buffer's row from B on -/
def HoAt (w : World) (lo h B : Nat) (s : HoD) (v : Value) : Prop := ∃ (A : Option Addr) (cp : Nat) (ad : Value), HB w B h (hoC s A cp ad v) v s.lines ∧ PAt w (fun x => lo ≤ x ∧ x < h) A s.r.pieces
theorem HoAt.only {w w' : World} {S : Nat → Prop} {lo h B : Nat} {s : HoD} {v : Value} (ha : HoAt w lo h B s v) (ho : Only S w w') (h1 : ∀ k, S k → ¬ (lo ≤ k ∧ k ≤ h)) (hlo : lo ≤ h) (h2 : ∀ k, v.ownBlock = some k → ¬ S k) : HoAt w' lo h B s v := by
 obtain ⟨A, cp, ad, hb, hp⟩ := ha
 exact ⟨A, cp, ad, hb.only ho (fun hh => h1 h hh ⟨hlo, Nat.le_refl _⟩) h2, hp.only ho (fun k hk hq => h1 k hk ⟨hq.1, Nat.le_of_lt hq.2⟩)⟩
theorem HoAt.own {w : World} {lo h B : Nat} {s : HoD} {v : Value} (ha : HoAt w lo h B s v) : ∀ k, v.ownBlock = some k → B ≤ k ∧ k < w.heap.size := by
 obtain ⟨A, cp, ad, hb, _⟩ := ha
 exact hb.own.lt
theorem take_r (s : HoD) (m : MsgD) : (takeP s m).1.r = s.r := by
 have h := (pass_same s m.at_).1
 unfold takeP
 split
 ·
  rfl
 ·
  split
  ·
   exact h
  ·
   split
   ·
    exact h
   ·
    split
    ·
     exact h
    ·
     split
     ·
      exact h
     ·
      exact h
theorem take_ok {s : HoD} {m : MsgD} (h : HoOk s) (hm : m.at_ ≤ 9223372036854775807) : HoOk (takeP s m).1 := by
 obtain ⟨e_r, e_p, e_ply, e_fl, e_li, -, -⟩ := pass_same s m.at_
 unfold takeP
 by_cases q : outP s = 0
 ·
  obtain ⟨hfl, hen, hpl⟩ := out_open q h
  rw [if_neg (by rw [q]; exact fun h => h rfl)]
  by_cases ql : leftP (passP s m.at_) < 0
  ·
   rw [if_pos ql]
   have := flag_ok h hfl hm
   rw [e_p] at this
   exact this
  ·
   have h2 := pass_ok h hfl hm (by omega)
   rw [if_neg ql]
   split
   ·
    exact h2
   ·
    split
    ·
     exact h2
    ·
     split
     ·
      exact h2
     ·
      rename_i x hx
      have hr := read_some hx
      exact done_ok h2 (by rw [e_ply, e_r]; exact hpl) (by rw [e_r, e_p]; exact hr.1) (by rw [e_p]; exact hr.2)
 ·
  rw [if_pos q]
  exact h
theorem htake_any (lo h B : Nat) (s : HoD) (v : Value) (m : MsgD) (W : World) (ha : HoAt W lo h B s v) (hok : HoOk s) (hhB : h < B) (hBW : B ≤ W.heap.size) (h5 : 5 < h) (he : EnvH W) (hm0 : -9223372036854775808 ≤ m.at_) (hm1 : m.at_ ≤ 9223372036854775807) :
  Calls Tryz.prog 23 #[.pointer (some ⟨h, 0, none⟩), .agg #[.int .i64 m.seat, .int .i64 m.ply, .string m.mv, .int .i64 m.at_]] W fun e w' =>
   e = .returned (.agg (repV (takeP s m))) ∧ ∃ v', HoAt w' lo h B (takeP s m).1 v' ∧ (v'.ownBlock = v.ownBlock ∨ ∃ g, v'.ownBlock = some g ∧ W.heap.size ≤ g) ∧ Only (fun x => x = h ∨ v.ownBlock = some x) W w' := by
 obtain ⟨A, cp, ad, hb, hp⟩ := ha
 have key : ∀ e w', TakeOut B h s A cp v m W e w' → e = .returned (.agg (repV (takeP s m))) ∧ ∃ v', HoAt w' lo h B (takeP s m).1 v' ∧ (v'.ownBlock = v.ownBlock ∨ ∃ g, v'.ownBlock = some g ∧ W.heap.size ≤ g) ∧ Only (fun x => x = h ∨ v.ownBlock = some x) W w' := by
  rintro e w' ⟨ad', v', he', hb', hl, ho⟩
  refine ⟨he', v', ⟨A, cp, ad', hb', ?_⟩, hl, ho⟩
  rw [take_r]
  exact hp.only ho (fun k hk hq => by
   rcases hk with hk | hk
   ·
    omega
   ·
    have := (hb.own.lt k hk).1; omega)
 by_cases q : outP s = 0
 ·
  by_cases ql : leftP (passP s m.at_) < 0
  ·
   exact (htake_flag B h lo s A cp ad v m W hb hok hp hm0 hm1 q ql).mono key
  ·
   by_cases qp : m.ply = s.ply
   ·
    by_cases qs : m.seat = s.p.turn
    ·
     cases hx : readM s.r s.p m.mv with
     | none => exact (htake_bad B h lo s A cp ad v m W hb hok hp hm0 hm1 q (by omega) qp qs hx).mono key
     | some x => exact (htake_done B h lo s A cp ad v m W hb hok hp hm0 hm1 hhB hBW h5 he q (by omega) qp qs x hx).mono key
    ·
     exact (htake_wait B h lo s A cp ad v m W hb hok hp hm0 hm1 q (by omega) qp qs).mono key
   ·
    exact (htake_stale B h lo s A cp ad v m W hb hok hp hm0 hm1 q (by omega) qp).mono key
 ·
  exact (htake_over B h lo s A cp ad v m W hb hok hp q).mono key
end Go.Proofs.YtcdfeaodfmfdnaaGreatDoor
