/- A piece as a text, plainly: what its reader finds. -/
import Derived.Test.YtcdfeaodfmfdnaaDoorRxPieceP
import Derived.Test.YtcdfeaodfmfdnaaDoorRxNumW
namespace Go.Proofs.YtcdfeaodfmfdnaaDoor

def PieceIn (p : PieceD) : Prop := upB p.letter = true ∧ (∃ m : Nat, p.worth = m ∧ m ≤ 9999) ∧ ∀ w ∈ p.ways, WayIn w
def waysL (ws : List WayD) : List UInt8 := if ws = [] then [] else 58 :: 32 :: joinS [44, 32] (ws.map wayL)
def tailP (p : PieceD) : List UInt8 := 32 :: UInt8.ofNat p.letter :: 32 :: (Lib.decDigits p.worth.toNat ++ waysL p.ways)
/-- what readPiece says of the text -/
def PieceP (l : List UInt8) (p : PieceD) (ok : Bool) : Prop :=
  (ok = true → PieceIn p ∧ ∃ w0, (32 : UInt8) ∉ w0 ∧ l = w0 ++ tailP p) ∧ ∀ p', PieceIn p' → ∀ w0, (32 : UInt8) ∉ w0 → (58 : UInt8) ∉ w0 → l = w0 ++ tailP p' → ok = true
theorem up_small {n : Nat} (h : upB n = true) : (UInt8.ofNat n).toNat = n := by
  have := upB_lt h
  rw [UInt8.toNat_ofNat']
  omega
theorem letter_no {n : Nat} (h : upB n = true) {c : UInt8} (hc : c.toNat < 65) : c ≠ UInt8.ofNat n := fun e => by
  have h1 := upB_lt h
  have h2 := up_small h
  rw [← e] at h2
  omega
/-- the text of a piece, taken apart as the reader does -/
theorem piece_parts {l w0 : List UInt8} {p : PieceD} (hp : PieceIn p) (h32 : (32 : UInt8) ∉ w0) (h58 : (58 : UInt8) ∉ w0) (hl : l = w0 ++ tailP p) :
    splitL 32 (Lib.cut l [58, 32]).1 = [w0, [UInt8.ofNat p.letter], Lib.decDigits p.worth.toNat] ∧ (Lib.cut l [58, 32]).2.2 = decide (p.ways ≠ []) ∧ (p.ways ≠ [] → Lib.split (Lib.cut l [58, 32]).2.1 [44, 32] = p.ways.map wayL) := by
  obtain ⟨hu, ⟨m, hm, m9⟩, hw⟩ := hp
  have hh : (58 : UInt8) ∉ w0 ++ 32 :: UInt8.ofNat p.letter :: 32 :: Lib.decDigits p.worth.toNat := by
    simp only [List.mem_append, List.mem_cons, not_or]
    exact ⟨h58, by decide, letter_no hu (by decide), by decide, dec_no (by decide)⟩
  have hs : splitL 32 (w0 ++ 32 :: UInt8.ofNat p.letter :: 32 :: Lib.decDigits p.worth.toNat) = [w0, [UInt8.ofNat p.letter], Lib.decDigits p.worth.toNat] := by
    have h1 : (32 : UInt8) ∉ [UInt8.ofNat p.letter] := by
      rw [List.mem_singleton]
      exact letter_no hu (by decide)
    rw [splitL_app h32]
    have := splitL_app h1 (Lib.decDigits p.worth.toNat)
    rw [List.singleton_append] at this
    rw [this, splitL_none (dec_no (by decide))]
  by_cases e : p.ways = []
  · have hl' : l = w0 ++ 32 :: UInt8.ofNat p.letter :: 32 :: Lib.decDigits p.worth.toNat := by rw [hl, tailP, waysL, if_pos e, List.append_nil]
    rw [hl', cut_none hh]
    exact ⟨hs, by simp [e], fun h => absurd e h⟩
  · have hl' : l = (w0 ++ 32 :: UInt8.ofNat p.letter :: 32 :: Lib.decDigits p.worth.toNat) ++ 58 :: 32 :: joinS [44, 32] (p.ways.map wayL) := by rw [hl, tailP, waysL, if_neg e]; simp
    rw [hl', cut_yes hh]
    refine ⟨hs, by simp [e], fun _ => split_two' (by simpa using e) (fun a ha => ?_)⟩
    obtain ⟨w, hw', rfl⟩ := List.mem_map.1 ha
    exact wayL_no (hw w hw') (.inl rfl)
/-- what the reader has found is the text of a piece -/
theorem piece_found {l : List UInt8} {n : Nat} {v : Int} {ws : List WayD} (h3 : (splitL 32 (Lib.cut l [58, 32]).1).length = 3)
    (hn : LetP ((splitL 32 (Lib.cut l [58, 32]).1).getD 1 []) n true) (hv : NumP ((splitL 32 (Lib.cut l [58, 32]).1).getD 2 []) v true) (hw : ∀ w ∈ ws, WayIn w)
    (h0 : (Lib.cut l [58, 32]).2.2 = false → ws = []) (h1 : (Lib.cut l [58, 32]).2.2 = true → Lib.split (Lib.cut l [58, 32]).2.1 [44, 32] = ws.map wayL) :
    PieceIn ⟨n, v, ws⟩ ∧ ∃ w0, (32 : UInt8) ∉ w0 ∧ l = w0 ++ tailP ⟨n, v, ws⟩ := by
  obtain ⟨hu, c, hc, ec⟩ := hn.1 rfl
  obtain ⟨m, rfl, m9, em⟩ := hv.1 rfl
  refine ⟨⟨hu, ⟨m, rfl, m9⟩, hw⟩, ?_⟩
  obtain ⟨w0, b, d, hF⟩ := list3 h3
  have hj := join_split 32 (Lib.cut l [58, 32]).1
  have hns := split_nosep 32 (Lib.cut l [58, 32]).1
  rw [hF] at hj ec em hns
  simp only [List.getD_cons_zero, List.getD_cons_succ] at ec em
  subst ec
  subst em
  have hcu : UInt8.ofNat n = c := by rw [← hc]; simp
  refine ⟨w0, hns w0 (by simp), ?_⟩
  obtain ⟨s1, s2⟩ := cut_says l [58, 32]
  cases hb : (Lib.cut l [58, 32]).2.2 with
  | false =>
    rw [← s2 hb, ← hj, h0 hb]
    simp [tailP, waysL, joinL, hcu]
  | true =>
    have hjs := join_split' [44, 32] (Lib.cut l [58, 32]).2.1
    rw [h1 hb] at hjs
    have hne : ws ≠ [] := fun e => by
      have := h1 hb
      rw [e] at this
      exact splitK_ne _ _ _ _ this
    conv => lhs; rw [s1 hb]
    rw [← hj, ← hjs, tailP, waysL, if_neg hne]
    simp [joinL, hcu]
end Go.Proofs.YtcdfeaodfmfdnaaDoor
