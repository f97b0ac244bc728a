/- the rating: plain list law; Clone of an empty list -/
import Derived.Test.YtfoehijlafooaaaFlClone
import Derived.Test.YtfoehijlafooaaaTourPlain
namespace Go.Proofs.Ytfoehijlafooaaa
open Go.RowKit Ieee Go.Lib

theorem Fin.mono {N M x : Nat} (h : Fin N x) (hN : N ≤ M) : Fin M x := by
  obtain ⟨s, m, i, e, hi, hl⟩ := h
  exact ⟨s, m, i, e, hi, hl.mono hN⟩
def FinAll (N : Nat) (l : List Nat) : Prop := ∀ j (h : j < l.length), Fin N l[j]
def ratL (k : Nat) (out : List Nat) (rs : List Res) : List Nat := rs.foldl (fun out r => stepF k out r.a.toNat r.b.toNat r.h) out
theorem stepF_len (k : Nat) (out : List Nat) (A B : Nat) (h : Int) : (stepF k out A B h).length = out.length := by simp [stepF]
theorem ratL_take {k : Nat} {out : List Nat} {rs : List Res} {q : Nat} (h : q < rs.length) : ratL k out (rs.take (q + 1)) = stepF k (ratL k out (rs.take q)) rs[q].a.toNat rs[q].b.toNat rs[q].h := by
  unfold ratL
  rw [List.take_add_one, List.getElem?_eq_getElem h, List.foldl_append]; rfl
theorem ratL_len (k : Nat) (out : List Nat) (rs : List Res) : (ratL k out rs).length = out.length := by
  unfold ratL
  induction rs generalizing out with
  | nil => rfl
  | cons r rs ih => rw [List.foldl_cons, ih, stepF_len]
/-- one game: every step has an answer; the bounds grow by two millions -/
theorem stepF_facts {k N A B : Nat} {out : List Nat} (h : Int) (hk : Fin 1000000 k) (hout : FinAll N out) (hA : A < out.length) (hB : B < out.length) (hN : N < 2 ^ 51) :
    ∃ d0 d1 d2 e c a' b', double.sub out[A] out[B] = some d0 ∧ double.div d0 f800 = some d1 ∧ double.add d1 fHalf = some d2 ∧ (∃ o, double.order d2 0 = some o) ∧ (∃ o, double.order d2 f1 = some o) ∧
      double.sub (halfF h) (clampF d2) = some e ∧ double.mul k e = some c ∧ double.add out[A] c = some a' ∧ double.sub out[B] c = some b' ∧ stepF k out A B h = (out.set A a').set B b' ∧ FinAll (N + 2000000) (stepF k out A B h) := by
  obtain ⟨d0, d1, d2, e, c, a', b', e0, e1, e2, o0, o1, e3, e4, e5, e6, fa, fb⟩ := rate_facts h hk (hout A hA) (hout B hB) hN
  have hd : deltaF k out[A] out[B] h = c := by
    unfold deltaF opG
    rw [e0, Option.getD_some, e1, Option.getD_some, e2, Option.getD_some, e3, Option.getD_some, e4, Option.getD_some]
  have hs : stepF k out A B h = (out.set A a').set B b' := by
    unfold stepF
    rw [List.getD_eq_getElem?_getD, List.getD_eq_getElem?_getD, List.getElem?_eq_getElem hA, List.getElem?_eq_getElem hB, Option.getD_some, Option.getD_some, hd]
    unfold opG
    rw [e5, e6, Option.getD_some, Option.getD_some]
  refine ⟨d0, d1, d2, e, c, a', b', e0, e1, e2, o0, o1, e3, e4, e5, e6, hs, ?_⟩
  rw [hs]
  intro j hj
  simp only [List.length_set] at hj
  rw [List.getElem_set, List.getElem_set]
  split
  · exact fb
  · split
    · exact fa
    · exact (hout j hj).mono (by omega)
theorem ratL_fin {k n : Nat} {out : List Nat} {rs : List Res} (hk : Fin 1000000 k) (hout : FinAll 1000000 out) (hl : out.length = n) (hok : ResOk n rs) : ∀ q, q ≤ rs.length → FinAll (1000000 + q * 2000000) (ratL k out (rs.take q))
  | 0, _ => by simpa [ratL] using hout
  | q + 1, hq => by
    rw [ratL_take (by omega)]
    have ih := ratL_fin hk hout hl hok q (by omega)
    have hg := hok.2 _ (List.getElem_mem (show q < rs.length by omega))
    obtain ⟨g1, g2, g3, g4, g5, g6, g7⟩ := hg
    have hlen := ratL_len k out (rs.take q)
    have h10 := hok.1
    obtain ⟨d0, d1, d2, e, c, a', b', -, -, -, -, -, -, -, -, -, -, hf⟩ := stepF_facts (A := rs[q].a.toNat) (B := rs[q].b.toNat) rs[q].h hk ih (by omega) (by omega) (by omega)
    intro j hj
    exact (hf j hj).mono (by omega)

set_option maxHeartbeats 1000000 in
set_option maxRecDepth 20000 in
theorem clonef_empty (a : Addr) (c : Nat) (w : World) : Calls Try.prog 70 #[.slice (some a) 0 c] w fun e w' => ∃ v', e = .returned v' ∧ w'.ownsRow w.heap.size 78 1 v' 0 [] ∧ Below w.heap.size w w' := by
  obtain ⟨i0, hi⟩ := info_f64
  have Hi := hide hi
  clear hi
  have q22 : ∀ (w : World) (a : Option Addr) (n c n' c' : Nat), (binOp .eql 77 (.slice a n c) (.slice none n' c')).run Try.prog w = .ok (.bool a.isNone) w := fun w a n c n' c' => Lib.run_eql_slice_nil w _ _ a n c n' c' Try.underlying77
  go_enter Try.func70, Try.ntmps70
  go_wp2_with (at_builtin; refine wpList_append_own _ rfl _ _ 77 rfl w.heap.size 78 i0 (.float .f64 0) 1 8 Try.underlying77 Hi.out.1 Hi.out.2.1 Hi.out.2.2.1 Hi.out.2.2.2 rfl (by decide) _ _ _ rfl (World.ownsRow_made w #[] 0 (Nat.le_refl _) (Nat.zero_le _) (by simp)) a 0 c [] rfl ?qc1 ?qc2 ?qc3 ?qc4 ?qc5 ?qc6 ?_)
  case qc1 => rfl
  case qc2 => intro j u hj; simp at hj
  case qc3 => intro u hu; simp at hu
  case qc4 => unfold maxLen; omega
  case qc5 => omega
  case qc6 => simp
  intro v' w1 hown hgrow _
  go_wp2_with fail
  go_ret
  refine ⟨v', rfl, by simpa using hown, ?_⟩
  exact ((Below.refl _ w).alloc (Nat.le_refl _) _).grown hgrow (by simp) (by intro k hk; simp [Value.ownBlock] at hk; omega)
end Go.Proofs.Ytfoehijlafooaaa
