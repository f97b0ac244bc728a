/- moves.all's closure: one more move behind those that were found -/
import Derived.Test.YtcdfeaodfmfdnaaGreatDoorPlApM
import Derived.Test.YtcdfeaodfmfdnaaGreatDoorPlMvLetM
namespace Go.Proofs.YtcdfeaodfmfdnaaGreatDoor
open Go.RowKit

def cellsM (l : List Mv) : List Value := l.flatMap fun m => [.int .i64 m.f, .int .i64 m.t, .int .u8 (m.c : Int)]
theorem cellsM_app (a b : List Mv) : cellsM (a ++ b) = cellsM a ++ cellsM b := by simp [cellsM]
theorem cellsM_len (l : List Mv) : (cellsM l).length = l.length * 3 := by
  induction l with
  | nil => rfl
  | cons m l ih =>
    have : cellsM (m :: l) = [.int .i64 m.f, .int .i64 m.t, .int .u8 (m.c : Int)] ++ cellsM l := rfl
    rw [this, List.length_append, ih]
    simp
    omega
/-- the moves that a row of the call's own holds -/
def OwnM (w : World) (base : Nat) (v : Value) (l : List Mv) : Prop := w.ownsRow base 101 3 v l.length (cellsM l)
/-- a variable gl that holds them -/
def MvSt (w : World) (gl base : Nat) (v : Value) (l : List Mv) : Prop := Blk w gl 111 #[v] ∧ OwnM w base v l ∧ base ≤ w.heap.size
/-- nothing has turned but the variable and its row -/
structure Grew (gl : Nat) (W w' : World) (v v' : Value) : Prop where
  only : Only (fun k => k = gl ∨ v.ownBlock = some k) W w'
  own : ∀ k, v'.ownBlock = some k → v.ownBlock = some k ∨ W.heap.size ≤ k
theorem Grew.rfl {gl : Nat} {W : World} {v : Value} : Grew gl W W v v := ⟨Only.refl _ _, fun _ h => .inl h⟩
theorem Grew.trans {gl : Nat} {a b c : World} {u v x : Value} (h : Grew gl a b u v) (k : Grew gl b c v x) : Grew gl a c u x :=
  ⟨h.only.trans' k.only (fun i hi hs => by
    rcases hs with hs | hs
    · exact .inl hs
    · rcases h.own i hs with h2 | h2
      · exact .inr h2
      · omega), fun i hi => by
    rcases k.own i hi with h2 | h2
    · exact h.own i h2
    · exact .inr (Nat.le_trans h.only.size h2)⟩
theorem Grew.alloc {gl : Nat} {a b : World} {u v : Value} (h : Grew gl a b u v) (o : Obj) : Grew gl a (b.alloc o) u v := ⟨h.only.alloc o, h.own⟩
theorem Grew.drewN {gl : Nat} {a b : World} {u v : Value} (h : Grew gl a b u v) (n : Nat) : Grew gl a (b.drewN n) u v := ⟨h.only.drewN n, h.own⟩
theorem Grew.drew {gl : Nat} {a b : World} {u v : Value} (h : Grew gl a b u v) : Grew gl a b.drew u v := ⟨h.only.drew, h.own⟩
theorem Grew.size {gl : Nat} {a b : World} {u v : Value} (h : Grew gl a b u v) : a.heap.size ≤ b.heap.size := h.only.size
/-- a block of another type is as it was -/
theorem Grew.blk {gl base : Nat} {a b : World} {u v : Value} {l : List Mv} (h : Grew gl a b u v) (hs : MvSt a gl base u l) {g : Nat} {t : TypeId} {cs : Array Value} (hb : Blk a g t cs) (h1 : t ≠ 111) (h2 : t ≠ 101) : Blk b g t cs :=
  hb.only h.only (fun k => by
    rcases k with k | k
    · exact hb.ne_ hs.1 h1 k
    · exact own_ne hs.2.1 hb h2 k)
/-- what was there before the variable and its row is as it was -/
theorem Grew.below {gl base : Nat} {a b : World} {u v : Value} {l : List Mv} (h : Grew gl a b u v) (hs : MvSt a gl base u l) {B : Nat} (h1 : B ≤ gl) (h2 : B ≤ base) : Below B a b :=
  h.only.below_ (fun k hk => by
    rcases hk with rfl | hk
    · exact h1
    · exact Nat.le_trans h2 (hs.2.1.lt k hk).1) (Nat.le_trans h2 hs.2.2)
theorem MvSt.alloc {w : World} {gl base : Nat} {v : Value} {l : List Mv} (h : MvSt w gl base v l) (o : Obj) : MvSt (w.alloc o) gl base v l := ⟨h.1.alloc o, World.ownsRow.alloc h.2.1 o, Nat.le_trans h.2.2 (by simp)⟩
theorem MvSt.drewN {w : World} {gl base : Nat} {v : Value} {l : List Mv} (h : MvSt w gl base v l) (n : Nat) : MvSt (w.drewN n) gl base v l := h
theorem MvSt.drew {w : World} {gl base : Nat} {v : Value} {l : List Mv} (h : MvSt w gl base v l) : MvSt w.drew gl base v l := h
/-- worlds later than w, but for the variable's blocks: what was not the call's own stands -/
theorem MvSt.later {w w' : World} {gl base : Nat} {v : Value} {l : List Mv} (h : MvSt w gl base v l) (hw : Later w w') : MvSt w' gl base v l :=
  ⟨hw.blk h.1, ownsRow_only (S := fun k => w.heap.size ≤ k) h.2.1 (Only.of_below hw (fun _ _ hk => hk)) (fun g hg hk => by have := (h.2.1.lt g hg).2; omega), Nat.le_trans h.2.2 hw.size⟩
theorem Later.grew {w w' : World} {gl : Nat} {v : Value} (hw : Later w w') : Grew gl w w' v v := ⟨Only.of_below hw (fun k hk hk2 => by omega), fun _ h => .inl h⟩

theorem info_mv : (Tryz.prog.info? 101).map (fun i => (i.zero, i.size, i.bytes)) = some (some (.agg #[.int .i64 0, .int .i64 0, .int .u8 0]), 3, 24) := by kernel_rfl
def Pushed (W : World) (gl base : Nat) (v : Value) (l : List Mv) (e : Ending) (w' : World) : Prop :=
  e = .returned (.tuple #[]) ∧ ∃ v', MvSt w' gl base v' l ∧ Grew gl W w' v v'
set_option maxHeartbeats 1000000 in
set_option maxRecDepth 100000 in
theorem clo_push (a t : Int) (c : Nat) (wo : Int) (As : Option Addr) (n cs : Nat) (gl ga gp base : Nat) (v : Value) (l : List Mv) (W : World) (hs : MvSt W gl base v l) (hl : l.length < 1000000)
    (ha : Blk W ga 3 #[.int .i64 a]) (hp : Blk W gp 77 #[.int .u8 c, .int .i64 wo, .slice As n cs]) :
    Calls Tryz.prog 178 #[.int .i64 t, .pointer (some ⟨gl, 0, none⟩), .pointer (some ⟨ga, 0, none⟩), .pointer (some ⟨gp, 0, none⟩)] W (Pushed W gl base v (l ++ [⟨a, t, c⟩])) := by
  obtain ⟨i0, hi, hz0, hz1, hz2⟩ := info_parts info_mv
  have Hi := hide hi
  have Hz0 := hide hz0
  have Hz1 := hide hz1
  have Hz2 := hide hz2
  have Hs := hide hs
  have Hl := hide hl
  have l0 : W.cell? ⟨gl, 0, none⟩ = some v := hs.1.cellv (i := 0) rfl
  have l1 := hs.1.free 0
  have a0 : W.cell? ⟨ga, 0, none⟩ = some (.int .i64 a) := ha.cellv (i := 0) rfl
  have p0 : W.cell? ⟨gp, 0, none⟩ = some (.int .u8 c) := hp.cellv (i := 0) rfl
  have hgl := hs.1.lt
  have hown := hs.2.1
  unfold OwnM at hown
  have Hown := hide hown
  clear hi hz0 hz1 hz2 hs hl ha hp hown
  go_enter Tryz.func178, Tryz.ntmps178
  go_wp2_with (at_builtin; refine wpList_appendK _ rfl (.tmp 5) (.tmp 11) 111 rfl base 101 i0 (.agg #[.int .i64 0, .int .i64 0, .int .u8 0]) 3 24 Tryz.underlying111 Hi.out Hz0.out Hz1.out Hz2.out rfl (by decide) v l.length (cellsM l) rfl (World.ownsRow.alloc Hown.out _) [.int .i64 a, .int .i64 t, .int .u8 c] rfl W.heap.size 101 rfl (Blk.new W _ _) ?h1 ?h2 ?h3 ?h4 ?_)
  case h1 => simp [Value.oneCell']
  case h2 => have := Hl.out; unfold maxLen; omega
  case h3 => have := Hl.out; omega
  case h4 => exact Nat.le_trans Hs.out.2.2 (by simp)
  intro v' w1 hown1 hO hwh
  have Hb1 := hide (show Blk w1 gl 111 #[v] from (Hs.out.1.alloc (.cells #[.int .i64 a, .int .i64 t, .int .u8 c] 101)).only hO (own_ne Hown.out Hs.out.1 (by decide)))
  have Hg1 := hide (show Grew gl W w1 v v' from ⟨((Only.refl _ W).alloc (.cells #[.int .i64 a, .int .i64 t, .int .u8 c] 101)).trans' hO (fun k _ hk => .inr hk), fun k hk => by
    rcases hwh with h | h
    · exact .inl (by rw [← h]; exact hk)
    · rw [h] at hk; injection hk with hk; right; rw [← hk]; simp⟩)
  have Hbs := hide (show base ≤ w1.heap.size from Nat.le_trans Hs.out.2.2 Hg1.out.size)
  have m0 : w1.cell? ⟨gl, 0, none⟩ = some v := Hb1.out.cellv (i := 0) rfl
  have m1 := Hb1.out.free 0
  have hgl1 := Hb1.out.lt
  have Hown1 := hide hown1
  have Hne := hide (own_ne hown1 Hb1.out (by decide))
  obtain ⟨A', c', rfl, -, -, -⟩ := Cells.of_ownK hown1
  clear hown1 hO hwh l0 l1 a0 p0
  go_wp2_with fail
  refine bodyPost_end (results_none rfl _ _ _) rfl ?_
  refine ⟨rfl, _, ⟨Hb1.out.set_ 0 _, ?_, by simpa [World.setCell] using Hbs.out⟩, ?_⟩
  · unfold OwnM
    rw [cellsM_app, List.length_append]
    exact ownsRow_only (S := fun k => k = gl) Hown1.out (Only.setCell (p := ⟨gl, 0, none⟩) (Only.refl (fun k => k = gl) w1) (.inl rfl) _) (fun g hg hk => Hne.out (by rw [hg, hk]))
  · exact ⟨Hg1.out.only.setCell (.inl (.inl rfl)) _, Hg1.out.own⟩
end Go.Proofs.YtcdfeaodfmfdnaaGreatDoor
