/- gameref.every -/
import Derived.Test.YtdfegpohmaideaaEvPlain
import Derived.Test.YtdfegpohmaideaaMvAll
import Derived.Test.YtdfegpohmaideaaMvRGoes
namespace Go.Proofs.Ytdfegpohmaideaa
open Go.RowKit

/-- a row of the call's own that holds the moves L -/
structure EvS (W : World) (L : List Mv) (v : Value) (w : World) : Prop where
  own : OwnM w W.heap.size v L
  later : Later W w
theorem EvS.alloc {W w : World} {L : List Mv} {v : Value} (h : EvS W L v w) (o : Obj) : EvS W L v (w.alloc o) := ⟨World.ownsRow.alloc h.own o, h.later.alloc o⟩
theorem EvS.drewN {W w : World} {L : List Mv} {v : Value} (h : EvS W L v w) (n : Nat) : EvS W L v (w.drewN n) := ⟨h.own, h.later.drewN n⟩
theorem EvS.drew {W w : World} {L : List Mv} {v : Value} (h : EvS W L v w) : EvS W L v w.drew := ⟨h.own, h.later.drew⟩
theorem EvS.on {W w w' : World} {L : List Mv} {v : Value} (h : EvS W L v w) (hw : Later w w') : EvS W L v w' :=
  ⟨ownsRow_only (S := fun k => w.heap.size ≤ k) h.own (Only.of_below hw (fun _ _ hk => hk)) (fun g hg hk => by have := (h.own.lt g hg).2; omega), h.later.trans hw⟩
/-- one more move -/
theorem EvS.push {W w w' : World} {L : List Mv} {v v' : Value} {m : Mv} (h : EvS W L v w) (hown : w'.ownsRow W.heap.size 39 3 v' (L.length + 1) (cellsM L ++ [.int .i64 m.f, .int .i64 m.t, .int .u8 (m.c : Int)])) (hO : Only (fun k => v.ownBlock = some k) w w') : EvS W (L ++ [m]) v' w' :=
  ⟨by unfold OwnM; rw [cellsM_app, List.length_append]; exact hown, Below.trans h.later (hO.below_ (B := W.heap.size) (fun k hk => (h.own.lt k hk).1) h.later.size)⟩
theorem EvS.blk {W w w' : World} {L : List Mv} {v : Value} (h : EvS W L v w) (hO : Only (fun k => v.ownBlock = some k) w w') {g : Nat} {t : TypeId} {cs : Array Value} (hb : Blk w g t cs) (ht : t ≠ 39) : Blk w' g t cs := hb.only hO (own_ne h.own hb ht)
end Go.Proofs.Ytdfegpohmaideaa
