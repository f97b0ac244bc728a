/- Where a piece goes, plain: as the document's loop asks. -/
import Derived.Test.YtcdfeaodfmfdnaaGreatDoorMovesPlain
namespace Go.Proofs.YtcdfeaodfmfdnaaGreatDoor

instance (p : Pos) (w : WayD) (a t k : Nat) : Decidable (HitR p w a t k) := by unfold HitR; infer_instance
end Go.Proofs.YtcdfeaodfmfdnaaGreatDoor
