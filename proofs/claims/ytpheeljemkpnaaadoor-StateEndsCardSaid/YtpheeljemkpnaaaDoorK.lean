import Derived.Test.YtpheeljemkpnaaaDoorC
namespace Go.Proofs.YtpheeljemkpnaaaDoor.AW
open Go.RowKit Go.Proofs.YtpheeljemkpnaaaDoorW.PrintWords

/-- Below the heap's size, w1 is as w was. -/
def Bel (w w1 : World) : Prop := Below w.heap.size w w1
theorem Bel.refl (w : World) : Bel w w := Below.refl _ _
theorem Bel.trans {a b c : World} (h : Bel a b) (k : Bel b c) : Bel a c := bel_trans h k
theorem Bel.alloc {a b : World} (h : Bel a b) (o : Obj) : Bel a (b.alloc o) := below_alloc h o
theorem Bel.drewN {a b : World} (h : Bel a b) (n : Nat) : Bel a (b.drewN n) := pw_below_drewN h n
theorem Bel.drew {a b : World} (h : Bel a b) : Bel a b.drew := below_drew h
theorem Bel.drawn {a b c : World} (h : Bel a b) (k : Drawn0 b c) : Bel a c := h.trans k.below
theorem Bel.out {a b : World} (h : Bel a b) : Below a.heap.size a b := h
theorem Bel.mk {a b : World} (h : Below a.heap.size a b) : Bel a b := h
end Go.Proofs.YtpheeljemkpnaaaDoor.AW
