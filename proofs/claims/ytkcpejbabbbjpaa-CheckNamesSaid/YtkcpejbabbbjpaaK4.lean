/- A part of the proof: contracts over a program of the model. -/
import Derived.Test.YtkcpejbabbbjpaaS6
import Derived.Test.YtkcpejbabbbjpaaS4
namespace Go.Proofs.Ytkcpejbabbbjpaa
theorem sortC_try : SortC Try.prog 115 :=
  ⟨fun blk off cap zs w hH hblk hlen => by
    have := AnyM.slices_Sort_int Try.sortA blk off cap zs w hH hblk hlen
    exact this, fun p cap w => AnyM.slices_Sort_int_none Try.sortA p cap w⟩
end Go.Proofs.Ytkcpejbabbbjpaa

namespace Go.Proofs.Ytkcpejbabbbjpaa
def primC : CAL := orE (primSK 87 3 [116, 159]) (orE (primAll 127) (orE (primWho 129) (orE (primViews 124) (orE (primAhead 97) (primSV0 87 139)))))
theorem primC_ok : CalOk Try.prog primC := orE_ok prim_ok (orE_ok (primAll_ok sortC_try) (orE_ok (primWho_ok sortC_try) (orE_ok (primViews_ok sk159) (orE_ok (primAhead_ok sk159) (primSV0_ok sortC_try)))))
theorem names15 : PFn Try.prog 5 [] (vbool true) := closed (u := undef) (m := 100000) primC_ok (by kernel_rfl)
end Go.Proofs.Ytkcpejbabbbjpaa
