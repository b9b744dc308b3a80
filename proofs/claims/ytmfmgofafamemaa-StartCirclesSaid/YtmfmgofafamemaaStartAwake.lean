/- surdlaw17.awake answers true. -/
import Derived.Test.YtmfmgofafamemaaPoints
import Derived.Test.YtmfmgofafamemaaCpx
namespace Go.Proofs.Ytmfmgofafamemaa
open Fl Go.RowKit
namespace StartAwake
theorem pt0 : ptK 1 0 0 = (4604697674178019892, 4604387081100270203) := by decide +kernel
theorem sub1 (w : World) : fop .sub 4604697674178019892 4604697674178019893 w = 13591863675404156928 := by
  rw [fop_eq_sub (by decide) (by decide) (by decide)]; decide +kernel
theorem sub2 (w : World) : fop .sub 4604387081100270203 4604387081100270204 w = 13591863675404156928 := by
  rw [fop_eq_sub (by decide) (by decide) (by decide)]; decide +kernel
theorem rg1 : rg 13591863675404156928 = 4368491638549381120 := by decide
theorem ord1 : (FloatKind.f64.format.order 4368491638549381120 4472406533629990549 == some Ordering.lt) = true := by decide +kernel
theorem absC (w : World) : Calls Try.prog 12 #[.float .f64 13591863675404156928] w fun e w' => e = .returned (.float .f64 4368491638549381120) ∧ w = w' := by
  have := abs_any 13591863675404156928 (by decide) w
  rwa [rg1] at this
end StartAwake
set_option maxRecDepth 100000 in
set_option maxHeartbeats 1000000 in
theorem awake17_any (w : World) :
    Calls Try.prog 13 #[] w fun e w' => e = .returned (.bool true) ∧ Below w.heap.size w w' := by
  go_enter Try.func13, Try.ntmps13
  go_wp2_with fail
  refine (points_ok 1 0 _ (by omega) (by omega) (by omega) (by omega)).mono ?_
  rintro e w1 ⟨g, rfl, ho, hb⟩
  have hc : w1.cell? ⟨g, 0, none⟩ = some (.complex .f64 4604697674178019892 4604387081100270203) := by
    rw [ho.cellAt 0 (by omega)]
    show some (cv (ptK 1 0 0)) = _
    rw [StartAwake.pt0]; rfl
  have s1 := StartAwake.sub1
  have s2 := StartAwake.sub2
  have o1 := StartAwake.ord1
  have HB := Lib.hid hb
  clear ho hb
  go_wp2_with fail
  refine (num_any _ _).mono ?_
  rintro e w' ⟨rfl, rfl⟩
  go_wp2_with fail
  all_goals
    refine (StartAwake.absC _).mono ?_
    rintro e w' ⟨rfl, rfl⟩
    go_wp2_with fail
    refine (StartAwake.absC _).mono ?_
    rintro e w' ⟨rfl, rfl⟩
    go_wp2_with fail
    go_ret
    first | exact ⟨rfl, HB.out⟩ | exact ⟨rfl, below_drewN HB.out _⟩ | exact ⟨rfl, HB.out.drew⟩
end Go.Proofs.Ytmfmgofafamemaa
