/-
  CommKnown's answer, by a run of its code; internal/stringslite.Clone's answers (unsafe.String) are known by a walk of its own (printed by program).
-/
import Derived.Test.YtfbmffkgphgoaaaGreatDoorKAm36
import Derived.Test.YtfbmffkgphgoaaaGreatDoorKQwTab
import Derived.Test.YtfbmffkgphgoaaaGreatDoorKClo
import Derived.KernelRfl
namespace Go.Am
open Go.Proofs
set_option maxRecDepth 100000
def kn0 : Fr.Known := []
theorem kn0_ok : Fr.KnownOk Tryz.prog kn0 := Fr.KnownOk.nil
theorem kc0 (h : H) : Pure Tryz.prog 135 [.str [54, 53, 53, 51, 54]] h (.str [54, 53, 53, 51, 54]) := Go.Proofs.YtfbmffkgphgoaaaGreatDoor.clone_ct [54, 53, 53, 51, 54] (by decide) (by decide) h
def kn1 : Fr.Known := (135, [.str [54, 53, 53, 51, 54]], .str [54, 53, 53, 51, 54]) :: kn0
theorem kn1_ok : Fr.KnownOk Tryz.prog kn1 := Fr.KnownOk.cons kc0 kn0_ok
theorem kc1 (h : H) : Pure Tryz.prog 135 [.str [110, 111, 45, 69, 120, 112, 111, 114, 116]] h (.str [110, 111, 45, 69, 120, 112, 111, 114, 116]) := Go.Proofs.YtfbmffkgphgoaaaGreatDoor.clone_ct [110, 111, 45, 69, 120, 112, 111, 114, 116] (by decide) (by decide) h
def kn2 : Fr.Known := (135, [.str [110, 111, 45, 69, 120, 112, 111, 114, 116]], .str [110, 111, 45, 69, 120, 112, 111, 114, 116]) :: kn1
theorem kn2_ok : Fr.KnownOk Tryz.prog kn2 := Fr.KnownOk.cons kc1 kn1_ok
theorem kc2 (h : H) : Pure Tryz.prog 135 [.str [50, 58, 51]] h (.str [50, 58, 51]) := Go.Proofs.YtfbmffkgphgoaaaGreatDoor.clone_ct [50, 58, 51] (by decide) (by decide) h
def kn3 : Fr.Known := (135, [.str [50, 58, 51]], .str [50, 58, 51]) :: kn2
theorem kn3_ok : Fr.KnownOk Tryz.prog kn3 := Fr.KnownOk.cons kc2 kn2_ok
theorem kc3 (h : H) : Pure Tryz.prog 135 [.str [45, 49]] h (.str [45, 49]) := Go.Proofs.YtfbmffkgphgoaaaGreatDoor.clone_ct [45, 49] (by decide) (by decide) h
def kn4 : Fr.Known := (135, [.str [45, 49]], .str [45, 49]) :: kn3
theorem kn4_ok : Fr.KnownOk Tryz.prog kn4 := Fr.KnownOk.cons kc3 kn3_ok
theorem kc4 (h : H) : Pure Tryz.prog 135 [.str [32, 50]] h (.str [32, 50]) := Go.Proofs.YtfbmffkgphgoaaaGreatDoor.clone_ct [32, 50] (by decide) (by decide) h
def kn5 : Fr.Known := (135, [.str [32, 50]], .str [32, 50]) :: kn4
theorem kn5_ok : Fr.KnownOk Tryz.prog kn5 := Fr.KnownOk.cons kc4 kn4_ok
theorem cknown_ct (h : H) : Pure Tryz.prog 5 [] h (.bool true) := pure_run8 kn5_ok Fr.q.tab_ok (N := 100000) (d := 60) (by kernel_rfl) h
end Go.Am
