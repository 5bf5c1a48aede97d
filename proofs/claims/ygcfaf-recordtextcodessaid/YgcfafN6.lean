/- The seat's program fits the machine. -/
import Derived.Test.YgcfafN5
import Derived.Test.YgcfafM3
import Derived.WalkKit
namespace Go.Proofs.Ygcfaf.Mach
open Go
set_option maxRecDepth 100000

theorem mixed : Fafg.prog.follows .mixedOrders = true := by kernel_rfl
theorem tys_ok : tysB Fafg.prog tys = true := by kernel_rfl
theorem fok113 : FnOk Fafg.prog plans 113 Fafg.f113 := fnOk_of Fafg.func113 (by decide +kernel) (by kernel_rfl) (by kernel_rfl)
theorem fok114 : FnOk Fafg.prog plans 114 Fafg.f114 := fnOk_of Fafg.func114 (by decide +kernel) (by kernel_rfl) (by kernel_rfl)
theorem fok75 : FnOk Fafg.prog plans 75 Fafg.f75 := fnOk_of Fafg.func75 (by decide +kernel) (by kernel_rfl) (by kernel_rfl)
theorem fok76 : FnOk Fafg.prog plans 76 Fafg.f76 := fnOk_of Fafg.func76 (by decide +kernel) (by kernel_rfl) (by kernel_rfl)
theorem fok60 : FnOk Fafg.prog plans 60 Fafg.f60 := fnOk_of Fafg.func60 (by decide +kernel) (by kernel_rfl) (by kernel_rfl)
theorem fok34 : FnOk Fafg.prog plans 34 Fafg.f34 := fnOk_of Fafg.func34 (by decide +kernel) (by kernel_rfl) (by kernel_rfl)
theorem fok36 : FnOk Fafg.prog plans 36 Fafg.f36 := fnOk_of Fafg.func36 (by decide +kernel) (by kernel_rfl) (by kernel_rfl)
theorem fok176 : FnOk Fafg.prog plans 176 Fafg.f176 := fnOk_of Fafg.func176 (by decide +kernel) (by kernel_rfl) (by kernel_rfl)
theorem fok115 : FnOk Fafg.prog plans 115 Fafg.f115 := fnOk_of Fafg.func115 (by decide +kernel) (by kernel_rfl) (by kernel_rfl)
theorem fok119 : FnOk Fafg.prog plans 119 Fafg.f119 := fnOk_of Fafg.func119 (by decide +kernel) (by kernel_rfl) (by kernel_rfl)
theorem fok61 : FnOk Fafg.prog plans 61 Fafg.f61 := fnOk_of Fafg.func61 (by decide +kernel) (by kernel_rfl) (by kernel_rfl)
theorem fok5 : FnOk Fafg.prog plans 5 Fafg.f5 := fnOk_of Fafg.func5 (by decide +kernel) (by kernel_rfl) (by kernel_rfl)
theorem fok21 : FnOk Fafg.prog plans 21 Fafg.f21 := fnOk_of Fafg.func21 (by decide +kernel) (by kernel_rfl) (by kernel_rfl)
theorem fok22 : FnOk Fafg.prog plans 22 Fafg.f22 := fnOk_of Fafg.func22 (by decide +kernel) (by kernel_rfl) (by kernel_rfl)
theorem fok14 : FnOk Fafg.prog plans 14 Fafg.f14 := fnOk_of Fafg.func14 (by decide +kernel) (by kernel_rfl) (by kernel_rfl)
theorem fok45 : FnOk Fafg.prog plans 45 Fafg.f45 := fnOk_of Fafg.func45 (by decide +kernel) (by kernel_rfl) (by kernel_rfl)
theorem fok19 : FnOk Fafg.prog plans 19 Fafg.f19 := fnOk_of Fafg.func19 (by decide +kernel) (by kernel_rfl) (by kernel_rfl)
theorem fok35 : FnOk Fafg.prog plans 35 Fafg.f35 := fnOk_of Fafg.func35 (by decide +kernel) (by kernel_rfl) (by kernel_rfl)
theorem fok37 : FnOk Fafg.prog plans 37 Fafg.f37 := fnOk_of Fafg.func37 (by decide +kernel) (by kernel_rfl) (by kernel_rfl)
theorem fok77 : FnOk Fafg.prog plans 77 Fafg.f77 := fnOk_of Fafg.func77 (by decide +kernel) (by kernel_rfl) (by kernel_rfl)
theorem fok78 : FnOk Fafg.prog plans 78 Fafg.f78 := fnOk_of Fafg.func78 (by decide +kernel) (by kernel_rfl) (by kernel_rfl)
theorem fok41 : FnOk Fafg.prog plans 41 Fafg.f41 := fnOk_of Fafg.func41 (by decide +kernel) (by kernel_rfl) (by kernel_rfl)
theorem fok62 : FnOk Fafg.prog plans 62 Fafg.f62 := fnOk_of Fafg.func62 (by decide +kernel) (by kernel_rfl) (by kernel_rfl)
theorem fok63 : FnOk Fafg.prog plans 63 Fafg.f63 := fnOk_of Fafg.func63 (by decide +kernel) (by kernel_rfl) (by kernel_rfl)
theorem fok64 : FnOk Fafg.prog plans 64 Fafg.f64 := fnOk_of Fafg.func64 (by decide +kernel) (by kernel_rfl) (by kernel_rfl)
theorem fok120 : FnOk Fafg.prog plans 120 Fafg.f120 := fnOk_of Fafg.func120 (by decide +kernel) (by kernel_rfl) (by kernel_rfl)
theorem fok121 : FnOk Fafg.prog plans 121 Fafg.f121 := fnOk_of Fafg.func121 (by decide +kernel) (by kernel_rfl) (by kernel_rfl)
theorem fok70 : FnOk Fafg.prog plans 70 Fafg.f70 := fnOk_of Fafg.func70 (by decide +kernel) (by kernel_rfl) (by kernel_rfl)
theorem fok122 : FnOk Fafg.prog plans 122 Fafg.f122 := fnOk_of Fafg.func122 (by decide +kernel) (by kernel_rfl) (by kernel_rfl)
theorem fok123 : FnOk Fafg.prog plans 123 Fafg.f123 := fnOk_of Fafg.func123 (by decide +kernel) (by kernel_rfl) (by kernel_rfl)
theorem fok124 : FnOk Fafg.prog plans 124 Fafg.f124 := fnOk_of Fafg.func124 (by decide +kernel) (by kernel_rfl) (by kernel_rfl)
theorem fok69 : FnOk Fafg.prog plans 69 Fafg.f69 := fnOk_of Fafg.func69 (by decide +kernel) (by kernel_rfl) (by kernel_rfl)
theorem fok71 : FnOk Fafg.prog plans 71 Fafg.f71 := fnOk_of Fafg.func71 (by decide +kernel) (by kernel_rfl) (by kernel_rfl)
theorem fok72 : FnOk Fafg.prog plans 72 Fafg.f72 := fnOk_of Fafg.func72 (by decide +kernel) (by kernel_rfl) (by kernel_rfl)
theorem fok73 : FnOk Fafg.prog plans 73 Fafg.f73 := fnOk_of Fafg.func73 (by decide +kernel) (by kernel_rfl) (by kernel_rfl)
theorem fok106 : FnOk Fafg.prog plans 106 Fafg.f106 := fnOk_of Fafg.func106 (by decide +kernel) (by kernel_rfl) (by kernel_rfl)
theorem fok178 : FnOk Fafg.prog plans 178 Fafg.f178 := fnOk_of Fafg.func178 (by decide +kernel) (by kernel_rfl) (by kernel_rfl)
theorem fok179 : FnOk Fafg.prog plans 179 Fafg.f179 := fnOk_of Fafg.func179 (by decide +kernel) (by kernel_rfl) (by kernel_rfl)
theorem fok180 : FnOk Fafg.prog plans 180 Fafg.f180 := fnOk_of Fafg.func180 (by decide +kernel) (by kernel_rfl) (by kernel_rfl)
theorem fok181 : FnOk Fafg.prog plans 181 Fafg.f181 := fnOk_of Fafg.func181 (by decide +kernel) (by kernel_rfl) (by kernel_rfl)
theorem fok116 : FnOk Fafg.prog plans 116 Fafg.f116 := fnOk_of Fafg.func116 (by decide +kernel) (by kernel_rfl) (by kernel_rfl)
theorem fok27 : FnOk Fafg.prog plans 27 Fafg.f27 := fnOk_of Fafg.func27 (by decide +kernel) (by kernel_rfl) (by kernel_rfl)
theorem fok170 : FnOk Fafg.prog plans 170 Fafg.f170 := fnOk_of Fafg.func170 (by decide +kernel) (by kernel_rfl) (by kernel_rfl)
theorem fok110 : FnOk Fafg.prog plans 110 Fafg.f110 := fnOk_of Fafg.func110 (by decide +kernel) (by kernel_rfl) (by kernel_rfl)
theorem fok171 : FnOk Fafg.prog plans 171 Fafg.f171 := fnOk_of Fafg.func171 (by decide +kernel) (by kernel_rfl) (by kernel_rfl)
theorem fok172 : FnOk Fafg.prog plans 172 Fafg.f172 := fnOk_of Fafg.func172 (by decide +kernel) (by kernel_rfl) (by kernel_rfl)
theorem fok202 : FnOk Fafg.prog plans 202 Fafg.f202 := fnOk_of Fafg.func202 (by decide +kernel) (by kernel_rfl) (by kernel_rfl)
theorem fok177 : FnOk Fafg.prog plans 177 Fafg.f177 := fnOk_of Fafg.func177 (by decide +kernel) (by kernel_rfl) (by kernel_rfl)
theorem fok55 : FnOk Fafg.prog plans 55 Fafg.f55 := fnOk_of Fafg.func55 (by decide +kernel) (by kernel_rfl) (by kernel_rfl)
theorem fok56 : FnOk Fafg.prog plans 56 Fafg.f56 := fnOk_of Fafg.func56 (by decide +kernel) (by kernel_rfl) (by kernel_rfl)
theorem fok200 : FnOk Fafg.prog plans 200 Fafg.f200 := fnOk_of Fafg.func200 (by decide +kernel) (by kernel_rfl) (by kernel_rfl)
theorem fok111 : FnOk Fafg.prog plans 111 Fafg.f111 := fnOk_of Fafg.func111 (by decide +kernel) (by kernel_rfl) (by kernel_rfl)
theorem fok201 : FnOk Fafg.prog plans 201 Fafg.f201 := fnOk_of Fafg.func201 (by decide +kernel) (by kernel_rfl) (by kernel_rfl)
theorem fok175 : FnOk Fafg.prog plans 175 Fafg.f175 := fnOk_of Fafg.func175 (by decide +kernel) (by kernel_rfl) (by kernel_rfl)
theorem fns_ok : ∀ p ∈ fns, FnOk Fafg.prog plans p.1 p.2 :=
  List.forall_mem_cons.2 ⟨fok113, List.forall_mem_cons.2 ⟨fok114, List.forall_mem_cons.2 ⟨fok75, List.forall_mem_cons.2 ⟨fok76, List.forall_mem_cons.2 ⟨fok60, List.forall_mem_cons.2 ⟨fok34, List.forall_mem_cons.2 ⟨fok36, List.forall_mem_cons.2 ⟨fok176, List.forall_mem_cons.2 ⟨fok115, List.forall_mem_cons.2 ⟨fok119, List.forall_mem_cons.2 ⟨fok61, List.forall_mem_cons.2 ⟨fok5, List.forall_mem_cons.2 ⟨fok21, List.forall_mem_cons.2 ⟨fok22, List.forall_mem_cons.2 ⟨fok14, List.forall_mem_cons.2 ⟨fok45, List.forall_mem_cons.2 ⟨fok19, List.forall_mem_cons.2 ⟨fok35, List.forall_mem_cons.2 ⟨fok37, List.forall_mem_cons.2 ⟨fok77, List.forall_mem_cons.2 ⟨fok78, List.forall_mem_cons.2 ⟨fok41, List.forall_mem_cons.2 ⟨fok62, List.forall_mem_cons.2 ⟨fok63, List.forall_mem_cons.2 ⟨fok64, List.forall_mem_cons.2 ⟨fok120, List.forall_mem_cons.2 ⟨fok121, List.forall_mem_cons.2 ⟨fok70, List.forall_mem_cons.2 ⟨fok122, List.forall_mem_cons.2 ⟨fok123, List.forall_mem_cons.2 ⟨fok124, List.forall_mem_cons.2 ⟨fok69, List.forall_mem_cons.2 ⟨fok71, List.forall_mem_cons.2 ⟨fok72, List.forall_mem_cons.2 ⟨fok73, List.forall_mem_cons.2 ⟨fok106, List.forall_mem_cons.2 ⟨fok178, List.forall_mem_cons.2 ⟨fok179, List.forall_mem_cons.2 ⟨fok180, List.forall_mem_cons.2 ⟨fok181, List.forall_mem_cons.2 ⟨fok116, List.forall_mem_cons.2 ⟨fok27, List.forall_mem_cons.2 ⟨fok170, List.forall_mem_cons.2 ⟨fok110, List.forall_mem_cons.2 ⟨fok171, List.forall_mem_cons.2 ⟨fok172, List.forall_mem_cons.2 ⟨fok202, List.forall_mem_cons.2 ⟨fok177, List.forall_mem_cons.2 ⟨fok55, List.forall_mem_cons.2 ⟨fok56, List.forall_mem_cons.2 ⟨fok200, List.forall_mem_cons.2 ⟨fok111, List.forall_mem_cons.2 ⟨fok201, List.forall_mem_cons.2 ⟨fok175, fun p hp => by cases hp⟩⟩⟩⟩⟩⟩⟩⟩⟩⟩⟩⟩⟩⟩⟩⟩⟩⟩⟩⟩⟩⟩⟩⟩⟩⟩⟩⟩⟩⟩⟩⟩⟩⟩⟩⟩⟩⟩⟩⟩⟩⟩⟩⟩⟩⟩⟩⟩⟩⟩⟩⟩⟩⟩

theorem envOk {orc : Orc} (h : CallOk Fafg.prog fun _ g args h nx => orc g args h nx) : EnvOk (env orc) :=
  ⟨tysB_ok tys_ok, fun _ _ hl => fns_ok _ (look_mem hl), h, mixed⟩
end Go.Proofs.Ygcfaf.Mach
