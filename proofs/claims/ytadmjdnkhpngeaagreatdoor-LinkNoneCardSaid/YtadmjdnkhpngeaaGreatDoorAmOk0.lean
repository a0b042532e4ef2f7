/- Written by a program (wip/mkclaim.py): each function of the table is the program's function, part 0. -/
import Derived.Test.YtadmjdnkhpngeaaGreatDoorProg
import Derived.Test.YtadmjdnkhpngeaaGreatDoorAmExec
import Derived.Test.YtadmjdnkhpngeaaGreatDoorAmTable
import Derived.KernelRfl
namespace Go.Proofs.YtadmjdnkhpngeaaGreatDoor
open Go Go.Am
set_option maxRecDepth 100000
theorem ok3 : EntryOk Tryz.prog 3 a3 := ⟨Tryz.f3, Tryz.func3, by kernel_rfl, by kernel_rfl⟩
theorem ok7 : EntryOk Tryz.prog 7 a7 := ⟨Tryz.f7, Tryz.func7, by kernel_rfl, by kernel_rfl⟩
theorem ok11 : EntryOk Tryz.prog 11 a11 := ⟨Tryz.f11, Tryz.func11, by kernel_rfl, by kernel_rfl⟩
theorem ok15 : EntryOk Tryz.prog 15 a15 := ⟨Tryz.f15, Tryz.func15, by kernel_rfl, by kernel_rfl⟩
theorem ok19 : EntryOk Tryz.prog 19 a19 := ⟨Tryz.f19, Tryz.func19, by kernel_rfl, by kernel_rfl⟩
theorem ok23 : EntryOk Tryz.prog 23 a23 := ⟨Tryz.f23, Tryz.func23, by kernel_rfl, by kernel_rfl⟩
theorem ok27 : EntryOk Tryz.prog 27 a27 := ⟨Tryz.f27, Tryz.func27, by kernel_rfl, by kernel_rfl⟩
theorem ok31 : EntryOk Tryz.prog 31 a31 := ⟨Tryz.f31, Tryz.func31, by kernel_rfl, by kernel_rfl⟩
theorem ok35 : EntryOk Tryz.prog 35 a35 := ⟨Tryz.f35, Tryz.func35, by kernel_rfl, by kernel_rfl⟩
theorem ok39 : EntryOk Tryz.prog 39 a39 := ⟨Tryz.f39, Tryz.func39, by kernel_rfl, by kernel_rfl⟩
theorem ok43 : EntryOk Tryz.prog 43 a43 := ⟨Tryz.f43, Tryz.func43, by kernel_rfl, by kernel_rfl⟩
theorem ok47 : EntryOk Tryz.prog 47 a47 := ⟨Tryz.f47, Tryz.func47, by kernel_rfl, by kernel_rfl⟩
theorem ok51 : EntryOk Tryz.prog 51 a51 := ⟨Tryz.f51, Tryz.func51, by kernel_rfl, by kernel_rfl⟩
theorem ok55 : EntryOk Tryz.prog 55 a55 := ⟨Tryz.f55, Tryz.func55, by kernel_rfl, by kernel_rfl⟩
theorem ok59 : EntryOk Tryz.prog 59 a59 := ⟨Tryz.f59, Tryz.func59, by kernel_rfl, by kernel_rfl⟩
theorem ok63 : EntryOk Tryz.prog 63 a63 := ⟨Tryz.f63, Tryz.func63, by kernel_rfl, by kernel_rfl⟩
theorem ok67 : EntryOk Tryz.prog 67 a67 := ⟨Tryz.f67, Tryz.func67, by kernel_rfl, by kernel_rfl⟩
theorem ok71 : EntryOk Tryz.prog 71 a71 := ⟨Tryz.f71, Tryz.func71, by kernel_rfl, by kernel_rfl⟩
theorem ok75 : EntryOk Tryz.prog 75 a75 := ⟨Tryz.f75, Tryz.func75, by kernel_rfl, by kernel_rfl⟩
theorem ok79 : EntryOk Tryz.prog 79 a79 := ⟨Tryz.f79, Tryz.func79, by kernel_rfl, by kernel_rfl⟩
theorem ok83 : EntryOk Tryz.prog 83 a83 := ⟨Tryz.f83, Tryz.func83, by kernel_rfl, by kernel_rfl⟩
theorem ok87 : EntryOk Tryz.prog 87 a87 := ⟨Tryz.f87, Tryz.func87, by kernel_rfl, by kernel_rfl⟩
theorem ok91 : EntryOk Tryz.prog 91 a91 := ⟨Tryz.f91, Tryz.func91, by kernel_rfl, by kernel_rfl⟩
theorem ok95 : EntryOk Tryz.prog 95 a95 := ⟨Tryz.f95, Tryz.func95, by kernel_rfl, by kernel_rfl⟩
theorem ok99 : EntryOk Tryz.prog 99 a99 := ⟨Tryz.f99, Tryz.func99, by kernel_rfl, by kernel_rfl⟩
theorem ok103 : EntryOk Tryz.prog 103 a103 := ⟨Tryz.f103, Tryz.func103, by kernel_rfl, by kernel_rfl⟩
theorem ok107 : EntryOk Tryz.prog 107 a107 := ⟨Tryz.f107, Tryz.func107, by kernel_rfl, by kernel_rfl⟩
theorem ok111 : EntryOk Tryz.prog 111 a111 := ⟨Tryz.f111, Tryz.func111, by kernel_rfl, by kernel_rfl⟩
theorem ok115 : EntryOk Tryz.prog 115 a115 := ⟨Tryz.f115, Tryz.func115, by kernel_rfl, by kernel_rfl⟩
theorem ok119 : EntryOk Tryz.prog 119 a119 := ⟨Tryz.f119, Tryz.func119, by kernel_rfl, by kernel_rfl⟩
theorem ok123 : EntryOk Tryz.prog 123 a123 := ⟨Tryz.f123, Tryz.func123, by kernel_rfl, by kernel_rfl⟩
theorem ok127 : EntryOk Tryz.prog 127 a127 := ⟨Tryz.f127, Tryz.func127, by kernel_rfl, by kernel_rfl⟩
theorem ok131 : EntryOk Tryz.prog 131 a131 := ⟨Tryz.f131, Tryz.func131, by kernel_rfl, by kernel_rfl⟩
theorem ok135 : EntryOk Tryz.prog 135 a135 := ⟨Tryz.f135, Tryz.func135, by kernel_rfl, by kernel_rfl⟩
theorem ok139 : EntryOk Tryz.prog 139 a139 := ⟨Tryz.f139, Tryz.func139, by kernel_rfl, by kernel_rfl⟩
theorem ok143 : EntryOk Tryz.prog 143 a143 := ⟨Tryz.f143, Tryz.func143, by kernel_rfl, by kernel_rfl⟩
theorem ok147 : EntryOk Tryz.prog 147 a147 := ⟨Tryz.f147, Tryz.func147, by kernel_rfl, by kernel_rfl⟩
theorem ok151 : EntryOk Tryz.prog 151 a151 := ⟨Tryz.f151, Tryz.func151, by kernel_rfl, by kernel_rfl⟩
theorem ok155 : EntryOk Tryz.prog 155 a155 := ⟨Tryz.f155, Tryz.func155, by kernel_rfl, by kernel_rfl⟩
theorem ok159 : EntryOk Tryz.prog 159 a159 := ⟨Tryz.f159, Tryz.func159, by kernel_rfl, by kernel_rfl⟩
theorem ok163 : EntryOk Tryz.prog 163 a163 := ⟨Tryz.f163, Tryz.func163, by kernel_rfl, by kernel_rfl⟩
theorem ok167 : EntryOk Tryz.prog 167 a167 := ⟨Tryz.f167, Tryz.func167, by kernel_rfl, by kernel_rfl⟩
theorem ok171 : EntryOk Tryz.prog 171 a171 := ⟨Tryz.f171, Tryz.func171, by kernel_rfl, by kernel_rfl⟩
theorem ok175 : EntryOk Tryz.prog 175 a175 := ⟨Tryz.f175, Tryz.func175, by kernel_rfl, by kernel_rfl⟩
theorem ok179 : EntryOk Tryz.prog 179 a179 := ⟨Tryz.f179, Tryz.func179, by kernel_rfl, by kernel_rfl⟩
theorem ok183 : EntryOk Tryz.prog 183 a183 := ⟨Tryz.f183, Tryz.func183, by kernel_rfl, by kernel_rfl⟩
theorem ok187 : EntryOk Tryz.prog 187 a187 := ⟨Tryz.f187, Tryz.func187, by kernel_rfl, by kernel_rfl⟩
theorem ok191 : EntryOk Tryz.prog 191 a191 := ⟨Tryz.f191, Tryz.func191, by kernel_rfl, by kernel_rfl⟩
theorem ok195 : EntryOk Tryz.prog 195 a195 := ⟨Tryz.f195, Tryz.func195, by kernel_rfl, by kernel_rfl⟩
theorem ok199 : EntryOk Tryz.prog 199 a199 := ⟨Tryz.f199, Tryz.func199, by kernel_rfl, by kernel_rfl⟩
theorem ok203 : EntryOk Tryz.prog 203 a203 := ⟨Tryz.f203, Tryz.func203, by kernel_rfl, by kernel_rfl⟩
theorem ok207 : EntryOk Tryz.prog 207 a207 := ⟨Tryz.f207, Tryz.func207, by kernel_rfl, by kernel_rfl⟩
end Go.Proofs.YtadmjdnkhpngeaaGreatDoor
