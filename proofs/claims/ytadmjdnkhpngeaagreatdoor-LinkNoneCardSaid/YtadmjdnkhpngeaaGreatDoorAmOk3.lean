/- Written by a program (wip/mkclaim.py): each function of the table is the program's function, part 3. -/
import Derived.Test.YtadmjdnkhpngeaaGreatDoorProg
import Derived.Test.YtadmjdnkhpngeaaGreatDoorAmExec
import Derived.Test.YtadmjdnkhpngeaaGreatDoorAmTable
import Derived.KernelRfl
namespace Go.Proofs.YtadmjdnkhpngeaaGreatDoor
open Go Go.Am
set_option maxRecDepth 100000
theorem ok6 : EntryOk Tryz.prog 6 a6 := ⟨Tryz.f6, Tryz.func6, by kernel_rfl, by kernel_rfl⟩
theorem ok10 : EntryOk Tryz.prog 10 a10 := ⟨Tryz.f10, Tryz.func10, by kernel_rfl, by kernel_rfl⟩
theorem ok14 : EntryOk Tryz.prog 14 a14 := ⟨Tryz.f14, Tryz.func14, by kernel_rfl, by kernel_rfl⟩
theorem ok18 : EntryOk Tryz.prog 18 a18 := ⟨Tryz.f18, Tryz.func18, by kernel_rfl, by kernel_rfl⟩
theorem ok22 : EntryOk Tryz.prog 22 a22 := ⟨Tryz.f22, Tryz.func22, by kernel_rfl, by kernel_rfl⟩
theorem ok26 : EntryOk Tryz.prog 26 a26 := ⟨Tryz.f26, Tryz.func26, by kernel_rfl, by kernel_rfl⟩
theorem ok30 : EntryOk Tryz.prog 30 a30 := ⟨Tryz.f30, Tryz.func30, by kernel_rfl, by kernel_rfl⟩
theorem ok34 : EntryOk Tryz.prog 34 a34 := ⟨Tryz.f34, Tryz.func34, by kernel_rfl, by kernel_rfl⟩
theorem ok38 : EntryOk Tryz.prog 38 a38 := ⟨Tryz.f38, Tryz.func38, by kernel_rfl, by kernel_rfl⟩
theorem ok42 : EntryOk Tryz.prog 42 a42 := ⟨Tryz.f42, Tryz.func42, by kernel_rfl, by kernel_rfl⟩
theorem ok46 : EntryOk Tryz.prog 46 a46 := ⟨Tryz.f46, Tryz.func46, by kernel_rfl, by kernel_rfl⟩
theorem ok50 : EntryOk Tryz.prog 50 a50 := ⟨Tryz.f50, Tryz.func50, by kernel_rfl, by kernel_rfl⟩
theorem ok54 : EntryOk Tryz.prog 54 a54 := ⟨Tryz.f54, Tryz.func54, by kernel_rfl, by kernel_rfl⟩
theorem ok58 : EntryOk Tryz.prog 58 a58 := ⟨Tryz.f58, Tryz.func58, by kernel_rfl, by kernel_rfl⟩
theorem ok62 : EntryOk Tryz.prog 62 a62 := ⟨Tryz.f62, Tryz.func62, by kernel_rfl, by kernel_rfl⟩
theorem ok66 : EntryOk Tryz.prog 66 a66 := ⟨Tryz.f66, Tryz.func66, by kernel_rfl, by kernel_rfl⟩
theorem ok70 : EntryOk Tryz.prog 70 a70 := ⟨Tryz.f70, Tryz.func70, by kernel_rfl, by kernel_rfl⟩
theorem ok74 : EntryOk Tryz.prog 74 a74 := ⟨Tryz.f74, Tryz.func74, by kernel_rfl, by kernel_rfl⟩
theorem ok78 : EntryOk Tryz.prog 78 a78 := ⟨Tryz.f78, Tryz.func78, by kernel_rfl, by kernel_rfl⟩
theorem ok82 : EntryOk Tryz.prog 82 a82 := ⟨Tryz.f82, Tryz.func82, by kernel_rfl, by kernel_rfl⟩
theorem ok86 : EntryOk Tryz.prog 86 a86 := ⟨Tryz.f86, Tryz.func86, by kernel_rfl, by kernel_rfl⟩
theorem ok90 : EntryOk Tryz.prog 90 a90 := ⟨Tryz.f90, Tryz.func90, by kernel_rfl, by kernel_rfl⟩
theorem ok94 : EntryOk Tryz.prog 94 a94 := ⟨Tryz.f94, Tryz.func94, by kernel_rfl, by kernel_rfl⟩
theorem ok98 : EntryOk Tryz.prog 98 a98 := ⟨Tryz.f98, Tryz.func98, by kernel_rfl, by kernel_rfl⟩
theorem ok102 : EntryOk Tryz.prog 102 a102 := ⟨Tryz.f102, Tryz.func102, by kernel_rfl, by kernel_rfl⟩
theorem ok106 : EntryOk Tryz.prog 106 a106 := ⟨Tryz.f106, Tryz.func106, by kernel_rfl, by kernel_rfl⟩
theorem ok110 : EntryOk Tryz.prog 110 a110 := ⟨Tryz.f110, Tryz.func110, by kernel_rfl, by kernel_rfl⟩
theorem ok114 : EntryOk Tryz.prog 114 a114 := ⟨Tryz.f114, Tryz.func114, by kernel_rfl, by kernel_rfl⟩
theorem ok118 : EntryOk Tryz.prog 118 a118 := ⟨Tryz.f118, Tryz.func118, by kernel_rfl, by kernel_rfl⟩
theorem ok122 : EntryOk Tryz.prog 122 a122 := ⟨Tryz.f122, Tryz.func122, by kernel_rfl, by kernel_rfl⟩
theorem ok126 : EntryOk Tryz.prog 126 a126 := ⟨Tryz.f126, Tryz.func126, by kernel_rfl, by kernel_rfl⟩
theorem ok130 : EntryOk Tryz.prog 130 a130 := ⟨Tryz.f130, Tryz.func130, by kernel_rfl, by kernel_rfl⟩
theorem ok134 : EntryOk Tryz.prog 134 a134 := ⟨Tryz.f134, Tryz.func134, by kernel_rfl, by kernel_rfl⟩
theorem ok138 : EntryOk Tryz.prog 138 a138 := ⟨Tryz.f138, Tryz.func138, by kernel_rfl, by kernel_rfl⟩
theorem ok142 : EntryOk Tryz.prog 142 a142 := ⟨Tryz.f142, Tryz.func142, by kernel_rfl, by kernel_rfl⟩
theorem ok146 : EntryOk Tryz.prog 146 a146 := ⟨Tryz.f146, Tryz.func146, by kernel_rfl, by kernel_rfl⟩
theorem ok150 : EntryOk Tryz.prog 150 a150 := ⟨Tryz.f150, Tryz.func150, by kernel_rfl, by kernel_rfl⟩
theorem ok154 : EntryOk Tryz.prog 154 a154 := ⟨Tryz.f154, Tryz.func154, by kernel_rfl, by kernel_rfl⟩
theorem ok158 : EntryOk Tryz.prog 158 a158 := ⟨Tryz.f158, Tryz.func158, by kernel_rfl, by kernel_rfl⟩
theorem ok162 : EntryOk Tryz.prog 162 a162 := ⟨Tryz.f162, Tryz.func162, by kernel_rfl, by kernel_rfl⟩
theorem ok166 : EntryOk Tryz.prog 166 a166 := ⟨Tryz.f166, Tryz.func166, by kernel_rfl, by kernel_rfl⟩
theorem ok170 : EntryOk Tryz.prog 170 a170 := ⟨Tryz.f170, Tryz.func170, by kernel_rfl, by kernel_rfl⟩
theorem ok174 : EntryOk Tryz.prog 174 a174 := ⟨Tryz.f174, Tryz.func174, by kernel_rfl, by kernel_rfl⟩
theorem ok178 : EntryOk Tryz.prog 178 a178 := ⟨Tryz.f178, Tryz.func178, by kernel_rfl, by kernel_rfl⟩
theorem ok182 : EntryOk Tryz.prog 182 a182 := ⟨Tryz.f182, Tryz.func182, by kernel_rfl, by kernel_rfl⟩
theorem ok186 : EntryOk Tryz.prog 186 a186 := ⟨Tryz.f186, Tryz.func186, by kernel_rfl, by kernel_rfl⟩
theorem ok190 : EntryOk Tryz.prog 190 a190 := ⟨Tryz.f190, Tryz.func190, by kernel_rfl, by kernel_rfl⟩
theorem ok194 : EntryOk Tryz.prog 194 a194 := ⟨Tryz.f194, Tryz.func194, by kernel_rfl, by kernel_rfl⟩
theorem ok198 : EntryOk Tryz.prog 198 a198 := ⟨Tryz.f198, Tryz.func198, by kernel_rfl, by kernel_rfl⟩
theorem ok202 : EntryOk Tryz.prog 202 a202 := ⟨Tryz.f202, Tryz.func202, by kernel_rfl, by kernel_rfl⟩
theorem ok206 : EntryOk Tryz.prog 206 a206 := ⟨Tryz.f206, Tryz.func206, by kernel_rfl, by kernel_rfl⟩
end Go.Proofs.YtadmjdnkhpngeaaGreatDoor
