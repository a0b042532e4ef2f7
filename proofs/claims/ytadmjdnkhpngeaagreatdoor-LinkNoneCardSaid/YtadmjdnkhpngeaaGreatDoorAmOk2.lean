/- Written by a program (wip/mkclaim.py): each function of the table is the program's function, part 2. -/
import Derived.Test.YtadmjdnkhpngeaaGreatDoorProg
import Derived.Test.YtadmjdnkhpngeaaGreatDoorAmExec
import Derived.Test.YtadmjdnkhpngeaaGreatDoorAmTable
import Derived.KernelRfl
namespace Go.Proofs.YtadmjdnkhpngeaaGreatDoor
open Go Go.Am
set_option maxRecDepth 100000
theorem ok5 : EntryOk Tryz.prog 5 a5 := ⟨Tryz.f5, Tryz.func5, by kernel_rfl, by kernel_rfl⟩
theorem ok9 : EntryOk Tryz.prog 9 a9 := ⟨Tryz.f9, Tryz.func9, by kernel_rfl, by kernel_rfl⟩
theorem ok13 : EntryOk Tryz.prog 13 a13 := ⟨Tryz.f13, Tryz.func13, by kernel_rfl, by kernel_rfl⟩
theorem ok17 : EntryOk Tryz.prog 17 a17 := ⟨Tryz.f17, Tryz.func17, by kernel_rfl, by kernel_rfl⟩
theorem ok21 : EntryOk Tryz.prog 21 a21 := ⟨Tryz.f21, Tryz.func21, by kernel_rfl, by kernel_rfl⟩
theorem ok25 : EntryOk Tryz.prog 25 a25 := ⟨Tryz.f25, Tryz.func25, by kernel_rfl, by kernel_rfl⟩
theorem ok29 : EntryOk Tryz.prog 29 a29 := ⟨Tryz.f29, Tryz.func29, by kernel_rfl, by kernel_rfl⟩
theorem ok33 : EntryOk Tryz.prog 33 a33 := ⟨Tryz.f33, Tryz.func33, by kernel_rfl, by kernel_rfl⟩
theorem ok37 : EntryOk Tryz.prog 37 a37 := ⟨Tryz.f37, Tryz.func37, by kernel_rfl, by kernel_rfl⟩
theorem ok41 : EntryOk Tryz.prog 41 a41 := ⟨Tryz.f41, Tryz.func41, by kernel_rfl, by kernel_rfl⟩
theorem ok45 : EntryOk Tryz.prog 45 a45 := ⟨Tryz.f45, Tryz.func45, by kernel_rfl, by kernel_rfl⟩
theorem ok49 : EntryOk Tryz.prog 49 a49 := ⟨Tryz.f49, Tryz.func49, by kernel_rfl, by kernel_rfl⟩
theorem ok53 : EntryOk Tryz.prog 53 a53 := ⟨Tryz.f53, Tryz.func53, by kernel_rfl, by kernel_rfl⟩
theorem ok57 : EntryOk Tryz.prog 57 a57 := ⟨Tryz.f57, Tryz.func57, by kernel_rfl, by kernel_rfl⟩
theorem ok61 : EntryOk Tryz.prog 61 a61 := ⟨Tryz.f61, Tryz.func61, by kernel_rfl, by kernel_rfl⟩
theorem ok65 : EntryOk Tryz.prog 65 a65 := ⟨Tryz.f65, Tryz.func65, by kernel_rfl, by kernel_rfl⟩
theorem ok69 : EntryOk Tryz.prog 69 a69 := ⟨Tryz.f69, Tryz.func69, by kernel_rfl, by kernel_rfl⟩
theorem ok73 : EntryOk Tryz.prog 73 a73 := ⟨Tryz.f73, Tryz.func73, by kernel_rfl, by kernel_rfl⟩
theorem ok77 : EntryOk Tryz.prog 77 a77 := ⟨Tryz.f77, Tryz.func77, by kernel_rfl, by kernel_rfl⟩
theorem ok81 : EntryOk Tryz.prog 81 a81 := ⟨Tryz.f81, Tryz.func81, by kernel_rfl, by kernel_rfl⟩
theorem ok85 : EntryOk Tryz.prog 85 a85 := ⟨Tryz.f85, Tryz.func85, by kernel_rfl, by kernel_rfl⟩
theorem ok89 : EntryOk Tryz.prog 89 a89 := ⟨Tryz.f89, Tryz.func89, by kernel_rfl, by kernel_rfl⟩
theorem ok93 : EntryOk Tryz.prog 93 a93 := ⟨Tryz.f93, Tryz.func93, by kernel_rfl, by kernel_rfl⟩
theorem ok97 : EntryOk Tryz.prog 97 a97 := ⟨Tryz.f97, Tryz.func97, by kernel_rfl, by kernel_rfl⟩
theorem ok101 : EntryOk Tryz.prog 101 a101 := ⟨Tryz.f101, Tryz.func101, by kernel_rfl, by kernel_rfl⟩
theorem ok105 : EntryOk Tryz.prog 105 a105 := ⟨Tryz.f105, Tryz.func105, by kernel_rfl, by kernel_rfl⟩
theorem ok109 : EntryOk Tryz.prog 109 a109 := ⟨Tryz.f109, Tryz.func109, by kernel_rfl, by kernel_rfl⟩
theorem ok113 : EntryOk Tryz.prog 113 a113 := ⟨Tryz.f113, Tryz.func113, by kernel_rfl, by kernel_rfl⟩
theorem ok117 : EntryOk Tryz.prog 117 a117 := ⟨Tryz.f117, Tryz.func117, by kernel_rfl, by kernel_rfl⟩
theorem ok121 : EntryOk Tryz.prog 121 a121 := ⟨Tryz.f121, Tryz.func121, by kernel_rfl, by kernel_rfl⟩
theorem ok125 : EntryOk Tryz.prog 125 a125 := ⟨Tryz.f125, Tryz.func125, by kernel_rfl, by kernel_rfl⟩
theorem ok129 : EntryOk Tryz.prog 129 a129 := ⟨Tryz.f129, Tryz.func129, by kernel_rfl, by kernel_rfl⟩
theorem ok133 : EntryOk Tryz.prog 133 a133 := ⟨Tryz.f133, Tryz.func133, by kernel_rfl, by kernel_rfl⟩
theorem ok137 : EntryOk Tryz.prog 137 a137 := ⟨Tryz.f137, Tryz.func137, by kernel_rfl, by kernel_rfl⟩
theorem ok141 : EntryOk Tryz.prog 141 a141 := ⟨Tryz.f141, Tryz.func141, by kernel_rfl, by kernel_rfl⟩
theorem ok145 : EntryOk Tryz.prog 145 a145 := ⟨Tryz.f145, Tryz.func145, by kernel_rfl, by kernel_rfl⟩
theorem ok149 : EntryOk Tryz.prog 149 a149 := ⟨Tryz.f149, Tryz.func149, by kernel_rfl, by kernel_rfl⟩
theorem ok153 : EntryOk Tryz.prog 153 a153 := ⟨Tryz.f153, Tryz.func153, by kernel_rfl, by kernel_rfl⟩
theorem ok157 : EntryOk Tryz.prog 157 a157 := ⟨Tryz.f157, Tryz.func157, by kernel_rfl, by kernel_rfl⟩
theorem ok161 : EntryOk Tryz.prog 161 a161 := ⟨Tryz.f161, Tryz.func161, by kernel_rfl, by kernel_rfl⟩
theorem ok165 : EntryOk Tryz.prog 165 a165 := ⟨Tryz.f165, Tryz.func165, by kernel_rfl, by kernel_rfl⟩
theorem ok169 : EntryOk Tryz.prog 169 a169 := ⟨Tryz.f169, Tryz.func169, by kernel_rfl, by kernel_rfl⟩
theorem ok173 : EntryOk Tryz.prog 173 a173 := ⟨Tryz.f173, Tryz.func173, by kernel_rfl, by kernel_rfl⟩
theorem ok177 : EntryOk Tryz.prog 177 a177 := ⟨Tryz.f177, Tryz.func177, by kernel_rfl, by kernel_rfl⟩
theorem ok181 : EntryOk Tryz.prog 181 a181 := ⟨Tryz.f181, Tryz.func181, by kernel_rfl, by kernel_rfl⟩
theorem ok185 : EntryOk Tryz.prog 185 a185 := ⟨Tryz.f185, Tryz.func185, by kernel_rfl, by kernel_rfl⟩
theorem ok189 : EntryOk Tryz.prog 189 a189 := ⟨Tryz.f189, Tryz.func189, by kernel_rfl, by kernel_rfl⟩
theorem ok193 : EntryOk Tryz.prog 193 a193 := ⟨Tryz.f193, Tryz.func193, by kernel_rfl, by kernel_rfl⟩
theorem ok197 : EntryOk Tryz.prog 197 a197 := ⟨Tryz.f197, Tryz.func197, by kernel_rfl, by kernel_rfl⟩
theorem ok201 : EntryOk Tryz.prog 201 a201 := ⟨Tryz.f201, Tryz.func201, by kernel_rfl, by kernel_rfl⟩
theorem ok205 : EntryOk Tryz.prog 205 a205 := ⟨Tryz.f205, Tryz.func205, by kernel_rfl, by kernel_rfl⟩
theorem ok230 : EntryOk Tryz.prog 230 a230 := ⟨Tryz.f230, Tryz.func230, by kernel_rfl, by kernel_rfl⟩
end Go.Proofs.YtadmjdnkhpngeaaGreatDoor
