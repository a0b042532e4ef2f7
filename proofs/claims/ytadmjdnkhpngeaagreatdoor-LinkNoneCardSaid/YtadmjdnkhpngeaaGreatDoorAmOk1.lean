/- Written by a program (wip/mkclaim.py): each function of the table is the program's function, part 1. -/
import Derived.Test.YtadmjdnkhpngeaaGreatDoorProg
import Derived.Test.YtadmjdnkhpngeaaGreatDoorAmExec
import Derived.Test.YtadmjdnkhpngeaaGreatDoorAmTable
import Derived.KernelRfl
namespace Go.Proofs.YtadmjdnkhpngeaaGreatDoor
open Go Go.Am
set_option maxRecDepth 100000
theorem ok4 : EntryOk Tryz.prog 4 a4 := ⟨Tryz.f4, Tryz.func4, by kernel_rfl, by kernel_rfl⟩
theorem ok8 : EntryOk Tryz.prog 8 a8 := ⟨Tryz.f8, Tryz.func8, by kernel_rfl, by kernel_rfl⟩
theorem ok12 : EntryOk Tryz.prog 12 a12 := ⟨Tryz.f12, Tryz.func12, by kernel_rfl, by kernel_rfl⟩
theorem ok16 : EntryOk Tryz.prog 16 a16 := ⟨Tryz.f16, Tryz.func16, by kernel_rfl, by kernel_rfl⟩
theorem ok20 : EntryOk Tryz.prog 20 a20 := ⟨Tryz.f20, Tryz.func20, by kernel_rfl, by kernel_rfl⟩
theorem ok24 : EntryOk Tryz.prog 24 a24 := ⟨Tryz.f24, Tryz.func24, by kernel_rfl, by kernel_rfl⟩
theorem ok28 : EntryOk Tryz.prog 28 a28 := ⟨Tryz.f28, Tryz.func28, by kernel_rfl, by kernel_rfl⟩
theorem ok32 : EntryOk Tryz.prog 32 a32 := ⟨Tryz.f32, Tryz.func32, by kernel_rfl, by kernel_rfl⟩
theorem ok36 : EntryOk Tryz.prog 36 a36 := ⟨Tryz.f36, Tryz.func36, by kernel_rfl, by kernel_rfl⟩
theorem ok40 : EntryOk Tryz.prog 40 a40 := ⟨Tryz.f40, Tryz.func40, by kernel_rfl, by kernel_rfl⟩
theorem ok44 : EntryOk Tryz.prog 44 a44 := ⟨Tryz.f44, Tryz.func44, by kernel_rfl, by kernel_rfl⟩
theorem ok48 : EntryOk Tryz.prog 48 a48 := ⟨Tryz.f48, Tryz.func48, by kernel_rfl, by kernel_rfl⟩
theorem ok52 : EntryOk Tryz.prog 52 a52 := ⟨Tryz.f52, Tryz.func52, by kernel_rfl, by kernel_rfl⟩
theorem ok56 : EntryOk Tryz.prog 56 a56 := ⟨Tryz.f56, Tryz.func56, by kernel_rfl, by kernel_rfl⟩
theorem ok60 : EntryOk Tryz.prog 60 a60 := ⟨Tryz.f60, Tryz.func60, by kernel_rfl, by kernel_rfl⟩
theorem ok64 : EntryOk Tryz.prog 64 a64 := ⟨Tryz.f64, Tryz.func64, by kernel_rfl, by kernel_rfl⟩
theorem ok68 : EntryOk Tryz.prog 68 a68 := ⟨Tryz.f68, Tryz.func68, by kernel_rfl, by kernel_rfl⟩
theorem ok72 : EntryOk Tryz.prog 72 a72 := ⟨Tryz.f72, Tryz.func72, by kernel_rfl, by kernel_rfl⟩
theorem ok76 : EntryOk Tryz.prog 76 a76 := ⟨Tryz.f76, Tryz.func76, by kernel_rfl, by kernel_rfl⟩
theorem ok80 : EntryOk Tryz.prog 80 a80 := ⟨Tryz.f80, Tryz.func80, by kernel_rfl, by kernel_rfl⟩
theorem ok84 : EntryOk Tryz.prog 84 a84 := ⟨Tryz.f84, Tryz.func84, by kernel_rfl, by kernel_rfl⟩
theorem ok88 : EntryOk Tryz.prog 88 a88 := ⟨Tryz.f88, Tryz.func88, by kernel_rfl, by kernel_rfl⟩
theorem ok92 : EntryOk Tryz.prog 92 a92 := ⟨Tryz.f92, Tryz.func92, by kernel_rfl, by kernel_rfl⟩
theorem ok96 : EntryOk Tryz.prog 96 a96 := ⟨Tryz.f96, Tryz.func96, by kernel_rfl, by kernel_rfl⟩
theorem ok100 : EntryOk Tryz.prog 100 a100 := ⟨Tryz.f100, Tryz.func100, by kernel_rfl, by kernel_rfl⟩
theorem ok104 : EntryOk Tryz.prog 104 a104 := ⟨Tryz.f104, Tryz.func104, by kernel_rfl, by kernel_rfl⟩
theorem ok108 : EntryOk Tryz.prog 108 a108 := ⟨Tryz.f108, Tryz.func108, by kernel_rfl, by kernel_rfl⟩
theorem ok112 : EntryOk Tryz.prog 112 a112 := ⟨Tryz.f112, Tryz.func112, by kernel_rfl, by kernel_rfl⟩
theorem ok116 : EntryOk Tryz.prog 116 a116 := ⟨Tryz.f116, Tryz.func116, by kernel_rfl, by kernel_rfl⟩
theorem ok120 : EntryOk Tryz.prog 120 a120 := ⟨Tryz.f120, Tryz.func120, by kernel_rfl, by kernel_rfl⟩
theorem ok124 : EntryOk Tryz.prog 124 a124 := ⟨Tryz.f124, Tryz.func124, by kernel_rfl, by kernel_rfl⟩
theorem ok128 : EntryOk Tryz.prog 128 a128 := ⟨Tryz.f128, Tryz.func128, by kernel_rfl, by kernel_rfl⟩
theorem ok132 : EntryOk Tryz.prog 132 a132 := ⟨Tryz.f132, Tryz.func132, by kernel_rfl, by kernel_rfl⟩
theorem ok136 : EntryOk Tryz.prog 136 a136 := ⟨Tryz.f136, Tryz.func136, by kernel_rfl, by kernel_rfl⟩
theorem ok140 : EntryOk Tryz.prog 140 a140 := ⟨Tryz.f140, Tryz.func140, by kernel_rfl, by kernel_rfl⟩
theorem ok144 : EntryOk Tryz.prog 144 a144 := ⟨Tryz.f144, Tryz.func144, by kernel_rfl, by kernel_rfl⟩
theorem ok148 : EntryOk Tryz.prog 148 a148 := ⟨Tryz.f148, Tryz.func148, by kernel_rfl, by kernel_rfl⟩
theorem ok152 : EntryOk Tryz.prog 152 a152 := ⟨Tryz.f152, Tryz.func152, by kernel_rfl, by kernel_rfl⟩
theorem ok156 : EntryOk Tryz.prog 156 a156 := ⟨Tryz.f156, Tryz.func156, by kernel_rfl, by kernel_rfl⟩
theorem ok160 : EntryOk Tryz.prog 160 a160 := ⟨Tryz.f160, Tryz.func160, by kernel_rfl, by kernel_rfl⟩
theorem ok164 : EntryOk Tryz.prog 164 a164 := ⟨Tryz.f164, Tryz.func164, by kernel_rfl, by kernel_rfl⟩
theorem ok168 : EntryOk Tryz.prog 168 a168 := ⟨Tryz.f168, Tryz.func168, by kernel_rfl, by kernel_rfl⟩
theorem ok172 : EntryOk Tryz.prog 172 a172 := ⟨Tryz.f172, Tryz.func172, by kernel_rfl, by kernel_rfl⟩
theorem ok176 : EntryOk Tryz.prog 176 a176 := ⟨Tryz.f176, Tryz.func176, by kernel_rfl, by kernel_rfl⟩
theorem ok180 : EntryOk Tryz.prog 180 a180 := ⟨Tryz.f180, Tryz.func180, by kernel_rfl, by kernel_rfl⟩
theorem ok184 : EntryOk Tryz.prog 184 a184 := ⟨Tryz.f184, Tryz.func184, by kernel_rfl, by kernel_rfl⟩
theorem ok188 : EntryOk Tryz.prog 188 a188 := ⟨Tryz.f188, Tryz.func188, by kernel_rfl, by kernel_rfl⟩
theorem ok192 : EntryOk Tryz.prog 192 a192 := ⟨Tryz.f192, Tryz.func192, by kernel_rfl, by kernel_rfl⟩
theorem ok196 : EntryOk Tryz.prog 196 a196 := ⟨Tryz.f196, Tryz.func196, by kernel_rfl, by kernel_rfl⟩
theorem ok200 : EntryOk Tryz.prog 200 a200 := ⟨Tryz.f200, Tryz.func200, by kernel_rfl, by kernel_rfl⟩
theorem ok204 : EntryOk Tryz.prog 204 a204 := ⟨Tryz.f204, Tryz.func204, by kernel_rfl, by kernel_rfl⟩
theorem ok208 : EntryOk Tryz.prog 208 a208 := ⟨Tryz.f208, Tryz.func208, by kernel_rfl, by kernel_rfl⟩
end Go.Proofs.YtadmjdnkhpngeaaGreatDoor
