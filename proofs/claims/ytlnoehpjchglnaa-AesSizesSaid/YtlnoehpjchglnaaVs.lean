/- The types of the program, as the verifier takes them (written by gen_types.py). No condition. -/
import Derived.Test.YtlnoehpjchglnaaVu
import Derived.Test.YtlnoehpjchglnaaProg
import Derived.ProofKit
set_option linter.unusedSimpArgs false
set_option linter.unusedVariables false
namespace Go.V
open Go Go.Proofs.Try

def ty1 : Ty := ⟨.func, 1, 8, .s (.raw .nilFunc)⟩
theorem tyOK1 : TyOK prog 1 ty1 := ⟨by kernel_rfl, by kernel_rfl, by kernel_rfl, True.intro, ⟨_, _, _, underlying1⟩⟩
def ty2 : Ty := ⟨.int .i64, 1, 8, .s (.i 0)⟩
theorem tyOK2 : TyOK prog 2 ty2 := ⟨by kernel_rfl, by kernel_rfl, by kernel_rfl, True.intro, underlying2⟩
def ty3 : Ty := ⟨.int .i64, 1, 8, .s (.i 0)⟩
theorem tyOK3 : TyOK prog 3 ty3 := ⟨by kernel_rfl, by kernel_rfl, by kernel_rfl, True.intro, underlying3⟩
def ty4 : Ty := ⟨.bool, 1, 1, .s (.b false)⟩
theorem tyOK4 : TyOK prog 4 ty4 := ⟨by kernel_rfl, by kernel_rfl, by kernel_rfl, True.intro, underlying4⟩
def ty5 : Ty := ⟨.int .u8, 1, 1, .s (.u8 0)⟩
theorem tyOK5 : TyOK prog 5 ty5 := ⟨by kernel_rfl, by kernel_rfl, by kernel_rfl, True.intro, underlying5⟩
def ty6 : Ty := ⟨.int .u8, 1, 1, .s (.u8 0)⟩
theorem tyOK6 : TyOK prog 6 ty6 := ⟨by kernel_rfl, by kernel_rfl, by kernel_rfl, True.intro, underlying6⟩
def ty7 : Ty := ⟨.struct [(0, 2), (1, 3), (2, 4), (3, 6)], 4, 24, .st [⟨1, .s (.i 0)⟩, ⟨1, .s (.i 0)⟩, ⟨1, .s (.b false)⟩, ⟨1, .s (.u8 0)⟩]⟩
theorem tyOK7 : TyOK prog 7 ty7 := ⟨by kernel_rfl, by kernel_rfl, by kernel_rfl, ⟨rfl, rfl, rfl, rfl, True.intro⟩, ⟨_, underlying7, rfl, by kernel_rfl⟩⟩
def ty8 : Ty := ⟨.struct [(0, 2), (1, 3), (2, 4), (3, 6)], 4, 24, .st [⟨1, .s (.i 0)⟩, ⟨1, .s (.i 0)⟩, ⟨1, .s (.b false)⟩, ⟨1, .s (.u8 0)⟩]⟩
theorem tyOK8 : TyOK prog 8 ty8 := ⟨by kernel_rfl, by kernel_rfl, by kernel_rfl, ⟨rfl, rfl, rfl, rfl, True.intro⟩, ⟨_, underlying8, rfl, by kernel_rfl⟩⟩
def ty9 : Ty := ⟨.str, 1, 16, .s (.str [])⟩
theorem tyOK9 : TyOK prog 9 ty9 := ⟨by kernel_rfl, by kernel_rfl, by kernel_rfl, True.intro, underlying9⟩
def ty10 : Ty := ⟨.str, 1, 16, .s (.str [])⟩
theorem tyOK10 : TyOK prog 10 ty10 := ⟨by kernel_rfl, by kernel_rfl, by kernel_rfl, True.intro, underlying10⟩
def ty11 : Ty := ⟨.str, 1, 16, .s (.str [])⟩
theorem tyOK11 : TyOK prog 11 ty11 := ⟨by kernel_rfl, by kernel_rfl, by kernel_rfl, True.intro, underlying11⟩
def ty12 : Ty := ⟨.int .u64, 1, 8, .s (.u64 0)⟩
theorem tyOK12 : TyOK prog 12 ty12 := ⟨by kernel_rfl, by kernel_rfl, by kernel_rfl, True.intro, underlying12⟩
def ty13 : Ty := ⟨.struct [(0, 9), (1, 12)], 2, 24, .st [⟨1, .s (.str [])⟩, ⟨1, .s (.u64 0)⟩]⟩
theorem tyOK13 : TyOK prog 13 ty13 := ⟨by kernel_rfl, by kernel_rfl, by kernel_rfl, ⟨rfl, rfl, True.intro⟩, ⟨_, underlying13, rfl, by kernel_rfl⟩⟩
def ty14 : Ty := ⟨.struct [(0, 9), (1, 12)], 2, 24, .st [⟨1, .s (.str [])⟩, ⟨1, .s (.u64 0)⟩]⟩
theorem tyOK14 : TyOK prog 14 ty14 := ⟨by kernel_rfl, by kernel_rfl, by kernel_rfl, ⟨rfl, rfl, True.intro⟩, ⟨_, underlying14, rfl, by kernel_rfl⟩⟩
def ty15 : Ty := ⟨.ptr 178, 1, 8, .s (.nil)⟩
theorem tyOK15 : TyOK prog 15 ty15 := ⟨by kernel_rfl, by kernel_rfl, by kernel_rfl, True.intro, underlying15⟩
def ty16 : Ty := ⟨.ptr 181, 1, 8, .s (.nil)⟩
theorem tyOK16 : TyOK prog 16 ty16 := ⟨by kernel_rfl, by kernel_rfl, by kernel_rfl, True.intro, underlying16⟩
def ty17 : Ty := ⟨.ptr 189, 1, 8, .s (.nil)⟩
theorem tyOK17 : TyOK prog 17 ty17 := ⟨by kernel_rfl, by kernel_rfl, by kernel_rfl, True.intro, underlying17⟩
def ty18 : Ty := ⟨.struct [(0, 17)], 1, 8, .st [⟨1, .s (.nil)⟩]⟩
theorem tyOK18 : TyOK prog 18 ty18 := ⟨by kernel_rfl, by kernel_rfl, by kernel_rfl, ⟨rfl, True.intro⟩, ⟨_, underlying18, rfl, by kernel_rfl⟩⟩
def ty19 : Ty := ⟨.struct [(0, 17)], 1, 8, .st [⟨1, .s (.nil)⟩]⟩
theorem tyOK19 : TyOK prog 19 ty19 := ⟨by kernel_rfl, by kernel_rfl, by kernel_rfl, ⟨rfl, True.intro⟩, ⟨_, underlying19, rfl, by kernel_rfl⟩⟩
def ty20 : Ty := ⟨.iface, 1, 16, .s (.inil)⟩
theorem tyOK20 : TyOK prog 20 ty20 := ⟨by kernel_rfl, by kernel_rfl, by kernel_rfl, True.intro, ⟨_, underlying20⟩⟩
def ty22 : Ty := ⟨.sl 5, 1, 24, .s (.snil)⟩
theorem tyOK22 : TyOK prog 22 ty22 := ⟨by kernel_rfl, by kernel_rfl, by kernel_rfl, True.intro, underlying22⟩
def ty23 : Ty := ⟨.arr 16 5, 16, 16, .a8 [0, 0, 0, 0, 0, 0, 0, 0, 0, 0, 0, 0, 0, 0, 0, 0]⟩
theorem tyOK23 : TyOK prog 23 ty23 := ⟨by kernel_rfl, by kernel_rfl, by kernel_rfl, True.intro, underlying23⟩
def ty24 : Ty := ⟨.func, 1, 8, .s (.raw .nilFunc)⟩
theorem tyOK24 : TyOK prog 24 ty24 := ⟨by kernel_rfl, by kernel_rfl, by kernel_rfl, True.intro, ⟨_, _, _, underlying24⟩⟩
def ty25 : Ty := ⟨.ptr 105, 1, 8, .s (.nil)⟩
theorem tyOK25 : TyOK prog 25 ty25 := ⟨by kernel_rfl, by kernel_rfl, by kernel_rfl, True.intro, underlying25⟩
def ty26 : Ty := ⟨.int .i64, 1, 8, .s (.i 0)⟩
theorem tyOK26 : TyOK prog 26 ty26 := ⟨by kernel_rfl, by kernel_rfl, by kernel_rfl, True.intro, underlying26⟩
def ty28 : Ty := ⟨.func, 1, 8, .s (.raw .nilFunc)⟩
theorem tyOK28 : TyOK prog 28 ty28 := ⟨by kernel_rfl, by kernel_rfl, by kernel_rfl, True.intro, ⟨_, _, _, underlying28⟩⟩
def ty29 : Ty := ⟨.ptr 110, 1, 8, .s (.nil)⟩
theorem tyOK29 : TyOK prog 29 ty29 := ⟨by kernel_rfl, by kernel_rfl, by kernel_rfl, True.intro, underlying29⟩
def ty30 : Ty := ⟨.func, 1, 8, .s (.raw .nilFunc)⟩
theorem tyOK30 : TyOK prog 30 ty30 := ⟨by kernel_rfl, by kernel_rfl, by kernel_rfl, True.intro, ⟨_, _, _, underlying30⟩⟩
def ty31 : Ty := ⟨.func, 1, 8, .s (.raw .nilFunc)⟩
theorem tyOK31 : TyOK prog 31 ty31 := ⟨by kernel_rfl, by kernel_rfl, by kernel_rfl, True.intro, ⟨_, _, _, underlying31⟩⟩
def ty32 : Ty := ⟨.func, 1, 8, .s (.raw .nilFunc)⟩
theorem tyOK32 : TyOK prog 32 ty32 := ⟨by kernel_rfl, by kernel_rfl, by kernel_rfl, True.intro, ⟨_, _, _, underlying32⟩⟩
def ty33 : Ty := ⟨.func, 1, 8, .s (.raw .nilFunc)⟩
theorem tyOK33 : TyOK prog 33 ty33 := ⟨by kernel_rfl, by kernel_rfl, by kernel_rfl, True.intro, ⟨_, _, _, underlying33⟩⟩
def ty34 : Ty := ⟨.func, 1, 8, .s (.raw .nilFunc)⟩
theorem tyOK34 : TyOK prog 34 ty34 := ⟨by kernel_rfl, by kernel_rfl, by kernel_rfl, True.intro, ⟨_, _, _, underlying34⟩⟩
def ty35 : Ty := ⟨.func, 1, 8, .s (.raw .nilFunc)⟩
theorem tyOK35 : TyOK prog 35 ty35 := ⟨by kernel_rfl, by kernel_rfl, by kernel_rfl, True.intro, ⟨_, _, _, underlying35⟩⟩
def ty36 : Ty := ⟨.func, 1, 8, .s (.raw .nilFunc)⟩
theorem tyOK36 : TyOK prog 36 ty36 := ⟨by kernel_rfl, by kernel_rfl, by kernel_rfl, True.intro, ⟨_, _, _, underlying36⟩⟩
def ty37 : Ty := ⟨.struct [(0, 22), (1, 22), (2, 22), (3, 22)], 4, 96, .st [⟨1, .s (.snil)⟩, ⟨1, .s (.snil)⟩, ⟨1, .s (.snil)⟩, ⟨1, .s (.snil)⟩]⟩
theorem tyOK37 : TyOK prog 37 ty37 := ⟨by kernel_rfl, by kernel_rfl, by kernel_rfl, ⟨rfl, rfl, rfl, rfl, True.intro⟩, ⟨_, underlying37, rfl, by kernel_rfl⟩⟩
def ty38 : Ty := ⟨.struct [(0, 22), (1, 22), (2, 22), (3, 22)], 4, 96, .st [⟨1, .s (.snil)⟩, ⟨1, .s (.snil)⟩, ⟨1, .s (.snil)⟩, ⟨1, .s (.snil)⟩]⟩
theorem tyOK38 : TyOK prog 38 ty38 := ⟨by kernel_rfl, by kernel_rfl, by kernel_rfl, ⟨rfl, rfl, rfl, rfl, True.intro⟩, ⟨_, underlying38, rfl, by kernel_rfl⟩⟩
def ty40 : Ty := ⟨.func, 1, 8, .s (.raw .nilFunc)⟩
theorem tyOK40 : TyOK prog 40 ty40 := ⟨by kernel_rfl, by kernel_rfl, by kernel_rfl, True.intro, ⟨_, _, _, underlying40⟩⟩
def ty41 : Ty := ⟨.func, 1, 8, .s (.raw .nilFunc)⟩
theorem tyOK41 : TyOK prog 41 ty41 := ⟨by kernel_rfl, by kernel_rfl, by kernel_rfl, True.intro, ⟨_, _, _, underlying41⟩⟩
def ty42 : Ty := ⟨.func, 1, 8, .s (.raw .nilFunc)⟩
theorem tyOK42 : TyOK prog 42 ty42 := ⟨by kernel_rfl, by kernel_rfl, by kernel_rfl, True.intro, ⟨_, _, _, underlying42⟩⟩
def ty43 : Ty := ⟨.func, 1, 8, .s (.raw .nilFunc)⟩
theorem tyOK43 : TyOK prog 43 ty43 := ⟨by kernel_rfl, by kernel_rfl, by kernel_rfl, True.intro, ⟨_, _, _, underlying43⟩⟩
def ty44 : Ty := ⟨.func, 1, 8, .s (.raw .nilFunc)⟩
theorem tyOK44 : TyOK prog 44 ty44 := ⟨by kernel_rfl, by kernel_rfl, by kernel_rfl, True.intro, ⟨_, _, _, underlying44⟩⟩
def ty45 : Ty := ⟨.int .u64, 1, 8, .s (.u64 0)⟩
theorem tyOK45 : TyOK prog 45 ty45 := ⟨by kernel_rfl, by kernel_rfl, by kernel_rfl, True.intro, underlying45⟩
def ty46 : Ty := ⟨.struct [(0, 3), (1, 22), (2, 22), (3, 22), (4, 22), (5, 45)], 6, 112, .st [⟨1, .s (.i 0)⟩, ⟨1, .s (.snil)⟩, ⟨1, .s (.snil)⟩, ⟨1, .s (.snil)⟩, ⟨1, .s (.snil)⟩, ⟨1, .s (.u64 0)⟩]⟩
theorem tyOK46 : TyOK prog 46 ty46 := ⟨by kernel_rfl, by kernel_rfl, by kernel_rfl, ⟨rfl, rfl, rfl, rfl, rfl, rfl, True.intro⟩, ⟨_, underlying46, rfl, by kernel_rfl⟩⟩
def ty47 : Ty := ⟨.struct [(0, 3), (1, 22), (2, 22), (3, 22), (4, 22), (5, 45)], 6, 112, .st [⟨1, .s (.i 0)⟩, ⟨1, .s (.snil)⟩, ⟨1, .s (.snil)⟩, ⟨1, .s (.snil)⟩, ⟨1, .s (.snil)⟩, ⟨1, .s (.u64 0)⟩]⟩
theorem tyOK47 : TyOK prog 47 ty47 := ⟨by kernel_rfl, by kernel_rfl, by kernel_rfl, ⟨rfl, rfl, rfl, rfl, rfl, rfl, True.intro⟩, ⟨_, underlying47, rfl, by kernel_rfl⟩⟩
def ty48 : Ty := ⟨.ptr 133, 1, 8, .s (.nil)⟩
theorem tyOK48 : TyOK prog 48 ty48 := ⟨by kernel_rfl, by kernel_rfl, by kernel_rfl, True.intro, underlying48⟩
def ty50 : Ty := ⟨.func, 1, 8, .s (.raw .nilFunc)⟩
theorem tyOK50 : TyOK prog 50 ty50 := ⟨by kernel_rfl, by kernel_rfl, by kernel_rfl, True.intro, ⟨_, _, _, underlying50⟩⟩
def ty51 : Ty := ⟨.func, 1, 8, .s (.raw .nilFunc)⟩
theorem tyOK51 : TyOK prog 51 ty51 := ⟨by kernel_rfl, by kernel_rfl, by kernel_rfl, True.intro, ⟨_, _, _, underlying51⟩⟩
def ty52 : Ty := ⟨.func, 1, 8, .s (.raw .nilFunc)⟩
theorem tyOK52 : TyOK prog 52 ty52 := ⟨by kernel_rfl, by kernel_rfl, by kernel_rfl, True.intro, ⟨_, _, _, underlying52⟩⟩
def ty53 : Ty := ⟨.func, 1, 8, .s (.raw .nilFunc)⟩
theorem tyOK53 : TyOK prog 53 ty53 := ⟨by kernel_rfl, by kernel_rfl, by kernel_rfl, True.intro, ⟨_, _, _, underlying53⟩⟩
def ty54 : Ty := ⟨.func, 1, 8, .s (.raw .nilFunc)⟩
theorem tyOK54 : TyOK prog 54 ty54 := ⟨by kernel_rfl, by kernel_rfl, by kernel_rfl, True.intro, ⟨_, _, _, underlying54⟩⟩
def ty55 : Ty := ⟨.func, 1, 8, .s (.raw .nilFunc)⟩
theorem tyOK55 : TyOK prog 55 ty55 := ⟨by kernel_rfl, by kernel_rfl, by kernel_rfl, True.intro, ⟨_, _, _, underlying55⟩⟩
def ty56 : Ty := ⟨.func, 1, 8, .s (.raw .nilFunc)⟩
theorem tyOK56 : TyOK prog 56 ty56 := ⟨by kernel_rfl, by kernel_rfl, by kernel_rfl, True.intro, ⟨_, _, _, underlying56⟩⟩
def ty57 : Ty := ⟨.struct [(0, 3), (1, 22), (2, 22)], 3, 56, .st [⟨1, .s (.i 0)⟩, ⟨1, .s (.snil)⟩, ⟨1, .s (.snil)⟩]⟩
theorem tyOK57 : TyOK prog 57 ty57 := ⟨by kernel_rfl, by kernel_rfl, by kernel_rfl, ⟨rfl, rfl, rfl, True.intro⟩, ⟨_, underlying57, rfl, by kernel_rfl⟩⟩
def ty58 : Ty := ⟨.struct [(0, 3), (1, 22), (2, 22)], 3, 56, .st [⟨1, .s (.i 0)⟩, ⟨1, .s (.snil)⟩, ⟨1, .s (.snil)⟩]⟩
theorem tyOK58 : TyOK prog 58 ty58 := ⟨by kernel_rfl, by kernel_rfl, by kernel_rfl, ⟨rfl, rfl, rfl, True.intro⟩, ⟨_, underlying58, rfl, by kernel_rfl⟩⟩
def ty59 : Ty := ⟨.func, 1, 8, .s (.raw .nilFunc)⟩
theorem tyOK59 : TyOK prog 59 ty59 := ⟨by kernel_rfl, by kernel_rfl, by kernel_rfl, True.intro, ⟨_, _, _, underlying59⟩⟩
def ty60 : Ty := ⟨.func, 1, 8, .s (.raw .nilFunc)⟩
theorem tyOK60 : TyOK prog 60 ty60 := ⟨by kernel_rfl, by kernel_rfl, by kernel_rfl, True.intro, ⟨_, _, _, underlying60⟩⟩
def ty61 : Ty := ⟨.sl 22, 1, 24, .s (.snil)⟩
theorem tyOK61 : TyOK prog 61 ty61 := ⟨by kernel_rfl, by kernel_rfl, by kernel_rfl, True.intro, underlying61⟩
def ty63 : Ty := ⟨.func, 1, 8, .s (.raw .nilFunc)⟩
theorem tyOK63 : TyOK prog 63 ty63 := ⟨by kernel_rfl, by kernel_rfl, by kernel_rfl, True.intro, ⟨_, _, _, underlying63⟩⟩
def ty64 : Ty := ⟨.func, 1, 8, .s (.raw .nilFunc)⟩
theorem tyOK64 : TyOK prog 64 ty64 := ⟨by kernel_rfl, by kernel_rfl, by kernel_rfl, True.intro, ⟨_, _, _, underlying64⟩⟩
def ty65 : Ty := ⟨.sl 80, 1, 24, .s (.snil)⟩
theorem tyOK65 : TyOK prog 65 ty65 := ⟨by kernel_rfl, by kernel_rfl, by kernel_rfl, True.intro, underlying65⟩
def ty66 : Ty := ⟨.func, 1, 8, .s (.raw .nilFunc)⟩
theorem tyOK66 : TyOK prog 66 ty66 := ⟨by kernel_rfl, by kernel_rfl, by kernel_rfl, True.intro, ⟨_, _, _, underlying66⟩⟩
def ty77 : Ty := ⟨.func, 1, 8, .s (.raw .nilFunc)⟩
theorem tyOK77 : TyOK prog 77 ty77 := ⟨by kernel_rfl, by kernel_rfl, by kernel_rfl, True.intro, ⟨_, _, _, underlying77⟩⟩
def ty78 : Ty := ⟨.func, 1, 8, .s (.raw .nilFunc)⟩
theorem tyOK78 : TyOK prog 78 ty78 := ⟨by kernel_rfl, by kernel_rfl, by kernel_rfl, True.intro, ⟨_, _, _, underlying78⟩⟩
def ty79 : Ty := ⟨.struct [(0, 3), (1, 5), (2, 22), (3, 3)], 4, 48, .st [⟨1, .s (.i 0)⟩, ⟨1, .s (.u8 0)⟩, ⟨1, .s (.snil)⟩, ⟨1, .s (.i 0)⟩]⟩
theorem tyOK79 : TyOK prog 79 ty79 := ⟨by kernel_rfl, by kernel_rfl, by kernel_rfl, ⟨rfl, rfl, rfl, rfl, True.intro⟩, ⟨_, underlying79, rfl, by kernel_rfl⟩⟩
def ty80 : Ty := ⟨.struct [(0, 3), (1, 5), (2, 22), (3, 3)], 4, 48, .st [⟨1, .s (.i 0)⟩, ⟨1, .s (.u8 0)⟩, ⟨1, .s (.snil)⟩, ⟨1, .s (.i 0)⟩]⟩
theorem tyOK80 : TyOK prog 80 ty80 := ⟨by kernel_rfl, by kernel_rfl, by kernel_rfl, ⟨rfl, rfl, rfl, rfl, True.intro⟩, ⟨_, underlying80, rfl, by kernel_rfl⟩⟩
def ty81 : Ty := ⟨.func, 1, 8, .s (.raw .nilFunc)⟩
theorem tyOK81 : TyOK prog 81 ty81 := ⟨by kernel_rfl, by kernel_rfl, by kernel_rfl, True.intro, ⟨_, _, _, underlying81⟩⟩
def ty82 : Ty := ⟨.func, 1, 8, .s (.raw .nilFunc)⟩
theorem tyOK82 : TyOK prog 82 ty82 := ⟨by kernel_rfl, by kernel_rfl, by kernel_rfl, True.intro, ⟨_, _, _, underlying82⟩⟩
def ty83 : Ty := ⟨.func, 1, 8, .s (.raw .nilFunc)⟩
theorem tyOK83 : TyOK prog 83 ty83 := ⟨by kernel_rfl, by kernel_rfl, by kernel_rfl, True.intro, ⟨_, _, _, underlying83⟩⟩
def ty85 : Ty := ⟨.func, 1, 8, .s (.raw .nilFunc)⟩
theorem tyOK85 : TyOK prog 85 ty85 := ⟨by kernel_rfl, by kernel_rfl, by kernel_rfl, True.intro, ⟨_, _, _, underlying85⟩⟩
def ty86 : Ty := ⟨.func, 1, 8, .s (.raw .nilFunc)⟩
theorem tyOK86 : TyOK prog 86 ty86 := ⟨by kernel_rfl, by kernel_rfl, by kernel_rfl, True.intro, ⟨_, _, _, underlying86⟩⟩
def ty87 : Ty := ⟨.ptr 73, 1, 8, .s (.nil)⟩
theorem tyOK87 : TyOK prog 87 ty87 := ⟨by kernel_rfl, by kernel_rfl, by kernel_rfl, True.intro, underlying87⟩
def ty88 : Ty := ⟨.ptr 75, 1, 8, .s (.nil)⟩
theorem tyOK88 : TyOK prog 88 ty88 := ⟨by kernel_rfl, by kernel_rfl, by kernel_rfl, True.intro, underlying88⟩
def ty89 : Ty := ⟨.func, 1, 8, .s (.raw .nilFunc)⟩
theorem tyOK89 : TyOK prog 89 ty89 := ⟨by kernel_rfl, by kernel_rfl, by kernel_rfl, True.intro, ⟨_, _, _, underlying89⟩⟩
def ty90 : Ty := ⟨.func, 1, 8, .s (.raw .nilFunc)⟩
theorem tyOK90 : TyOK prog 90 ty90 := ⟨by kernel_rfl, by kernel_rfl, by kernel_rfl, True.intro, ⟨_, _, _, underlying90⟩⟩
def ty91 : Ty := ⟨.ptr 93, 1, 8, .s (.nil)⟩
theorem tyOK91 : TyOK prog 91 ty91 := ⟨by kernel_rfl, by kernel_rfl, by kernel_rfl, True.intro, underlying91⟩
def ty94 : Ty := ⟨.int .u64, 1, 8, .s (.u64 0)⟩
theorem tyOK94 : TyOK prog 94 ty94 := ⟨by kernel_rfl, by kernel_rfl, by kernel_rfl, True.intro, underlying94⟩
def ty96 : Ty := ⟨.func, 1, 8, .s (.raw .nilFunc)⟩
theorem tyOK96 : TyOK prog 96 ty96 := ⟨by kernel_rfl, by kernel_rfl, by kernel_rfl, True.intro, ⟨_, _, _, underlying96⟩⟩
def ty97 : Ty := ⟨.func, 1, 8, .s (.raw .nilFunc)⟩
theorem tyOK97 : TyOK prog 97 ty97 := ⟨by kernel_rfl, by kernel_rfl, by kernel_rfl, True.intro, ⟨_, _, _, underlying97⟩⟩
def ty98 : Ty := ⟨.sl 99, 1, 24, .s (.snil)⟩
theorem tyOK98 : TyOK prog 98 ty98 := ⟨by kernel_rfl, by kernel_rfl, by kernel_rfl, True.intro, underlying98⟩
def ty99 : Ty := ⟨.arr 4 5, 4, 4, .a8 [0, 0, 0, 0]⟩
theorem tyOK99 : TyOK prog 99 ty99 := ⟨by kernel_rfl, by kernel_rfl, by kernel_rfl, True.intro, underlying99⟩
def ty100 : Ty := ⟨.arr 256 5, 256, 256, .a8 (List.replicate 256 0)⟩
theorem tyOK100 : TyOK prog 100 ty100 := ⟨by kernel_rfl, by kernel_rfl, by kernel_rfl, True.intro, underlying100⟩
def ty101 : Ty := ⟨.func, 1, 8, .s (.raw .nilFunc)⟩
theorem tyOK101 : TyOK prog 101 ty101 := ⟨by kernel_rfl, by kernel_rfl, by kernel_rfl, True.intro, ⟨_, _, _, underlying101⟩⟩
def ty102 : Ty := ⟨.func, 1, 8, .s (.raw .nilFunc)⟩
theorem tyOK102 : TyOK prog 102 ty102 := ⟨by kernel_rfl, by kernel_rfl, by kernel_rfl, True.intro, ⟨_, _, _, underlying102⟩⟩
def ty103 : Ty := ⟨.sl 23, 1, 24, .s (.snil)⟩
theorem tyOK103 : TyOK prog 103 ty103 := ⟨by kernel_rfl, by kernel_rfl, by kernel_rfl, True.intro, underlying103⟩
def ty104 : Ty := ⟨.struct [(0, 103)], 1, 24, .st [⟨1, .s (.snil)⟩]⟩
theorem tyOK104 : TyOK prog 104 ty104 := ⟨by kernel_rfl, by kernel_rfl, by kernel_rfl, ⟨rfl, True.intro⟩, ⟨_, underlying104, rfl, by kernel_rfl⟩⟩
def ty105 : Ty := ⟨.struct [(0, 103)], 1, 24, .st [⟨1, .s (.snil)⟩]⟩
theorem tyOK105 : TyOK prog 105 ty105 := ⟨by kernel_rfl, by kernel_rfl, by kernel_rfl, ⟨rfl, True.intro⟩, ⟨_, underlying105, rfl, by kernel_rfl⟩⟩
def ty106 : Ty := ⟨.arr 256 3, 256, 2048, .ai (List.replicate 256 0)⟩
theorem tyOK106 : TyOK prog 106 ty106 := ⟨by kernel_rfl, by kernel_rfl, by kernel_rfl, True.intro, underlying106⟩
def ty107 : Ty := ⟨.func, 1, 8, .s (.raw .nilFunc)⟩
theorem tyOK107 : TyOK prog 107 ty107 := ⟨by kernel_rfl, by kernel_rfl, by kernel_rfl, True.intro, ⟨_, _, _, underlying107⟩⟩
def ty108 : Ty := ⟨.sl 111, 1, 24, .s (.snil)⟩
theorem tyOK108 : TyOK prog 108 ty108 := ⟨by kernel_rfl, by kernel_rfl, by kernel_rfl, True.intro, underlying108⟩
def ty109 : Ty := ⟨.struct [(0, 108), (1, 106), (257, 3)], 258, 2080, .st [⟨1, .s (.snil)⟩, ⟨256, .ai (List.replicate 256 0)⟩, ⟨1, .s (.i 0)⟩]⟩
theorem tyOK109 : TyOK prog 109 ty109 := ⟨by kernel_rfl, by kernel_rfl, by kernel_rfl, ⟨rfl, List.length_replicate, rfl, True.intro⟩, ⟨_, underlying109, rfl, by kernel_rfl⟩⟩
def ty110 : Ty := ⟨.struct [(0, 108), (1, 106), (257, 3)], 258, 2080, .st [⟨1, .s (.snil)⟩, ⟨256, .ai (List.replicate 256 0)⟩, ⟨1, .s (.i 0)⟩]⟩
theorem tyOK110 : TyOK prog 110 ty110 := ⟨by kernel_rfl, by kernel_rfl, by kernel_rfl, ⟨rfl, List.length_replicate, rfl, True.intro⟩, ⟨_, underlying110, rfl, by kernel_rfl⟩⟩
def ty111 : Ty := ⟨.arr 4 3, 4, 32, .ai [0, 0, 0, 0]⟩
theorem tyOK111 : TyOK prog 111 ty111 := ⟨by kernel_rfl, by kernel_rfl, by kernel_rfl, True.intro, underlying111⟩
def ty112 : Ty := ⟨.func, 1, 8, .s (.raw .nilFunc)⟩
theorem tyOK112 : TyOK prog 112 ty112 := ⟨by kernel_rfl, by kernel_rfl, by kernel_rfl, True.intro, ⟨_, _, _, underlying112⟩⟩
def ty113 : Ty := ⟨.arr 4 111, 16, 128, .ai [0, 0, 0, 0, 0, 0, 0, 0, 0, 0, 0, 0, 0, 0, 0, 0]⟩
theorem tyOK113 : TyOK prog 113 ty113 := ⟨by kernel_rfl, by kernel_rfl, by kernel_rfl, True.intro, underlying113⟩
def ty114 : Ty := ⟨.struct [(0, 45), (1, 45)], 2, 16, .st [⟨1, .s (.u64 0)⟩, ⟨1, .s (.u64 0)⟩]⟩
theorem tyOK114 : TyOK prog 114 ty114 := ⟨by kernel_rfl, by kernel_rfl, by kernel_rfl, ⟨rfl, rfl, True.intro⟩, ⟨_, underlying114, rfl, by kernel_rfl⟩⟩
def ty115 : Ty := ⟨.struct [(0, 45), (1, 45)], 2, 16, .st [⟨1, .s (.u64 0)⟩, ⟨1, .s (.u64 0)⟩]⟩
theorem tyOK115 : TyOK prog 115 ty115 := ⟨by kernel_rfl, by kernel_rfl, by kernel_rfl, ⟨rfl, rfl, True.intro⟩, ⟨_, underlying115, rfl, by kernel_rfl⟩⟩
def ty116 : Ty := ⟨.func, 1, 8, .s (.raw .nilFunc)⟩
theorem tyOK116 : TyOK prog 116 ty116 := ⟨by kernel_rfl, by kernel_rfl, by kernel_rfl, True.intro, ⟨_, _, _, underlying116⟩⟩
def ty117 : Ty := ⟨.func, 1, 8, .s (.raw .nilFunc)⟩
theorem tyOK117 : TyOK prog 117 ty117 := ⟨by kernel_rfl, by kernel_rfl, by kernel_rfl, True.intro, ⟨_, _, _, underlying117⟩⟩
def ty118 : Ty := ⟨.func, 1, 8, .s (.raw .nilFunc)⟩
theorem tyOK118 : TyOK prog 118 ty118 := ⟨by kernel_rfl, by kernel_rfl, by kernel_rfl, True.intro, ⟨_, _, _, underlying118⟩⟩
def ty119 : Ty := ⟨.arr 128 4, 128, 128, .ab (List.replicate 128 false)⟩
theorem tyOK119 : TyOK prog 119 ty119 := ⟨by kernel_rfl, by kernel_rfl, by kernel_rfl, True.intro, underlying119⟩
def ty120 : Ty := ⟨.arr 128 4, 128, 128, .ab (List.replicate 128 false)⟩
theorem tyOK120 : TyOK prog 120 ty120 := ⟨by kernel_rfl, by kernel_rfl, by kernel_rfl, True.intro, underlying120⟩
def ty121 : Ty := ⟨.func, 1, 8, .s (.raw .nilFunc)⟩
theorem tyOK121 : TyOK prog 121 ty121 := ⟨by kernel_rfl, by kernel_rfl, by kernel_rfl, True.intro, ⟨_, _, _, underlying121⟩⟩
def ty122 : Ty := ⟨.arr 2 22, 2, 48, .agg [.snil, .snil]⟩
theorem tyOK122 : TyOK prog 122 ty122 := ⟨by kernel_rfl, by kernel_rfl, by kernel_rfl, True.intro, underlying122⟩
def ty123 : Ty := ⟨.func, 1, 8, .s (.raw .nilFunc)⟩
theorem tyOK123 : TyOK prog 123 ty123 := ⟨by kernel_rfl, by kernel_rfl, by kernel_rfl, True.intro, ⟨_, _, _, underlying123⟩⟩
def ty124 : Ty := ⟨.func, 1, 8, .s (.raw .nilFunc)⟩
theorem tyOK124 : TyOK prog 124 ty124 := ⟨by kernel_rfl, by kernel_rfl, by kernel_rfl, True.intro, ⟨_, _, _, underlying124⟩⟩
def ty125 : Ty := ⟨.func, 1, 8, .s (.raw .nilFunc)⟩
theorem tyOK125 : TyOK prog 125 ty125 := ⟨by kernel_rfl, by kernel_rfl, by kernel_rfl, True.intro, ⟨_, _, _, underlying125⟩⟩
def ty126 : Ty := ⟨.func, 1, 8, .s (.raw .nilFunc)⟩
theorem tyOK126 : TyOK prog 126 ty126 := ⟨by kernel_rfl, by kernel_rfl, by kernel_rfl, True.intro, ⟨_, _, _, underlying126⟩⟩
def ty127 : Ty := ⟨.func, 1, 8, .s (.raw .nilFunc)⟩
theorem tyOK127 : TyOK prog 127 ty127 := ⟨by kernel_rfl, by kernel_rfl, by kernel_rfl, True.intro, ⟨_, _, _, underlying127⟩⟩
def ty128 : Ty := ⟨.int .u32, 1, 4, .s (.u32 0)⟩
theorem tyOK128 : TyOK prog 128 ty128 := ⟨by kernel_rfl, by kernel_rfl, by kernel_rfl, True.intro, underlying128⟩
def ty129 : Ty := ⟨.sl 3, 1, 24, .s (.snil)⟩
theorem tyOK129 : TyOK prog 129 ty129 := ⟨by kernel_rfl, by kernel_rfl, by kernel_rfl, True.intro, underlying129⟩
def ty130 : Ty := ⟨.iface, 1, 16, .s (.inil)⟩
theorem tyOK130 : TyOK prog 130 ty130 := ⟨by kernel_rfl, by kernel_rfl, by kernel_rfl, True.intro, ⟨_, underlying130⟩⟩
def ty131 : Ty := ⟨.iface, 1, 16, .s (.inil)⟩
theorem tyOK131 : TyOK prog 131 ty131 := ⟨by kernel_rfl, by kernel_rfl, by kernel_rfl, True.intro, ⟨_, underlying131⟩⟩
def ty132 : Ty := ⟨.struct [(0, 131), (1, 22)], 2, 40, .st [⟨1, .s (.inil)⟩, ⟨1, .s (.snil)⟩]⟩
theorem tyOK132 : TyOK prog 132 ty132 := ⟨by kernel_rfl, by kernel_rfl, by kernel_rfl, ⟨rfl, rfl, True.intro⟩, ⟨_, underlying132, rfl, by kernel_rfl⟩⟩
def ty133 : Ty := ⟨.struct [(0, 131), (1, 22)], 2, 40, .st [⟨1, .s (.inil)⟩, ⟨1, .s (.snil)⟩]⟩
theorem tyOK133 : TyOK prog 133 ty133 := ⟨by kernel_rfl, by kernel_rfl, by kernel_rfl, ⟨rfl, rfl, True.intro⟩, ⟨_, underlying133, rfl, by kernel_rfl⟩⟩
def ty134 : Ty := ⟨.sl 5, 1, 24, .s (.snil)⟩
theorem tyOK134 : TyOK prog 134 ty134 := ⟨by kernel_rfl, by kernel_rfl, by kernel_rfl, True.intro, underlying134⟩
def ty135 : Ty := ⟨.struct [(0, 25)], 1, 8, .st [⟨1, .s (.nil)⟩]⟩
theorem tyOK135 : TyOK prog 135 ty135 := ⟨by kernel_rfl, by kernel_rfl, by kernel_rfl, ⟨rfl, True.intro⟩, ⟨_, underlying135, rfl, by kernel_rfl⟩⟩
def ty136 : Ty := ⟨.struct [(0, 25)], 1, 8, .st [⟨1, .s (.nil)⟩]⟩
theorem tyOK136 : TyOK prog 136 ty136 := ⟨by kernel_rfl, by kernel_rfl, by kernel_rfl, ⟨rfl, True.intro⟩, ⟨_, underlying136, rfl, by kernel_rfl⟩⟩
def ty137 : Ty := ⟨.func, 1, 8, .s (.raw .nilFunc)⟩
theorem tyOK137 : TyOK prog 137 ty137 := ⟨by kernel_rfl, by kernel_rfl, by kernel_rfl, True.intro, ⟨_, _, _, underlying137⟩⟩
def ty138 : Ty := ⟨.func, 1, 8, .s (.raw .nilFunc)⟩
theorem tyOK138 : TyOK prog 138 ty138 := ⟨by kernel_rfl, by kernel_rfl, by kernel_rfl, True.intro, ⟨_, _, _, underlying138⟩⟩
def ty139 : Ty := ⟨.func, 1, 8, .s (.raw .nilFunc)⟩
theorem tyOK139 : TyOK prog 139 ty139 := ⟨by kernel_rfl, by kernel_rfl, by kernel_rfl, True.intro, ⟨_, _, _, underlying139⟩⟩
def ty140 : Ty := ⟨.func, 1, 8, .s (.raw .nilFunc)⟩
theorem tyOK140 : TyOK prog 140 ty140 := ⟨by kernel_rfl, by kernel_rfl, by kernel_rfl, True.intro, ⟨_, _, _, underlying140⟩⟩
def ty141 : Ty := ⟨.func, 1, 8, .s (.raw .nilFunc)⟩
theorem tyOK141 : TyOK prog 141 ty141 := ⟨by kernel_rfl, by kernel_rfl, by kernel_rfl, True.intro, ⟨_, _, _, underlying141⟩⟩
def ty142 : Ty := ⟨.func, 1, 8, .s (.raw .nilFunc)⟩
theorem tyOK142 : TyOK prog 142 ty142 := ⟨by kernel_rfl, by kernel_rfl, by kernel_rfl, True.intro, ⟨_, _, _, underlying142⟩⟩
def ty143 : Ty := ⟨.func, 1, 8, .s (.raw .nilFunc)⟩
theorem tyOK143 : TyOK prog 143 ty143 := ⟨by kernel_rfl, by kernel_rfl, by kernel_rfl, True.intro, ⟨_, _, _, underlying143⟩⟩
def ty144 : Ty := ⟨.func, 1, 8, .s (.raw .nilFunc)⟩
theorem tyOK144 : TyOK prog 144 ty144 := ⟨by kernel_rfl, by kernel_rfl, by kernel_rfl, True.intro, ⟨_, _, _, underlying144⟩⟩
def ty146 : Ty := ⟨.func, 1, 8, .s (.raw .nilFunc)⟩
theorem tyOK146 : TyOK prog 146 ty146 := ⟨by kernel_rfl, by kernel_rfl, by kernel_rfl, True.intro, ⟨_, _, _, underlying146⟩⟩
def ty147 : Ty := ⟨.arr 255 4, 255, 255, .ab (List.replicate 255 false)⟩
theorem tyOK147 : TyOK prog 147 ty147 := ⟨by kernel_rfl, by kernel_rfl, by kernel_rfl, True.intro, underlying147⟩
def ty148 : Ty := ⟨.sl 4, 1, 24, .s (.snil)⟩
theorem tyOK148 : TyOK prog 148 ty148 := ⟨by kernel_rfl, by kernel_rfl, by kernel_rfl, True.intro, underlying148⟩
def ty149 : Ty := ⟨.func, 1, 8, .s (.raw .nilFunc)⟩
theorem tyOK149 : TyOK prog 149 ty149 := ⟨by kernel_rfl, by kernel_rfl, by kernel_rfl, True.intro, ⟨_, _, _, underlying149⟩⟩
def ty150 : Ty := ⟨.func, 1, 8, .s (.raw .nilFunc)⟩
theorem tyOK150 : TyOK prog 150 ty150 := ⟨by kernel_rfl, by kernel_rfl, by kernel_rfl, True.intro, ⟨_, _, _, underlying150⟩⟩
def ty151 : Ty := ⟨.func, 1, 8, .s (.raw .nilFunc)⟩
theorem tyOK151 : TyOK prog 151 ty151 := ⟨by kernel_rfl, by kernel_rfl, by kernel_rfl, True.intro, ⟨_, _, _, underlying151⟩⟩
def ty152 : Ty := ⟨.ptr 71, 1, 8, .s (.nil)⟩
theorem tyOK152 : TyOK prog 152 ty152 := ⟨by kernel_rfl, by kernel_rfl, by kernel_rfl, True.intro, underlying152⟩
def ty153 : Ty := ⟨.func, 1, 8, .s (.raw .nilFunc)⟩
theorem tyOK153 : TyOK prog 153 ty153 := ⟨by kernel_rfl, by kernel_rfl, by kernel_rfl, True.intro, ⟨_, _, _, underlying153⟩⟩
def ty154 : Ty := ⟨.ptr 45, 1, 8, .s (.nil)⟩
theorem tyOK154 : TyOK prog 154 ty154 := ⟨by kernel_rfl, by kernel_rfl, by kernel_rfl, True.intro, underlying154⟩
def ty155 : Ty := ⟨.func, 1, 8, .s (.raw .nilFunc)⟩
theorem tyOK155 : TyOK prog 155 ty155 := ⟨by kernel_rfl, by kernel_rfl, by kernel_rfl, True.intro, ⟨_, _, _, underlying155⟩⟩
def ty156 : Ty := ⟨.func, 1, 8, .s (.raw .nilFunc)⟩
theorem tyOK156 : TyOK prog 156 ty156 := ⟨by kernel_rfl, by kernel_rfl, by kernel_rfl, True.intro, ⟨_, _, _, underlying156⟩⟩
def ty157 : Ty := ⟨.arr 4 45, 4, 32, .a64 [0, 0, 0, 0]⟩
theorem tyOK157 : TyOK prog 157 ty157 := ⟨by kernel_rfl, by kernel_rfl, by kernel_rfl, True.intro, underlying157⟩
def ty158 : Ty := ⟨.arr 4 45, 4, 32, .a64 [0, 0, 0, 0]⟩
theorem tyOK158 : TyOK prog 158 ty158 := ⟨by kernel_rfl, by kernel_rfl, by kernel_rfl, True.intro, underlying158⟩
def ty159 : Ty := ⟨.func, 1, 8, .s (.raw .nilFunc)⟩
theorem tyOK159 : TyOK prog 159 ty159 := ⟨by kernel_rfl, by kernel_rfl, by kernel_rfl, True.intro, ⟨_, _, _, underlying159⟩⟩
def ty160 : Ty := ⟨.func, 1, 8, .s (.raw .nilFunc)⟩
theorem tyOK160 : TyOK prog 160 ty160 := ⟨by kernel_rfl, by kernel_rfl, by kernel_rfl, True.intro, ⟨_, _, _, underlying160⟩⟩
def ty161 : Ty := ⟨.arr 16 45, 16, 128, .a64 [0, 0, 0, 0, 0, 0, 0, 0, 0, 0, 0, 0, 0, 0, 0, 0]⟩
theorem tyOK161 : TyOK prog 161 ty161 := ⟨by kernel_rfl, by kernel_rfl, by kernel_rfl, True.intro, underlying161⟩
def ty162 : Ty := ⟨.func, 1, 8, .s (.raw .nilFunc)⟩
theorem tyOK162 : TyOK prog 162 ty162 := ⟨by kernel_rfl, by kernel_rfl, by kernel_rfl, True.intro, ⟨_, _, _, underlying162⟩⟩
def ty163 : Ty := ⟨.func, 1, 8, .s (.raw .nilFunc)⟩
theorem tyOK163 : TyOK prog 163 ty163 := ⟨by kernel_rfl, by kernel_rfl, by kernel_rfl, True.intro, ⟨_, _, _, underlying163⟩⟩
def ty164 : Ty := ⟨.arr 9 45, 9, 72, .a64 [0, 0, 0, 0, 0, 0, 0, 0, 0]⟩
theorem tyOK164 : TyOK prog 164 ty164 := ⟨by kernel_rfl, by kernel_rfl, by kernel_rfl, True.intro, underlying164⟩
def ty166 : Ty := ⟨.func, 1, 8, .s (.raw .nilFunc)⟩
theorem tyOK166 : TyOK prog 166 ty166 := ⟨by kernel_rfl, by kernel_rfl, by kernel_rfl, True.intro, ⟨_, _, _, underlying166⟩⟩
def ty167 : Ty := ⟨.func, 1, 8, .s (.raw .nilFunc)⟩
theorem tyOK167 : TyOK prog 167 ty167 := ⟨by kernel_rfl, by kernel_rfl, by kernel_rfl, True.intro, ⟨_, _, _, underlying167⟩⟩
def ty168 : Ty := ⟨.func, 1, 8, .s (.raw .nilFunc)⟩
theorem tyOK168 : TyOK prog 168 ty168 := ⟨by kernel_rfl, by kernel_rfl, by kernel_rfl, True.intro, ⟨_, _, _, underlying168⟩⟩
def ty169 : Ty := ⟨.func, 1, 8, .s (.raw .nilFunc)⟩
theorem tyOK169 : TyOK prog 169 ty169 := ⟨by kernel_rfl, by kernel_rfl, by kernel_rfl, True.intro, ⟨_, _, _, underlying169⟩⟩
def ty170 : Ty := ⟨.func, 1, 8, .s (.raw .nilFunc)⟩
theorem tyOK170 : TyOK prog 170 ty170 := ⟨by kernel_rfl, by kernel_rfl, by kernel_rfl, True.intro, ⟨_, _, _, underlying170⟩⟩
def tab : Tab
  | 1 => some ty1
  | 2 => some ty2
  | 3 => some ty3
  | 4 => some ty4
  | 5 => some ty5
  | 6 => some ty6
  | 7 => some ty7
  | 8 => some ty8
  | 9 => some ty9
  | 10 => some ty10
  | 11 => some ty11
  | 12 => some ty12
  | 13 => some ty13
  | 14 => some ty14
  | 15 => some ty15
  | 16 => some ty16
  | 17 => some ty17
  | 18 => some ty18
  | 19 => some ty19
  | 20 => some ty20
  | 22 => some ty22
  | 23 => some ty23
  | 24 => some ty24
  | 25 => some ty25
  | 26 => some ty26
  | 28 => some ty28
  | 29 => some ty29
  | 30 => some ty30
  | 31 => some ty31
  | 32 => some ty32
  | 33 => some ty33
  | 34 => some ty34
  | 35 => some ty35
  | 36 => some ty36
  | 37 => some ty37
  | 38 => some ty38
  | 40 => some ty40
  | 41 => some ty41
  | 42 => some ty42
  | 43 => some ty43
  | 44 => some ty44
  | 45 => some ty45
  | 46 => some ty46
  | 47 => some ty47
  | 48 => some ty48
  | 50 => some ty50
  | 51 => some ty51
  | 52 => some ty52
  | 53 => some ty53
  | 54 => some ty54
  | 55 => some ty55
  | 56 => some ty56
  | 57 => some ty57
  | 58 => some ty58
  | 59 => some ty59
  | 60 => some ty60
  | 61 => some ty61
  | 63 => some ty63
  | 64 => some ty64
  | 65 => some ty65
  | 66 => some ty66
  | 77 => some ty77
  | 78 => some ty78
  | 79 => some ty79
  | 80 => some ty80
  | 81 => some ty81
  | 82 => some ty82
  | 83 => some ty83
  | 85 => some ty85
  | 86 => some ty86
  | 87 => some ty87
  | 88 => some ty88
  | 89 => some ty89
  | 90 => some ty90
  | 91 => some ty91
  | 94 => some ty94
  | 96 => some ty96
  | 97 => some ty97
  | 98 => some ty98
  | 99 => some ty99
  | 100 => some ty100
  | 101 => some ty101
  | 102 => some ty102
  | 103 => some ty103
  | 104 => some ty104
  | 105 => some ty105
  | 106 => some ty106
  | 107 => some ty107
  | 108 => some ty108
  | 109 => some ty109
  | 110 => some ty110
  | 111 => some ty111
  | 112 => some ty112
  | 113 => some ty113
  | 114 => some ty114
  | 115 => some ty115
  | 116 => some ty116
  | 117 => some ty117
  | 118 => some ty118
  | 119 => some ty119
  | 120 => some ty120
  | 121 => some ty121
  | 122 => some ty122
  | 123 => some ty123
  | 124 => some ty124
  | 125 => some ty125
  | 126 => some ty126
  | 127 => some ty127
  | 128 => some ty128
  | 129 => some ty129
  | 130 => some ty130
  | 131 => some ty131
  | 132 => some ty132
  | 133 => some ty133
  | 134 => some ty134
  | 135 => some ty135
  | 136 => some ty136
  | 137 => some ty137
  | 138 => some ty138
  | 139 => some ty139
  | 140 => some ty140
  | 141 => some ty141
  | 142 => some ty142
  | 143 => some ty143
  | 144 => some ty144
  | 146 => some ty146
  | 147 => some ty147
  | 148 => some ty148
  | 149 => some ty149
  | 150 => some ty150
  | 151 => some ty151
  | 152 => some ty152
  | 153 => some ty153
  | 154 => some ty154
  | 155 => some ty155
  | 156 => some ty156
  | 157 => some ty157
  | 158 => some ty158
  | 159 => some ty159
  | 160 => some ty160
  | 161 => some ty161
  | 162 => some ty162
  | 163 => some ty163
  | 164 => some ty164
  | 166 => some ty166
  | 167 => some ty167
  | 168 => some ty168
  | 169 => some ty169
  | 170 => some ty170
  | _ => none
@[simp] theorem tab1 : tab 1 = some ty1 := rfl
@[simp] theorem tab2 : tab 2 = some ty2 := rfl
@[simp] theorem tab3 : tab 3 = some ty3 := rfl
@[simp] theorem tab4 : tab 4 = some ty4 := rfl
@[simp] theorem tab5 : tab 5 = some ty5 := rfl
@[simp] theorem tab6 : tab 6 = some ty6 := rfl
@[simp] theorem tab7 : tab 7 = some ty7 := rfl
@[simp] theorem tab8 : tab 8 = some ty8 := rfl
@[simp] theorem tab9 : tab 9 = some ty9 := rfl
@[simp] theorem tab10 : tab 10 = some ty10 := rfl
@[simp] theorem tab11 : tab 11 = some ty11 := rfl
@[simp] theorem tab12 : tab 12 = some ty12 := rfl
@[simp] theorem tab13 : tab 13 = some ty13 := rfl
@[simp] theorem tab14 : tab 14 = some ty14 := rfl
@[simp] theorem tab15 : tab 15 = some ty15 := rfl
@[simp] theorem tab16 : tab 16 = some ty16 := rfl
@[simp] theorem tab17 : tab 17 = some ty17 := rfl
@[simp] theorem tab18 : tab 18 = some ty18 := rfl
@[simp] theorem tab19 : tab 19 = some ty19 := rfl
@[simp] theorem tab20 : tab 20 = some ty20 := rfl
@[simp] theorem tab22 : tab 22 = some ty22 := rfl
@[simp] theorem tab23 : tab 23 = some ty23 := rfl
@[simp] theorem tab24 : tab 24 = some ty24 := rfl
@[simp] theorem tab25 : tab 25 = some ty25 := rfl
@[simp] theorem tab26 : tab 26 = some ty26 := rfl
@[simp] theorem tab28 : tab 28 = some ty28 := rfl
@[simp] theorem tab29 : tab 29 = some ty29 := rfl
@[simp] theorem tab30 : tab 30 = some ty30 := rfl
@[simp] theorem tab31 : tab 31 = some ty31 := rfl
@[simp] theorem tab32 : tab 32 = some ty32 := rfl
@[simp] theorem tab33 : tab 33 = some ty33 := rfl
@[simp] theorem tab34 : tab 34 = some ty34 := rfl
@[simp] theorem tab35 : tab 35 = some ty35 := rfl
@[simp] theorem tab36 : tab 36 = some ty36 := rfl
@[simp] theorem tab37 : tab 37 = some ty37 := rfl
@[simp] theorem tab38 : tab 38 = some ty38 := rfl
@[simp] theorem tab40 : tab 40 = some ty40 := rfl
@[simp] theorem tab41 : tab 41 = some ty41 := rfl
@[simp] theorem tab42 : tab 42 = some ty42 := rfl
@[simp] theorem tab43 : tab 43 = some ty43 := rfl
@[simp] theorem tab44 : tab 44 = some ty44 := rfl
@[simp] theorem tab45 : tab 45 = some ty45 := rfl
@[simp] theorem tab46 : tab 46 = some ty46 := rfl
@[simp] theorem tab47 : tab 47 = some ty47 := rfl
@[simp] theorem tab48 : tab 48 = some ty48 := rfl
@[simp] theorem tab50 : tab 50 = some ty50 := rfl
@[simp] theorem tab51 : tab 51 = some ty51 := rfl
@[simp] theorem tab52 : tab 52 = some ty52 := rfl
@[simp] theorem tab53 : tab 53 = some ty53 := rfl
@[simp] theorem tab54 : tab 54 = some ty54 := rfl
@[simp] theorem tab55 : tab 55 = some ty55 := rfl
@[simp] theorem tab56 : tab 56 = some ty56 := rfl
@[simp] theorem tab57 : tab 57 = some ty57 := rfl
@[simp] theorem tab58 : tab 58 = some ty58 := rfl
@[simp] theorem tab59 : tab 59 = some ty59 := rfl
@[simp] theorem tab60 : tab 60 = some ty60 := rfl
@[simp] theorem tab61 : tab 61 = some ty61 := rfl
@[simp] theorem tab63 : tab 63 = some ty63 := rfl
@[simp] theorem tab64 : tab 64 = some ty64 := rfl
@[simp] theorem tab65 : tab 65 = some ty65 := rfl
@[simp] theorem tab66 : tab 66 = some ty66 := rfl
@[simp] theorem tab77 : tab 77 = some ty77 := rfl
@[simp] theorem tab78 : tab 78 = some ty78 := rfl
@[simp] theorem tab79 : tab 79 = some ty79 := rfl
@[simp] theorem tab80 : tab 80 = some ty80 := rfl
@[simp] theorem tab81 : tab 81 = some ty81 := rfl
@[simp] theorem tab82 : tab 82 = some ty82 := rfl
@[simp] theorem tab83 : tab 83 = some ty83 := rfl
@[simp] theorem tab85 : tab 85 = some ty85 := rfl
@[simp] theorem tab86 : tab 86 = some ty86 := rfl
@[simp] theorem tab87 : tab 87 = some ty87 := rfl
@[simp] theorem tab88 : tab 88 = some ty88 := rfl
@[simp] theorem tab89 : tab 89 = some ty89 := rfl
@[simp] theorem tab90 : tab 90 = some ty90 := rfl
@[simp] theorem tab91 : tab 91 = some ty91 := rfl
@[simp] theorem tab94 : tab 94 = some ty94 := rfl
@[simp] theorem tab96 : tab 96 = some ty96 := rfl
@[simp] theorem tab97 : tab 97 = some ty97 := rfl
@[simp] theorem tab98 : tab 98 = some ty98 := rfl
@[simp] theorem tab99 : tab 99 = some ty99 := rfl
@[simp] theorem tab100 : tab 100 = some ty100 := rfl
@[simp] theorem tab101 : tab 101 = some ty101 := rfl
@[simp] theorem tab102 : tab 102 = some ty102 := rfl
@[simp] theorem tab103 : tab 103 = some ty103 := rfl
@[simp] theorem tab104 : tab 104 = some ty104 := rfl
@[simp] theorem tab105 : tab 105 = some ty105 := rfl
@[simp] theorem tab106 : tab 106 = some ty106 := rfl
@[simp] theorem tab107 : tab 107 = some ty107 := rfl
@[simp] theorem tab108 : tab 108 = some ty108 := rfl
@[simp] theorem tab109 : tab 109 = some ty109 := rfl
@[simp] theorem tab110 : tab 110 = some ty110 := rfl
@[simp] theorem tab111 : tab 111 = some ty111 := rfl
@[simp] theorem tab112 : tab 112 = some ty112 := rfl
@[simp] theorem tab113 : tab 113 = some ty113 := rfl
@[simp] theorem tab114 : tab 114 = some ty114 := rfl
@[simp] theorem tab115 : tab 115 = some ty115 := rfl
@[simp] theorem tab116 : tab 116 = some ty116 := rfl
@[simp] theorem tab117 : tab 117 = some ty117 := rfl
@[simp] theorem tab118 : tab 118 = some ty118 := rfl
@[simp] theorem tab119 : tab 119 = some ty119 := rfl
@[simp] theorem tab120 : tab 120 = some ty120 := rfl
@[simp] theorem tab121 : tab 121 = some ty121 := rfl
@[simp] theorem tab122 : tab 122 = some ty122 := rfl
@[simp] theorem tab123 : tab 123 = some ty123 := rfl
@[simp] theorem tab124 : tab 124 = some ty124 := rfl
@[simp] theorem tab125 : tab 125 = some ty125 := rfl
@[simp] theorem tab126 : tab 126 = some ty126 := rfl
@[simp] theorem tab127 : tab 127 = some ty127 := rfl
@[simp] theorem tab128 : tab 128 = some ty128 := rfl
@[simp] theorem tab129 : tab 129 = some ty129 := rfl
@[simp] theorem tab130 : tab 130 = some ty130 := rfl
@[simp] theorem tab131 : tab 131 = some ty131 := rfl
@[simp] theorem tab132 : tab 132 = some ty132 := rfl
@[simp] theorem tab133 : tab 133 = some ty133 := rfl
@[simp] theorem tab134 : tab 134 = some ty134 := rfl
@[simp] theorem tab135 : tab 135 = some ty135 := rfl
@[simp] theorem tab136 : tab 136 = some ty136 := rfl
@[simp] theorem tab137 : tab 137 = some ty137 := rfl
@[simp] theorem tab138 : tab 138 = some ty138 := rfl
@[simp] theorem tab139 : tab 139 = some ty139 := rfl
@[simp] theorem tab140 : tab 140 = some ty140 := rfl
@[simp] theorem tab141 : tab 141 = some ty141 := rfl
@[simp] theorem tab142 : tab 142 = some ty142 := rfl
@[simp] theorem tab143 : tab 143 = some ty143 := rfl
@[simp] theorem tab144 : tab 144 = some ty144 := rfl
@[simp] theorem tab146 : tab 146 = some ty146 := rfl
@[simp] theorem tab147 : tab 147 = some ty147 := rfl
@[simp] theorem tab148 : tab 148 = some ty148 := rfl
@[simp] theorem tab149 : tab 149 = some ty149 := rfl
@[simp] theorem tab150 : tab 150 = some ty150 := rfl
@[simp] theorem tab151 : tab 151 = some ty151 := rfl
@[simp] theorem tab152 : tab 152 = some ty152 := rfl
@[simp] theorem tab153 : tab 153 = some ty153 := rfl
@[simp] theorem tab154 : tab 154 = some ty154 := rfl
@[simp] theorem tab155 : tab 155 = some ty155 := rfl
@[simp] theorem tab156 : tab 156 = some ty156 := rfl
@[simp] theorem tab157 : tab 157 = some ty157 := rfl
@[simp] theorem tab158 : tab 158 = some ty158 := rfl
@[simp] theorem tab159 : tab 159 = some ty159 := rfl
@[simp] theorem tab160 : tab 160 = some ty160 := rfl
@[simp] theorem tab161 : tab 161 = some ty161 := rfl
@[simp] theorem tab162 : tab 162 = some ty162 := rfl
@[simp] theorem tab163 : tab 163 = some ty163 := rfl
@[simp] theorem tab164 : tab 164 = some ty164 := rfl
@[simp] theorem tab166 : tab 166 = some ty166 := rfl
@[simp] theorem tab167 : tab 167 = some ty167 := rfl
@[simp] theorem tab168 : tab 168 = some ty168 := rfl
@[simp] theorem tab169 : tab 169 = some ty169 := rfl
@[simp] theorem tab170 : tab 170 = some ty170 := rfl
theorem tabOK : TabOK prog tab := by
  intro t ty h
  unfold tab at h
  split at h
  all_goals first | (cases h; done) | (obtain rfl := Option.some.inj h; first | exact tyOK1 | exact tyOK2 | exact tyOK3 | exact tyOK4 | exact tyOK5 | exact tyOK6 | exact tyOK7 | exact tyOK8 | exact tyOK9 | exact tyOK10 | exact tyOK11 | exact tyOK12 | exact tyOK13 | exact tyOK14 | exact tyOK15 | exact tyOK16 | exact tyOK17 | exact tyOK18 | exact tyOK19 | exact tyOK20 | exact tyOK22 | exact tyOK23 | exact tyOK24 | exact tyOK25 | exact tyOK26 | exact tyOK28 | exact tyOK29 | exact tyOK30 | exact tyOK31 | exact tyOK32 | exact tyOK33 | exact tyOK34 | exact tyOK35 | exact tyOK36 | exact tyOK37 | exact tyOK38 | exact tyOK40 | exact tyOK41 | exact tyOK42 | exact tyOK43 | exact tyOK44 | exact tyOK45 | exact tyOK46 | exact tyOK47 | exact tyOK48 | exact tyOK50 | exact tyOK51 | exact tyOK52 | exact tyOK53 | exact tyOK54 | exact tyOK55 | exact tyOK56 | exact tyOK57 | exact tyOK58 | exact tyOK59 | exact tyOK60 | exact tyOK61 | exact tyOK63 | exact tyOK64 | exact tyOK65 | exact tyOK66 | exact tyOK77 | exact tyOK78 | exact tyOK79 | exact tyOK80 | exact tyOK81 | exact tyOK82 | exact tyOK83 | exact tyOK85 | exact tyOK86 | exact tyOK87 | exact tyOK88 | exact tyOK89 | exact tyOK90 | exact tyOK91 | exact tyOK94 | exact tyOK96 | exact tyOK97 | exact tyOK98 | exact tyOK99 | exact tyOK100 | exact tyOK101 | exact tyOK102 | exact tyOK103 | exact tyOK104 | exact tyOK105 | exact tyOK106 | exact tyOK107 | exact tyOK108 | exact tyOK109 | exact tyOK110 | exact tyOK111 | exact tyOK112 | exact tyOK113 | exact tyOK114 | exact tyOK115 | exact tyOK116 | exact tyOK117 | exact tyOK118 | exact tyOK119 | exact tyOK120 | exact tyOK121 | exact tyOK122 | exact tyOK123 | exact tyOK124 | exact tyOK125 | exact tyOK126 | exact tyOK127 | exact tyOK128 | exact tyOK129 | exact tyOK130 | exact tyOK131 | exact tyOK132 | exact tyOK133 | exact tyOK134 | exact tyOK135 | exact tyOK136 | exact tyOK137 | exact tyOK138 | exact tyOK139 | exact tyOK140 | exact tyOK141 | exact tyOK142 | exact tyOK143 | exact tyOK144 | exact tyOK146 | exact tyOK147 | exact tyOK148 | exact tyOK149 | exact tyOK150 | exact tyOK151 | exact tyOK152 | exact tyOK153 | exact tyOK154 | exact tyOK155 | exact tyOK156 | exact tyOK157 | exact tyOK158 | exact tyOK159 | exact tyOK160 | exact tyOK161 | exact tyOK162 | exact tyOK163 | exact tyOK164 | exact tyOK166 | exact tyOK167 | exact tyOK168 | exact tyOK169 | exact tyOK170)
theorem mixed : prog.follows .mixedOrders = true := by kernel_rfl
end Go.V
