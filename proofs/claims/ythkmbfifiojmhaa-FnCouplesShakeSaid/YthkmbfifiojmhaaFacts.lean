import Derived.Test.YthkmbfifiojmhaaProg
import Derived.Test.YthkmbfifiojmhaaAbsP
namespace Go.Proofs.Ythkmbfifiojmhaa
open Go.Abs
@[simp] theorem tk1 : Try.prog.tk 1 = .func := by kernel_rfl
@[simp] theorem lk1 : Try.prog.lk 1 = some (false, 1) := by kernel_rfl
@[simp] theorem sz1 : Try.prog.szO 1 = some 1 := by kernel_rfl
@[simp] theorem bz1 : Try.prog.bz 1 = some (8, .nilFunc) := by kernel_rfl
@[simp] theorem un1 : (Try.prog.underlying 1).isSome = true := by kernel_rfl
@[simp] theorem tk2 : Try.prog.tk 2 = .int .i64 := by kernel_rfl
@[simp] theorem lk2 : Try.prog.lk 2 = some (false, 1) := by kernel_rfl
@[simp] theorem sz2 : Try.prog.szO 2 = some 1 := by kernel_rfl
@[simp] theorem bz2 : Try.prog.bz 2 = some (8, (.int .i64 0)) := by kernel_rfl
@[simp] theorem un2 : (Try.prog.underlying 2).isSome = true := by kernel_rfl
@[simp] theorem tk3 : Try.prog.tk 3 = .int .i64 := by kernel_rfl
@[simp] theorem lk3 : Try.prog.lk 3 = some (false, 1) := by kernel_rfl
@[simp] theorem sz3 : Try.prog.szO 3 = some 1 := by kernel_rfl
@[simp] theorem bz3 : Try.prog.bz 3 = some (8, (.int .i64 0)) := by kernel_rfl
@[simp] theorem un3 : (Try.prog.underlying 3).isSome = true := by kernel_rfl
@[simp] theorem tk4 : Try.prog.tk 4 = .bool := by kernel_rfl
@[simp] theorem lk4 : Try.prog.lk 4 = some (false, 1) := by kernel_rfl
@[simp] theorem sz4 : Try.prog.szO 4 = some 1 := by kernel_rfl
@[simp] theorem bz4 : Try.prog.bz 4 = some (1, (.bool false)) := by kernel_rfl
@[simp] theorem un4 : (Try.prog.underlying 4).isSome = true := by kernel_rfl
@[simp] theorem tk5 : Try.prog.tk 5 = .int .u8 := by kernel_rfl
@[simp] theorem lk5 : Try.prog.lk 5 = some (false, 1) := by kernel_rfl
@[simp] theorem sz5 : Try.prog.szO 5 = some 1 := by kernel_rfl
@[simp] theorem bz5 : Try.prog.bz 5 = some (1, (.int .u8 0)) := by kernel_rfl
@[simp] theorem un5 : (Try.prog.underlying 5).isSome = true := by kernel_rfl
@[simp] theorem tk6 : Try.prog.tk 6 = .int .u8 := by kernel_rfl
@[simp] theorem lk6 : Try.prog.lk 6 = some (false, 1) := by kernel_rfl
@[simp] theorem sz6 : Try.prog.szO 6 = some 1 := by kernel_rfl
@[simp] theorem bz6 : Try.prog.bz 6 = some (1, (.int .u8 0)) := by kernel_rfl
@[simp] theorem un6 : (Try.prog.underlying 6).isSome = true := by kernel_rfl
@[simp] theorem tk9 : Try.prog.tk 9 = .str := by kernel_rfl
@[simp] theorem lk9 : Try.prog.lk 9 = some (false, 1) := by kernel_rfl
@[simp] theorem sz9 : Try.prog.szO 9 = some 1 := by kernel_rfl
@[simp] theorem bz9 : Try.prog.bz 9 = some (16, (.string ⟨#[]⟩)) := by kernel_rfl
@[simp] theorem un9 : (Try.prog.underlying 9).isSome = true := by kernel_rfl
@[simp] theorem tk22 : Try.prog.tk 22 = .slice 88 2 := by kernel_rfl
@[simp] theorem lk22 : Try.prog.lk 22 = some (false, 1) := by kernel_rfl
@[simp] theorem sz22 : Try.prog.szO 22 = some 1 := by kernel_rfl
@[simp] theorem bz22 : Try.prog.bz 22 = some (24, (.slice none 0 0)) := by kernel_rfl
@[simp] theorem un22 : (Try.prog.underlying 22).isSome = true := by kernel_rfl
@[simp] theorem tk24 : Try.prog.tk 24 = .struct [⟨0, false, 1⟩, ⟨1, false, 1⟩] := by kernel_rfl
@[simp] theorem lk24 : Try.prog.lk 24 = some (true, 2) := by kernel_rfl
@[simp] theorem sz24 : Try.prog.szO 24 = some 2 := by kernel_rfl
@[simp] theorem bz24 : Try.prog.bz 24 = some (32, (.agg #[(.int .i64 0), (.slice none 0 0)])) := by kernel_rfl
@[simp] theorem un24 : (Try.prog.underlying 24).isSome = true := by kernel_rfl
@[simp] theorem tk25 : Try.prog.tk 25 = .slice 3 1 := by kernel_rfl
@[simp] theorem lk25 : Try.prog.lk 25 = some (false, 1) := by kernel_rfl
@[simp] theorem sz25 : Try.prog.szO 25 = some 1 := by kernel_rfl
@[simp] theorem bz25 : Try.prog.bz 25 = some (24, (.slice none 0 0)) := by kernel_rfl
@[simp] theorem un25 : (Try.prog.underlying 25).isSome = true := by kernel_rfl
@[simp] theorem tk29 : Try.prog.tk 29 = .slice 84 2 := by kernel_rfl
@[simp] theorem lk29 : Try.prog.lk 29 = some (false, 1) := by kernel_rfl
@[simp] theorem sz29 : Try.prog.szO 29 = some 1 := by kernel_rfl
@[simp] theorem bz29 : Try.prog.bz 29 = some (24, (.slice none 0 0)) := by kernel_rfl
@[simp] theorem un29 : (Try.prog.underlying 29).isSome = true := by kernel_rfl
@[simp] theorem tk31 : Try.prog.tk 31 = .struct [⟨0, false, 1⟩, ⟨1, false, 1⟩] := by kernel_rfl
@[simp] theorem lk31 : Try.prog.lk 31 = some (true, 2) := by kernel_rfl
@[simp] theorem sz31 : Try.prog.szO 31 = some 2 := by kernel_rfl
@[simp] theorem bz31 : Try.prog.bz 31 = some (32, (.agg #[(.int .i64 0), (.slice none 0 0)])) := by kernel_rfl
@[simp] theorem un31 : (Try.prog.underlying 31).isSome = true := by kernel_rfl
@[simp] theorem tk39 : Try.prog.tk 39 = .slice 5 1 := by kernel_rfl
@[simp] theorem lk39 : Try.prog.lk 39 = some (false, 1) := by kernel_rfl
@[simp] theorem sz39 : Try.prog.szO 39 = some 1 := by kernel_rfl
@[simp] theorem bz39 : Try.prog.bz 39 = some (24, (.slice none 0 0)) := by kernel_rfl
@[simp] theorem un39 : (Try.prog.underlying 39).isSome = true := by kernel_rfl
@[simp] theorem tk53 : Try.prog.tk 53 = .slice 80 1 := by kernel_rfl
@[simp] theorem lk53 : Try.prog.lk 53 = some (false, 1) := by kernel_rfl
@[simp] theorem sz53 : Try.prog.szO 53 = some 1 := by kernel_rfl
@[simp] theorem bz53 : Try.prog.bz 53 = some (24, (.slice none 0 0)) := by kernel_rfl
@[simp] theorem un53 : (Try.prog.underlying 53).isSome = true := by kernel_rfl
@[simp] theorem tk59 : Try.prog.tk 59 = .slice 90 1 := by kernel_rfl
@[simp] theorem lk59 : Try.prog.lk 59 = some (false, 1) := by kernel_rfl
@[simp] theorem sz59 : Try.prog.szO 59 = some 1 := by kernel_rfl
@[simp] theorem bz59 : Try.prog.bz 59 = some (24, (.slice none 0 0)) := by kernel_rfl
@[simp] theorem un59 : (Try.prog.underlying 59).isSome = true := by kernel_rfl
@[simp] theorem tk64 : Try.prog.tk 64 = .ptr 67 := by kernel_rfl
@[simp] theorem lk64 : Try.prog.lk 64 = some (false, 1) := by kernel_rfl
@[simp] theorem sz64 : Try.prog.szO 64 = some 1 := by kernel_rfl
@[simp] theorem bz64 : Try.prog.bz 64 = some (8, (.pointer none)) := by kernel_rfl
@[simp] theorem un64 : (Try.prog.underlying 64).isSome = true := by kernel_rfl
@[simp] theorem tk65 : Try.prog.tk 65 = .int .u64 := by kernel_rfl
@[simp] theorem lk65 : Try.prog.lk 65 = some (false, 1) := by kernel_rfl
@[simp] theorem sz65 : Try.prog.szO 65 = some 1 := by kernel_rfl
@[simp] theorem bz65 : Try.prog.bz 65 = some (8, (.int .u64 0)) := by kernel_rfl
@[simp] theorem un65 : (Try.prog.underlying 65).isSome = true := by kernel_rfl
@[simp] theorem tk67 : Try.prog.tk 67 = .struct [⟨0, false, 1⟩, ⟨1, false, 1⟩, ⟨2, false, 1⟩] := by kernel_rfl
@[simp] theorem lk67 : Try.prog.lk 67 = some (true, 3) := by kernel_rfl
@[simp] theorem sz67 : Try.prog.szO 67 = some 3 := by kernel_rfl
@[simp] theorem bz67 : Try.prog.bz 67 = some (40, (.agg #[(.slice none 0 0), (.int .i64 0), (.int .u64 0)])) := by kernel_rfl
@[simp] theorem un67 : (Try.prog.underlying 67).isSome = true := by kernel_rfl
@[simp] theorem tk80 : Try.prog.tk 80 = .slice 4 1 := by kernel_rfl
@[simp] theorem lk80 : Try.prog.lk 80 = some (false, 1) := by kernel_rfl
@[simp] theorem sz80 : Try.prog.szO 80 = some 1 := by kernel_rfl
@[simp] theorem bz80 : Try.prog.bz 80 = some (24, (.slice none 0 0)) := by kernel_rfl
@[simp] theorem un80 : (Try.prog.underlying 80).isSome = true := by kernel_rfl
@[simp] theorem tk84 : Try.prog.tk 84 = .struct [⟨0, false, 1⟩, ⟨1, false, 1⟩] := by kernel_rfl
@[simp] theorem lk84 : Try.prog.lk 84 = some (true, 2) := by kernel_rfl
@[simp] theorem sz84 : Try.prog.szO 84 = some 2 := by kernel_rfl
@[simp] theorem bz84 : Try.prog.bz 84 = some (16, (.agg #[(.int .i64 0), (.int .i64 0)])) := by kernel_rfl
@[simp] theorem un84 : (Try.prog.underlying 84).isSome = true := by kernel_rfl
@[simp] theorem tk88 : Try.prog.tk 88 = .struct [⟨0, false, 1⟩, ⟨1, false, 1⟩] := by kernel_rfl
@[simp] theorem lk88 : Try.prog.lk 88 = some (true, 2) := by kernel_rfl
@[simp] theorem sz88 : Try.prog.szO 88 = some 2 := by kernel_rfl
@[simp] theorem bz88 : Try.prog.bz 88 = some (16, (.agg #[(.int .i64 0), (.int .i64 0)])) := by kernel_rfl
@[simp] theorem un88 : (Try.prog.underlying 88).isSome = true := by kernel_rfl
@[simp] theorem tk90 : Try.prog.tk 90 = .int .u16 := by kernel_rfl
@[simp] theorem lk90 : Try.prog.lk 90 = some (false, 1) := by kernel_rfl
@[simp] theorem sz90 : Try.prog.szO 90 = some 1 := by kernel_rfl
@[simp] theorem bz90 : Try.prog.bz 90 = some (2, (.int .u16 0)) := by kernel_rfl
@[simp] theorem un90 : (Try.prog.underlying 90).isSome = true := by kernel_rfl
@[simp] theorem tk98 : Try.prog.tk 98 = .func := by kernel_rfl
@[simp] theorem lk98 : Try.prog.lk 98 = some (false, 1) := by kernel_rfl
@[simp] theorem sz98 : Try.prog.szO 98 = some 1 := by kernel_rfl
@[simp] theorem bz98 : Try.prog.bz 98 = some (8, .nilFunc) := by kernel_rfl
@[simp] theorem un98 : (Try.prog.underlying 98).isSome = true := by kernel_rfl
@[simp] theorem tk105 : Try.prog.tk 105 = .int .u64 := by kernel_rfl
@[simp] theorem lk105 : Try.prog.lk 105 = some (false, 1) := by kernel_rfl
@[simp] theorem sz105 : Try.prog.szO 105 = some 1 := by kernel_rfl
@[simp] theorem bz105 : Try.prog.bz 105 = some (8, (.int .u64 0)) := by kernel_rfl
@[simp] theorem un105 : (Try.prog.underlying 105).isSome = true := by kernel_rfl
@[simp] theorem tk112 : Try.prog.tk 112 = .int .i64 := by kernel_rfl
@[simp] theorem lk112 : Try.prog.lk 112 = some (false, 1) := by kernel_rfl
@[simp] theorem sz112 : Try.prog.szO 112 = some 1 := by kernel_rfl
@[simp] theorem bz112 : Try.prog.bz 112 = some (8, (.int .i64 0)) := by kernel_rfl
@[simp] theorem un112 : (Try.prog.underlying 112).isSome = true := by kernel_rfl
@[simp] theorem tk118 : Try.prog.tk 118 = .int .u32 := by kernel_rfl
@[simp] theorem lk118 : Try.prog.lk 118 = some (false, 1) := by kernel_rfl
@[simp] theorem sz118 : Try.prog.szO 118 = some 1 := by kernel_rfl
@[simp] theorem bz118 : Try.prog.bz 118 = some (4, (.int .u32 0)) := by kernel_rfl
@[simp] theorem un118 : (Try.prog.underlying 118).isSome = true := by kernel_rfl
@[simp] theorem tk120 : Try.prog.tk 120 = .int .u64 := by kernel_rfl
@[simp] theorem lk120 : Try.prog.lk 120 = some (false, 1) := by kernel_rfl
@[simp] theorem sz120 : Try.prog.szO 120 = some 1 := by kernel_rfl
@[simp] theorem bz120 : Try.prog.bz 120 = some (8, (.int .u64 0)) := by kernel_rfl
@[simp] theorem un120 : (Try.prog.underlying 120).isSome = true := by kernel_rfl
@[simp] theorem tk124 : Try.prog.tk 124 = .ptr 3 := by kernel_rfl
@[simp] theorem lk124 : Try.prog.lk 124 = some (false, 1) := by kernel_rfl
@[simp] theorem sz124 : Try.prog.szO 124 = some 1 := by kernel_rfl
@[simp] theorem bz124 : Try.prog.bz 124 = some (8, (.pointer none)) := by kernel_rfl
@[simp] theorem un124 : (Try.prog.underlying 124).isSome = true := by kernel_rfl
@[simp] theorem ep84 : Try.prog.eqPlain 84 = some 2 := by kernel_rfl
@[simp] theorem pl2 : Try.prog.plain 2 = true := by kernel_rfl
@[simp] theorem pl3 : Try.prog.plain 3 = true := by kernel_rfl
@[simp] theorem pl4 : Try.prog.plain 4 = true := by kernel_rfl
@[simp] theorem pl5 : Try.prog.plain 5 = true := by kernel_rfl
@[simp] theorem pl6 : Try.prog.plain 6 = true := by kernel_rfl
@[simp] theorem pl7 : Try.prog.plain 7 = true := by kernel_rfl
@[simp] theorem pl8 : Try.prog.plain 8 = true := by kernel_rfl
@[simp] theorem pl9 : Try.prog.plain 9 = true := by kernel_rfl
@[simp] theorem pl10 : Try.prog.plain 10 = true := by kernel_rfl
@[simp] theorem pl11 : Try.prog.plain 11 = true := by kernel_rfl
@[simp] theorem pl12 : Try.prog.plain 12 = true := by kernel_rfl
@[simp] theorem pl13 : Try.prog.plain 13 = true := by kernel_rfl
@[simp] theorem pl14 : Try.prog.plain 14 = true := by kernel_rfl
@[simp] theorem pl15 : Try.prog.plain 15 = true := by kernel_rfl
@[simp] theorem pl16 : Try.prog.plain 16 = true := by kernel_rfl
@[simp] theorem pl17 : Try.prog.plain 17 = true := by kernel_rfl
@[simp] theorem pl18 : Try.prog.plain 18 = true := by kernel_rfl
@[simp] theorem pl19 : Try.prog.plain 19 = true := by kernel_rfl
@[simp] theorem pl20 : Try.prog.plain 20 = true := by kernel_rfl
@[simp] theorem pl21 : Try.prog.plain 21 = true := by kernel_rfl
@[simp] theorem pl22 : Try.prog.plain 22 = true := by kernel_rfl
@[simp] theorem pl23 : Try.prog.plain 23 = true := by kernel_rfl
@[simp] theorem pl24 : Try.prog.plain 24 = true := by kernel_rfl
@[simp] theorem pl25 : Try.prog.plain 25 = true := by kernel_rfl
@[simp] theorem pl26 : Try.prog.plain 26 = true := by kernel_rfl
@[simp] theorem pl27 : Try.prog.plain 27 = true := by kernel_rfl
@[simp] theorem pl28 : Try.prog.plain 28 = true := by kernel_rfl
@[simp] theorem pl29 : Try.prog.plain 29 = true := by kernel_rfl
@[simp] theorem pl30 : Try.prog.plain 30 = true := by kernel_rfl
@[simp] theorem pl31 : Try.prog.plain 31 = true := by kernel_rfl
@[simp] theorem pl32 : Try.prog.plain 32 = true := by kernel_rfl
@[simp] theorem pl33 : Try.prog.plain 33 = true := by kernel_rfl
@[simp] theorem pl34 : Try.prog.plain 34 = true := by kernel_rfl
@[simp] theorem pl35 : Try.prog.plain 35 = true := by kernel_rfl
@[simp] theorem pl36 : Try.prog.plain 36 = true := by kernel_rfl
@[simp] theorem pl37 : Try.prog.plain 37 = true := by kernel_rfl
@[simp] theorem pl38 : Try.prog.plain 38 = true := by kernel_rfl
@[simp] theorem pl39 : Try.prog.plain 39 = true := by kernel_rfl
@[simp] theorem pl40 : Try.prog.plain 40 = true := by kernel_rfl
@[simp] theorem pl41 : Try.prog.plain 41 = true := by kernel_rfl
@[simp] theorem pl42 : Try.prog.plain 42 = true := by kernel_rfl
@[simp] theorem pl43 : Try.prog.plain 43 = true := by kernel_rfl
@[simp] theorem pl44 : Try.prog.plain 44 = true := by kernel_rfl
@[simp] theorem pl45 : Try.prog.plain 45 = true := by kernel_rfl
@[simp] theorem pl46 : Try.prog.plain 46 = true := by kernel_rfl
@[simp] theorem pl47 : Try.prog.plain 47 = true := by kernel_rfl
@[simp] theorem pl48 : Try.prog.plain 48 = true := by kernel_rfl
@[simp] theorem pl49 : Try.prog.plain 49 = true := by kernel_rfl
@[simp] theorem pl50 : Try.prog.plain 50 = true := by kernel_rfl
@[simp] theorem pl51 : Try.prog.plain 51 = true := by kernel_rfl
@[simp] theorem pl52 : Try.prog.plain 52 = true := by kernel_rfl
@[simp] theorem pl53 : Try.prog.plain 53 = true := by kernel_rfl
@[simp] theorem pl54 : Try.prog.plain 54 = true := by kernel_rfl
@[simp] theorem pl55 : Try.prog.plain 55 = true := by kernel_rfl
@[simp] theorem pl56 : Try.prog.plain 56 = true := by kernel_rfl
@[simp] theorem pl57 : Try.prog.plain 57 = true := by kernel_rfl
@[simp] theorem pl58 : Try.prog.plain 58 = true := by kernel_rfl
@[simp] theorem pl59 : Try.prog.plain 59 = true := by kernel_rfl
@[simp] theorem pl60 : Try.prog.plain 60 = true := by kernel_rfl
@[simp] theorem pl61 : Try.prog.plain 61 = true := by kernel_rfl
@[simp] theorem pl62 : Try.prog.plain 62 = true := by kernel_rfl
@[simp] theorem pl63 : Try.prog.plain 63 = true := by kernel_rfl
@[simp] theorem pl64 : Try.prog.plain 64 = true := by kernel_rfl
@[simp] theorem pl65 : Try.prog.plain 65 = true := by kernel_rfl
@[simp] theorem pl66 : Try.prog.plain 66 = true := by kernel_rfl
@[simp] theorem pl67 : Try.prog.plain 67 = true := by kernel_rfl
@[simp] theorem pl68 : Try.prog.plain 68 = true := by kernel_rfl
@[simp] theorem pl69 : Try.prog.plain 69 = true := by kernel_rfl
@[simp] theorem pl70 : Try.prog.plain 70 = true := by kernel_rfl
@[simp] theorem pl71 : Try.prog.plain 71 = true := by kernel_rfl
@[simp] theorem pl72 : Try.prog.plain 72 = true := by kernel_rfl
@[simp] theorem pl73 : Try.prog.plain 73 = true := by kernel_rfl
@[simp] theorem pl74 : Try.prog.plain 74 = true := by kernel_rfl
@[simp] theorem pl75 : Try.prog.plain 75 = true := by kernel_rfl
@[simp] theorem pl76 : Try.prog.plain 76 = true := by kernel_rfl
@[simp] theorem pl77 : Try.prog.plain 77 = true := by kernel_rfl
@[simp] theorem pl78 : Try.prog.plain 78 = true := by kernel_rfl
@[simp] theorem pl79 : Try.prog.plain 79 = true := by kernel_rfl
@[simp] theorem pl80 : Try.prog.plain 80 = true := by kernel_rfl
@[simp] theorem pl81 : Try.prog.plain 81 = true := by kernel_rfl
@[simp] theorem pl82 : Try.prog.plain 82 = true := by kernel_rfl
@[simp] theorem pl83 : Try.prog.plain 83 = true := by kernel_rfl
@[simp] theorem pl84 : Try.prog.plain 84 = true := by kernel_rfl
@[simp] theorem pl85 : Try.prog.plain 85 = true := by kernel_rfl
@[simp] theorem pl86 : Try.prog.plain 86 = true := by kernel_rfl
@[simp] theorem pl87 : Try.prog.plain 87 = true := by kernel_rfl
@[simp] theorem pl88 : Try.prog.plain 88 = true := by kernel_rfl
@[simp] theorem pl89 : Try.prog.plain 89 = true := by kernel_rfl
@[simp] theorem pl90 : Try.prog.plain 90 = true := by kernel_rfl
@[simp] theorem pl91 : Try.prog.plain 91 = true := by kernel_rfl
@[simp] theorem pl92 : Try.prog.plain 92 = true := by kernel_rfl
@[simp] theorem pl93 : Try.prog.plain 93 = true := by kernel_rfl
@[simp] theorem pl94 : Try.prog.plain 94 = true := by kernel_rfl
@[simp] theorem pl95 : Try.prog.plain 95 = true := by kernel_rfl
@[simp] theorem pl96 : Try.prog.plain 96 = true := by kernel_rfl
@[simp] theorem pl97 : Try.prog.plain 97 = true := by kernel_rfl
@[simp] theorem pl98 : Try.prog.plain 98 = true := by kernel_rfl
@[simp] theorem pl99 : Try.prog.plain 99 = true := by kernel_rfl
@[simp] theorem pl100 : Try.prog.plain 100 = true := by kernel_rfl
@[simp] theorem pl101 : Try.prog.plain 101 = true := by kernel_rfl
@[simp] theorem pl102 : Try.prog.plain 102 = true := by kernel_rfl
@[simp] theorem pl103 : Try.prog.plain 103 = true := by kernel_rfl
@[simp] theorem pl104 : Try.prog.plain 104 = true := by kernel_rfl
@[simp] theorem pl105 : Try.prog.plain 105 = true := by kernel_rfl
@[simp] theorem pl106 : Try.prog.plain 106 = true := by kernel_rfl
@[simp] theorem pl107 : Try.prog.plain 107 = true := by kernel_rfl
@[simp] theorem pl108 : Try.prog.plain 108 = true := by kernel_rfl
@[simp] theorem pl109 : Try.prog.plain 109 = true := by kernel_rfl
@[simp] theorem pl110 : Try.prog.plain 110 = true := by kernel_rfl
@[simp] theorem pl111 : Try.prog.plain 111 = true := by kernel_rfl
@[simp] theorem pl112 : Try.prog.plain 112 = true := by kernel_rfl
@[simp] theorem pl113 : Try.prog.plain 113 = true := by kernel_rfl
theorem mix : Try.prog.follows .mixedOrders = true := by kernel_rfl
def plan3_13 : Plan := .val 0 (.val 1 (.eff 2 [0] (.eff 3 [] (.val 4 (.nil)))))
def plan4_25 : Plan := .val 0 (.val 1 (.val 2 (.val 3 (.val 4 (.val 5 (.val 6 (.val 7 (.val 8 (.val 9 (.val 10 (.val 11 (.val 12 (.val 13 (.nil))))))))))))))
def plan10_6 : Plan := .val 0 (.val 1 (.val 2 (.val 3 (.val 4 (.val 5 (.val 6 (.val 7 (.val 8 (.nil)))))))))
def plan23_6 : Plan := .val 0 (.val 1 (.val 2 (.val 3 (.val 4 (.val 5 (.val 6 (.val 7 (.val 8 (.nil)))))))))
def plan31_9 : Plan := .val 0 (.val 1 (.val 2 (.val 3 (.val 4 (.val 5 (.val 6 (.val 7 (.eff 8 [] (.nil)))))))))
def plan31_10 : Plan := .val 0 (.val 1 (.val 2 (.val 3 (.val 4 (.val 5 (.val 6 (.val 7 (.eff 8 [] (.nil)))))))))
def plan36_5 : Plan := .val 0 (.val 1 (.val 2 (.val 3 (.val 4 (.val 5 (.val 6 (.val 7 (.val 8 (.val 9 (.eff 10 [] (.nil)))))))))))
def plan36_6 : Plan := .val 0 (.val 1 (.val 2 (.val 3 (.val 4 (.val 5 (.val 6 (.val 7 (.val 8 (.val 9 (.eff 10 [] (.nil)))))))))))
def plan39_6 : Plan := .val 0 (.val 1 (.val 2 (.val 3 (.val 4 (.val 5 (.val 6 (.val 7 (.eff 8 [] (.val 9 (.nil))))))))))
def plan42_6 : Plan := .val 0 (.val 1 (.val 2 (.val 4 (.two 3 [1] (.eff 5 [1] (.eff 6 [1] (.val 7 (.eff 8 [1] (.eff 9 [] (.val 10 (.eff 11 [] (.nil)))))))) 5 [1] (.eff 3 [1] (.eff 6 [1] (.val 7 (.eff 8 [1] (.eff 9 [] (.val 10 (.eff 11 [] (.nil))))))))))))
def plan44_9 : Plan := .val 0 (.val 1 (.val 2 (.val 3 (.val 4 (.val 5 (.val 6 (.val 7 (.val 8 (.val 9 (.val 10 (.val 11 (.val 12 (.val 13 (.val 14 (.val 15 (.val 16 (.val 17 (.val 18 (.eff 19 [] (.nil))))))))))))))))))))
def plan45_4 : Plan := .val 0 (.val 1 (.val 2 (.val 3 (.val 4 (.val 5 (.val 6 (.val 7 (.val 8 (.val 9 (.val 10 (.val 11 (.val 12 (.val 13 (.val 14 (.val 15 (.val 16 (.val 17 (.val 18 (.val 19 (.val 20 (.val 21 (.val 22 (.val 23 (.val 24 (.val 25 (.val 26 (.val 27 (.eff 28 [] (.val 29 (.val 30 (.val 31 (.nil))))))))))))))))))))))))))))))))
def plan46_7 : Plan := .val 0 (.val 4 (.val 5 (.val 6 (.eff 1 [5] (.eff 2 [5] (.val 3 (.val 7 (.val 8 (.nil)))))))))
def plan56_0 : Plan := .val 0 (.val 1 (.val 2 (.val 3 (.val 4 (.val 5 (.val 6 (.val 7 (.eff 8 [] (.nil)))))))))
def plan56_1 : Plan := .val 0 (.val 1 (.val 2 (.val 3 (.val 4 (.val 5 (.val 6 (.val 7 (.eff 8 [] (.nil)))))))))
def plan60_6 : Plan := .val 0 (.val 1 (.val 2 (.val 3 (.val 4 (.val 5 (.val 6 (.val 7 (.val 8 (.nil)))))))))
def plan61_6 : Plan := .val 0 (.val 1 (.val 2 (.val 3 (.val 4 (.eff 5 [] (.val 6 (.val 7 (.val 8 (.val 9 (.val 10 (.val 11 (.val 12 (.val 13 (.val 14 (.val 15 (.eff 16 [] (.val 17 (.val 18 (.val 19 (.val 20 (.val 21 (.val 22 (.val 23 (.val 24 (.val 25 (.val 26 (.val 27 (.val 28 (.val 29 (.eff 30 [] (.val 31 (.val 32 (.val 33 (.nil))))))))))))))))))))))))))))))))))
def plan63_5 : Plan := .val 0 (.val 1 (.val 2 (.val 3 (.val 4 (.val 5 (.val 6 (.val 7 (.val 8 (.val 9 (.val 10 (.val 11 (.val 12 (.val 13 (.val 14 (.nil)))))))))))))))
def plan71_8 : Plan := .val 0 (.val 1 (.val 2 (.val 3 (.val 4 (.val 5 (.val 6 (.val 7 (.val 8 (.val 9 (.val 10 (.val 11 (.val 12 (.val 13 (.eff 14 [] (.nil)))))))))))))))
def plan72_2 : Plan := .val 0 (.val 1 (.val 2 (.val 3 (.val 4 (.val 5 (.val 6 (.val 7 (.val 8 (.val 9 (.nil))))))))))
def plan72_3 : Plan := .val 0 (.val 1 (.val 2 (.val 3 (.val 4 (.val 5 (.val 6 (.val 7 (.val 8 (.val 9 (.val 10 (.val 11 (.nil))))))))))))
def plan72_6 : Plan := .val 0 (.val 1 (.val 2 (.val 3 (.val 4 (.val 5 (.val 6 (.val 7 (.val 8 (.val 9 (.nil))))))))))
def plan73_1 : Plan := .val 0 (.val 1 (.val 2 (.val 3 (.val 5 (.val 6 (.val 7 (.val 8 (.eff 4 [6, 8] (.eff 9 [] (.eff 10 [] (.eff 11 [] (.val 12 (.nil)))))))))))))
def plan76_6 : Plan := .val 0 (.val 1 (.val 2 (.val 3 (.val 4 (.val 5 (.val 6 (.val 7 (.val 8 (.val 9 (.nil))))))))))
def plan76_11 : Plan := .val 0 (.val 1 (.val 2 (.val 3 (.val 4 (.val 5 (.val 6 (.val 7 (.val 8 (.val 9 (.nil))))))))))
def plan80_1 : Plan := .val 0 (.val 1 (.val 2 (.val 3 (.val 4 (.val 5 (.val 6 (.val 7 (.val 8 (.nil)))))))))
def plan84_6 : Plan := .val 0 (.val 1 (.val 2 (.val 3 (.val 4 (.val 5 (.val 6 (.val 7 (.val 8 (.nil)))))))))
def plan87_3 : Plan := .val 0 (.val 1 (.val 2 (.val 3 (.val 4 (.val 5 (.val 6 (.val 7 (.val 8 (.val 9 (.val 10 (.val 11 (.val 12 (.eff 13 [] (.val 14 (.eff 15 [] (.nil))))))))))))))))
def plan95_17 : Plan := .val 0 (.val 1 (.val 2 (.val 3 (.val 4 (.val 5 (.val 6 (.val 7 (.val 8 (.val 9 (.val 10 (.val 11 (.eff 12 [] (.val 13 (.val 14 (.nil)))))))))))))))
def plan97_4 : Plan := .val 0 (.val 1 (.val 2 (.val 3 (.val 4 (.val 5 (.val 6 (.val 7 (.val 8 (.val 9 (.val 10 (.val 11 (.val 12 (.eff 13 [] (.val 14 (.nil)))))))))))))))
def plan97_6 : Plan := .val 0 (.val 1 (.val 2 (.val 3 (.val 4 (.val 5 (.val 6 (.val 7 (.val 8 (.val 9 (.val 10 (.val 11 (.val 12 (.val 13 (.val 14 (.eff 15 [] (.val 16 (.eff 17 [] (.nil))))))))))))))))))
def plan98_10 : Plan := .val 0 (.val 1 (.val 2 (.val 3 (.val 4 (.val 5 (.val 6 (.val 7 (.val 8 (.val 9 (.val 10 (.val 11 (.val 12 (.val 13 (.val 14 (.val 15 (.val 16 (.eff 17 [] (.val 18 (.eff 19 [] (.nil))))))))))))))))))))
def plan99_10 : Plan := .val 0 (.val 1 (.val 2 (.val 3 (.val 4 (.val 5 (.val 6 (.val 7 (.val 8 (.val 9 (.val 10 (.val 11 (.val 12 (.val 13 (.val 14 (.val 15 (.val 16 (.eff 17 [] (.val 18 (.eff 19 [] (.nil))))))))))))))))))))
def plan101_3 : Plan := .val 0 (.val 1 (.val 2 (.val 3 (.val 4 (.val 5 (.val 6 (.val 7 (.val 8 (.val 9 (.val 10 (.val 11 (.val 12 (.eff 13 [] (.val 14 (.eff 15 [] (.nil))))))))))))))))
def plan102_5 : Plan := .val 0 (.val 1 (.val 2 (.val 3 (.val 4 (.val 5 (.val 6 (.val 7 (.val 8 (.val 9 (.val 10 (.val 11 (.val 12 (.eff 13 [] (.val 14 (.val 15 (.nil))))))))))))))))
def plan102_11 : Plan := .val 0 (.val 1 (.val 2 (.val 3 (.val 4 (.val 5 (.val 6 (.val 7 (.val 8 (.val 9 (.val 10 (.val 11 (.val 12 (.val 13 (.val 14 (.eff 15 [] (.val 16 (.eff 17 [] (.nil))))))))))))))))))
def plan102_16 : Plan := .val 0 (.val 1 (.val 2 (.val 3 (.val 4 (.val 5 (.val 6 (.val 7 (.val 8 (.eff 9 [] (.val 10 (.nil)))))))))))
def plan102_17 : Plan := .val 0 (.val 1 (.val 2 (.val 3 (.val 4 (.val 5 (.val 6 (.val 7 (.val 8 (.val 9 (.val 10 (.val 11 (.val 12 (.val 13 (.val 14 (.eff 15 [] (.val 16 (.eff 17 [] (.nil))))))))))))))))))
def plan102_22 : Plan := .val 0 (.val 1 (.val 2 (.val 3 (.val 4 (.val 5 (.val 6 (.val 7 (.val 8 (.eff 9 [] (.val 10 (.nil)))))))))))
def plan102_23 : Plan := .val 0 (.val 1 (.val 2 (.val 3 (.val 4 (.val 5 (.val 6 (.val 7 (.val 8 (.val 9 (.val 10 (.val 11 (.val 12 (.val 13 (.val 14 (.eff 15 [] (.val 16 (.eff 17 [] (.nil))))))))))))))))))
def plan104_1 : Plan := .val 0 (.val 1 (.val 2 (.val 3 (.val 4 (.val 5 (.val 6 (.val 7 (.val 8 (.val 9 (.val 10 (.val 11 (.val 12 (.eff 13 [] (.val 14 (.eff 15 [] (.nil))))))))))))))))
def plan104_3 : Plan := .val 0 (.val 1 (.val 2 (.val 3 (.val 4 (.val 5 (.val 6 (.val 7 (.val 8 (.val 9 (.val 10 (.val 11 (.eff 12 [] (.val 13 (.val 14 (.nil)))))))))))))))
def plan104_5 : Plan := .val 0 (.val 1 (.val 2 (.val 3 (.val 4 (.val 5 (.val 6 (.val 7 (.val 8 (.val 9 (.val 10 (.val 11 (.eff 12 [] (.val 13 (.nil))))))))))))))
def plan104_8 : Plan := .val 0 (.val 1 (.val 2 (.val 3 (.val 4 (.val 5 (.val 6 (.val 7 (.val 8 (.val 9 (.val 10 (.val 11 (.val 12 (.eff 13 [] (.val 14 (.eff 15 [] (.nil))))))))))))))))
def plan105_1 : Plan := .val 0 (.val 1 (.val 2 (.val 3 (.val 4 (.val 5 (.val 6 (.val 7 (.val 8 (.val 9 (.val 10 (.val 11 (.val 12 (.eff 13 [] (.val 14 (.eff 15 [] (.nil))))))))))))))))
def plan105_3 : Plan := .val 0 (.val 1 (.val 2 (.val 3 (.val 4 (.val 5 (.val 6 (.val 7 (.val 8 (.val 9 (.val 10 (.val 11 (.eff 12 [] (.val 13 (.nil))))))))))))))
def plan105_5 : Plan := .val 0 (.val 1 (.val 2 (.val 3 (.val 4 (.val 5 (.val 6 (.val 7 (.val 8 (.val 9 (.val 10 (.val 11 (.eff 12 [] (.val 13 (.val 14 (.nil)))))))))))))))
def plan105_8 : Plan := .val 0 (.val 1 (.val 2 (.val 3 (.val 4 (.val 5 (.val 6 (.val 7 (.val 8 (.val 9 (.val 10 (.val 11 (.val 12 (.eff 13 [] (.val 14 (.eff 15 [] (.nil))))))))))))))))
def plan105_10 : Plan := .val 0 (.val 1 (.val 2 (.val 3 (.val 4 (.val 5 (.val 6 (.val 7 (.val 8 (.val 9 (.val 10 (.val 11 (.val 12 (.eff 13 [] (.val 14 (.eff 15 [] (.nil))))))))))))))))
def plan105_13 : Plan := .val 0 (.val 1 (.val 2 (.val 3 (.val 4 (.val 5 (.val 6 (.val 7 (.val 8 (.val 9 (.val 10 (.val 11 (.eff 12 [] (.val 13 (.nil))))))))))))))
def plan105_15 : Plan := .val 0 (.val 1 (.val 2 (.val 3 (.val 4 (.val 5 (.val 6 (.val 7 (.val 8 (.val 9 (.val 10 (.val 11 (.eff 12 [] (.val 13 (.val 14 (.nil)))))))))))))))
def plan105_18 : Plan := .val 0 (.val 1 (.val 2 (.val 3 (.val 4 (.val 5 (.val 6 (.val 7 (.val 8 (.val 9 (.val 10 (.val 11 (.val 12 (.eff 13 [] (.val 14 (.eff 15 [] (.nil))))))))))))))))
def plan105_21 : Plan := .val 0 (.val 1 (.val 2 (.val 3 (.val 4 (.val 5 (.val 6 (.val 7 (.val 8 (.val 9 (.val 10 (.val 11 (.val 12 (.eff 13 [] (.val 14 (.eff 15 [] (.nil))))))))))))))))
def plan108_3 : Plan := .val 0 (.val 1 (.val 2 (.val 3 (.val 4 (.val 5 (.val 6 (.val 7 (.val 8 (.val 9 (.val 10 (.val 11 (.val 12 (.val 13 (.val 14 (.val 15 (.val 16 (.val 17 (.eff 18 [] (.val 19 (.nil))))))))))))))))))))
def plan108_5 : Plan := .val 0 (.val 1 (.val 2 (.val 3 (.val 4 (.val 5 (.val 6 (.val 7 (.val 8 (.val 9 (.val 10 (.val 11 (.eff 12 [] (.val 13 (.nil))))))))))))))
def plan108_6 : Plan := .val 0 (.val 1 (.val 2 (.val 3 (.val 4 (.val 5 (.val 6 (.val 7 (.val 8 (.val 9 (.val 10 (.val 11 (.val 12 (.val 13 (.val 14 (.val 15 (.val 16 (.val 17 (.val 18 (.val 19 (.val 20 (.eff 21 [] (.val 22 (.eff 23 [] (.nil))))))))))))))))))))))))
def plan110_1 : Plan := .val 0 (.val 1 (.val 2 (.val 3 (.val 4 (.val 5 (.val 6 (.val 7 (.val 8 (.eff 9 [] (.nil))))))))))
def plan110_2 : Plan := .val 0 (.val 1 (.val 2 (.val 3 (.val 4 (.val 5 (.val 6 (.val 7 (.val 8 (.eff 9 [] (.nil))))))))))
def plan110_3 : Plan := .val 0 (.val 1 (.val 2 (.val 3 (.val 4 (.val 5 (.val 6 (.val 7 (.val 8 (.eff 9 [] (.nil))))))))))
def plan113_1 : Plan := .val 0 (.val 1 (.val 2 (.val 3 (.val 4 (.val 5 (.val 6 (.val 7 (.eff 8 [] (.nil)))))))))
end Go.Proofs.Ythkmbfifiojmhaa
