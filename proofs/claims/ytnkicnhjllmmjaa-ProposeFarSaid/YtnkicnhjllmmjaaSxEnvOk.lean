/- What the evaluator is told of the program is so: printed by a program of our own (genenv.py). -/
import Derived.Test.YtnkicnhjllmmjaaSxEnv
import Derived.Test.YtnkicnhjllmmjaaSx22
import Derived.KernelRfl
namespace Go.Proofs.Ytnkicnhjllmmjaa.Sx
open Go
set_option maxRecDepth 100000

theorem ty1_ok : tyOf Try.prog 1 = some ty1 := by kernel_rfl
theorem ty2_ok : tyOf Try.prog 2 = some ty2 := by kernel_rfl
theorem ty3_ok : tyOf Try.prog 3 = some ty3 := by kernel_rfl
theorem ty4_ok : tyOf Try.prog 4 = some ty4 := by kernel_rfl
theorem ty5_ok : tyOf Try.prog 5 = some ty5 := by kernel_rfl
theorem ty6_ok : tyOf Try.prog 6 = some ty6 := by kernel_rfl
theorem ty7_ok : tyOf Try.prog 7 = some ty7 := by kernel_rfl
theorem ty8_ok : tyOf Try.prog 8 = some ty8 := by kernel_rfl
theorem ty9_ok : tyOf Try.prog 9 = some ty9 := by kernel_rfl
theorem ty10_ok : tyOf Try.prog 10 = some ty10 := by kernel_rfl
theorem ty11_ok : tyOf Try.prog 11 = some ty11 := by kernel_rfl
theorem ty12_ok : tyOf Try.prog 12 = some ty12 := by kernel_rfl
theorem ty13_ok : tyOf Try.prog 13 = some ty13 := by kernel_rfl
theorem ty14_ok : tyOf Try.prog 14 = some ty14 := by kernel_rfl
theorem ty15_ok : tyOf Try.prog 15 = some ty15 := by kernel_rfl
theorem ty16_ok : tyOf Try.prog 16 = some ty16 := by kernel_rfl
theorem ty17_ok : tyOf Try.prog 17 = some ty17 := by kernel_rfl
theorem ty18_ok : tyOf Try.prog 18 = some ty18 := by kernel_rfl
theorem ty19_ok : tyOf Try.prog 19 = some ty19 := by kernel_rfl
theorem ty20_ok : tyOf Try.prog 20 = some ty20 := by kernel_rfl
theorem ty21_ok : tyOf Try.prog 21 = some ty21 := by kernel_rfl
theorem ty22_ok : tyOf Try.prog 22 = some ty22 := by kernel_rfl
theorem ty23_ok : tyOf Try.prog 23 = some ty23 := by kernel_rfl
theorem ty24_ok : tyOf Try.prog 24 = some ty24 := by kernel_rfl
theorem ty25_ok : tyOf Try.prog 25 = some ty25 := by kernel_rfl
theorem ty26_ok : tyOf Try.prog 26 = some ty26 := by kernel_rfl
theorem ty27_ok : tyOf Try.prog 27 = some ty27 := by kernel_rfl
theorem ty28_ok : tyOf Try.prog 28 = some ty28 := by kernel_rfl
theorem ty29_ok : tyOf Try.prog 29 = some ty29 := by kernel_rfl
theorem ty30_ok : tyOf Try.prog 30 = some ty30 := by kernel_rfl
theorem ty31_ok : tyOf Try.prog 31 = some ty31 := by kernel_rfl
theorem ty33_ok : tyOf Try.prog 33 = some ty33 := by kernel_rfl
theorem ty34_ok : tyOf Try.prog 34 = some ty34 := by kernel_rfl
theorem ty36_ok : tyOf Try.prog 36 = some ty36 := by kernel_rfl
theorem ty37_ok : tyOf Try.prog 37 = some ty37 := by kernel_rfl
theorem ty38_ok : tyOf Try.prog 38 = some ty38 := by kernel_rfl
theorem ty39_ok : tyOf Try.prog 39 = some ty39 := by kernel_rfl
theorem ty40_ok : tyOf Try.prog 40 = some ty40 := by kernel_rfl
theorem ty41_ok : tyOf Try.prog 41 = some ty41 := by kernel_rfl
theorem ty42_ok : tyOf Try.prog 42 = some ty42 := by kernel_rfl
theorem ty43_ok : tyOf Try.prog 43 = some ty43 := by kernel_rfl
theorem ty44_ok : tyOf Try.prog 44 = some ty44 := by kernel_rfl
theorem ty45_ok : tyOf Try.prog 45 = some ty45 := by kernel_rfl
theorem ty46_ok : tyOf Try.prog 46 = some ty46 := by kernel_rfl
theorem ty47_ok : tyOf Try.prog 47 = some ty47 := by kernel_rfl
theorem ty48_ok : tyOf Try.prog 48 = some ty48 := by kernel_rfl
theorem ty49_ok : tyOf Try.prog 49 = some ty49 := by kernel_rfl
theorem ty50_ok : tyOf Try.prog 50 = some ty50 := by kernel_rfl
theorem ty51_ok : tyOf Try.prog 51 = some ty51 := by kernel_rfl
theorem ty52_ok : tyOf Try.prog 52 = some ty52 := by kernel_rfl
theorem ty53_ok : tyOf Try.prog 53 = some ty53 := by kernel_rfl
theorem ty54_ok : tyOf Try.prog 54 = some ty54 := by kernel_rfl
theorem ty55_ok : tyOf Try.prog 55 = some ty55 := by kernel_rfl
theorem ty56_ok : tyOf Try.prog 56 = some ty56 := by kernel_rfl
theorem ty57_ok : tyOf Try.prog 57 = some ty57 := by kernel_rfl
theorem ty58_ok : tyOf Try.prog 58 = some ty58 := by kernel_rfl
theorem ty60_ok : tyOf Try.prog 60 = some ty60 := by kernel_rfl
theorem ty61_ok : tyOf Try.prog 61 = some ty61 := by kernel_rfl
theorem ty62_ok : tyOf Try.prog 62 = some ty62 := by kernel_rfl
theorem ty63_ok : tyOf Try.prog 63 = some ty63 := by kernel_rfl
theorem ty64_ok : tyOf Try.prog 64 = some ty64 := by kernel_rfl
theorem ty65_ok : tyOf Try.prog 65 = some ty65 := by kernel_rfl
theorem ty66_ok : tyOf Try.prog 66 = some ty66 := by kernel_rfl
theorem ty67_ok : tyOf Try.prog 67 = some ty67 := by kernel_rfl
theorem ty68_ok : tyOf Try.prog 68 = some ty68 := by kernel_rfl
theorem ty69_ok : tyOf Try.prog 69 = some ty69 := by kernel_rfl
theorem ty70_ok : tyOf Try.prog 70 = some ty70 := by kernel_rfl
theorem ty71_ok : tyOf Try.prog 71 = some ty71 := by kernel_rfl
theorem ty72_ok : tyOf Try.prog 72 = some ty72 := by kernel_rfl
theorem ty73_ok : tyOf Try.prog 73 = some ty73 := by kernel_rfl
theorem ty74_ok : tyOf Try.prog 74 = some ty74 := by kernel_rfl
theorem ty75_ok : tyOf Try.prog 75 = some ty75 := by kernel_rfl
theorem ty76_ok : tyOf Try.prog 76 = some ty76 := by kernel_rfl
theorem ty78_ok : tyOf Try.prog 78 = some ty78 := by kernel_rfl
theorem ty79_ok : tyOf Try.prog 79 = some ty79 := by kernel_rfl
theorem ty81_ok : tyOf Try.prog 81 = some ty81 := by kernel_rfl
theorem ty82_ok : tyOf Try.prog 82 = some ty82 := by kernel_rfl
theorem ty83_ok : tyOf Try.prog 83 = some ty83 := by kernel_rfl
theorem ty84_ok : tyOf Try.prog 84 = some ty84 := by kernel_rfl
theorem ty85_ok : tyOf Try.prog 85 = some ty85 := by kernel_rfl
theorem ty86_ok : tyOf Try.prog 86 = some ty86 := by kernel_rfl
theorem ty87_ok : tyOf Try.prog 87 = some ty87 := by kernel_rfl
theorem ty88_ok : tyOf Try.prog 88 = some ty88 := by kernel_rfl
theorem ty90_ok : tyOf Try.prog 90 = some ty90 := by kernel_rfl
theorem ty91_ok : tyOf Try.prog 91 = some ty91 := by kernel_rfl
theorem ty92_ok : tyOf Try.prog 92 = some ty92 := by kernel_rfl
theorem ty93_ok : tyOf Try.prog 93 = some ty93 := by kernel_rfl
theorem ty94_ok : tyOf Try.prog 94 = some ty94 := by kernel_rfl
theorem ty95_ok : tyOf Try.prog 95 = some ty95 := by kernel_rfl
theorem ty96_ok : tyOf Try.prog 96 = some ty96 := by kernel_rfl
theorem ty97_ok : tyOf Try.prog 97 = some ty97 := by kernel_rfl
theorem ty98_ok : tyOf Try.prog 98 = some ty98 := by kernel_rfl
theorem ty99_ok : tyOf Try.prog 99 = some ty99 := by kernel_rfl
theorem ty100_ok : tyOf Try.prog 100 = some ty100 := by kernel_rfl
theorem ty101_ok : tyOf Try.prog 101 = some ty101 := by kernel_rfl
theorem ty102_ok : tyOf Try.prog 102 = some ty102 := by kernel_rfl
theorem ty103_ok : tyOf Try.prog 103 = some ty103 := by kernel_rfl
theorem ty104_ok : tyOf Try.prog 104 = some ty104 := by kernel_rfl
theorem ty105_ok : tyOf Try.prog 105 = some ty105 := by kernel_rfl
theorem ty106_ok : tyOf Try.prog 106 = some ty106 := by kernel_rfl
theorem ty107_ok : tyOf Try.prog 107 = some ty107 := by kernel_rfl
theorem ty108_ok : tyOf Try.prog 108 = some ty108 := by kernel_rfl
theorem ty109_ok : tyOf Try.prog 109 = some ty109 := by kernel_rfl
theorem ty110_ok : tyOf Try.prog 110 = some ty110 := by kernel_rfl
theorem ty111_ok : tyOf Try.prog 111 = some ty111 := by kernel_rfl
theorem ty113_ok : tyOf Try.prog 113 = some ty113 := by kernel_rfl
theorem ty114_ok : tyOf Try.prog 114 = some ty114 := by kernel_rfl
theorem ty115_ok : tyOf Try.prog 115 = some ty115 := by kernel_rfl
theorem ty116_ok : tyOf Try.prog 116 = some ty116 := by kernel_rfl
theorem ty117_ok : tyOf Try.prog 117 = some ty117 := by kernel_rfl
theorem ty118_ok : tyOf Try.prog 118 = some ty118 := by kernel_rfl
theorem ty119_ok : tyOf Try.prog 119 = some ty119 := by kernel_rfl
theorem ty120_ok : tyOf Try.prog 120 = some ty120 := by kernel_rfl
theorem ty121_ok : tyOf Try.prog 121 = some ty121 := by kernel_rfl
theorem ty122_ok : tyOf Try.prog 122 = some ty122 := by kernel_rfl
theorem ty123_ok : tyOf Try.prog 123 = some ty123 := by kernel_rfl
theorem ty124_ok : tyOf Try.prog 124 = some ty124 := by kernel_rfl
theorem ty125_ok : tyOf Try.prog 125 = some ty125 := by kernel_rfl
theorem ty126_ok : tyOf Try.prog 126 = some ty126 := by kernel_rfl
theorem ty127_ok : tyOf Try.prog 127 = some ty127 := by kernel_rfl
theorem ty128_ok : tyOf Try.prog 128 = some ty128 := by kernel_rfl
theorem ty129_ok : tyOf Try.prog 129 = some ty129 := by kernel_rfl
theorem ty130_ok : tyOf Try.prog 130 = some ty130 := by kernel_rfl
theorem ty131_ok : tyOf Try.prog 131 = some ty131 := by kernel_rfl
theorem ty132_ok : tyOf Try.prog 132 = some ty132 := by kernel_rfl
theorem ty134_ok : tyOf Try.prog 134 = some ty134 := by kernel_rfl
theorem ty135_ok : tyOf Try.prog 135 = some ty135 := by kernel_rfl
theorem ty136_ok : tyOf Try.prog 136 = some ty136 := by kernel_rfl
theorem ty137_ok : tyOf Try.prog 137 = some ty137 := by kernel_rfl
theorem ty138_ok : tyOf Try.prog 138 = some ty138 := by kernel_rfl
theorem ty139_ok : tyOf Try.prog 139 = some ty139 := by kernel_rfl
theorem ty140_ok : tyOf Try.prog 140 = some ty140 := by kernel_rfl
theorem ty141_ok : tyOf Try.prog 141 = some ty141 := by kernel_rfl
theorem ty142_ok : tyOf Try.prog 142 = some ty142 := by kernel_rfl
theorem ty143_ok : tyOf Try.prog 143 = some ty143 := by kernel_rfl
theorem ty144_ok : tyOf Try.prog 144 = some ty144 := by kernel_rfl
theorem ty145_ok : tyOf Try.prog 145 = some ty145 := by kernel_rfl
theorem ty146_ok : tyOf Try.prog 146 = some ty146 := by kernel_rfl
theorem ty147_ok : tyOf Try.prog 147 = some ty147 := by kernel_rfl
theorem ty148_ok : tyOf Try.prog 148 = some ty148 := by kernel_rfl
theorem ty149_ok : tyOf Try.prog 149 = some ty149 := by kernel_rfl
theorem ty150_ok : tyOf Try.prog 150 = some ty150 := by kernel_rfl
theorem ty151_ok : tyOf Try.prog 151 = some ty151 := by kernel_rfl
theorem ty152_ok : tyOf Try.prog 152 = some ty152 := by kernel_rfl
theorem ty153_ok : tyOf Try.prog 153 = some ty153 := by kernel_rfl
theorem ty154_ok : tyOf Try.prog 154 = some ty154 := by kernel_rfl
theorem ty155_ok : tyOf Try.prog 155 = some ty155 := by kernel_rfl
theorem ty156_ok : tyOf Try.prog 156 = some ty156 := by kernel_rfl
theorem ty157_ok : tyOf Try.prog 157 = some ty157 := by kernel_rfl
theorem ty158_ok : tyOf Try.prog 158 = some ty158 := by kernel_rfl
theorem ty159_ok : tyOf Try.prog 159 = some ty159 := by kernel_rfl
theorem ty160_ok : tyOf Try.prog 160 = some ty160 := by kernel_rfl
theorem types_ok : types.All fun t ty => tyOf Try.prog t = some ty := ⟨⟨⟨⟨⟨⟨⟨⟨trivial, ty127_ok, trivial⟩, ty63_ok, trivial⟩, ty31_ok, ⟨⟨trivial, ty159_ok, trivial⟩, ty95_ok, trivial⟩⟩, ty15_ok, ⟨⟨⟨trivial, ty143_ok, trivial⟩, ty79_ok, trivial⟩, ty47_ok, ⟨trivial, ty111_ok, trivial⟩⟩⟩, ty7_ok, ⟨⟨⟨⟨trivial, ty135_ok, trivial⟩, ty71_ok, trivial⟩, ty39_ok, ⟨trivial, ty103_ok, trivial⟩⟩, ty23_ok, ⟨⟨⟨trivial, ty151_ok, trivial⟩, ty87_ok, trivial⟩, ty55_ok, ⟨trivial, ty119_ok, trivial⟩⟩⟩⟩, ty3_ok, ⟨⟨⟨⟨⟨trivial, ty131_ok, trivial⟩, ty67_ok, trivial⟩, trivial, ⟨trivial, ty99_ok, trivial⟩⟩, ty19_ok, ⟨⟨⟨trivial, ty147_ok, trivial⟩, ty83_ok, trivial⟩, ty51_ok, ⟨trivial, ty115_ok, trivial⟩⟩⟩, ty11_ok, ⟨⟨⟨⟨trivial, ty139_ok, trivial⟩, ty75_ok, trivial⟩, ty43_ok, ⟨trivial, ty107_ok, trivial⟩⟩, ty27_ok, ⟨⟨⟨trivial, ty155_ok, trivial⟩, ty91_ok, trivial⟩, trivial, ⟨trivial, ty123_ok, trivial⟩⟩⟩⟩⟩, ty1_ok, ⟨⟨⟨⟨⟨⟨trivial, ty129_ok, trivial⟩, ty65_ok, trivial⟩, ty33_ok, ⟨trivial, ty97_ok, trivial⟩⟩, ty17_ok, ⟨⟨⟨trivial, ty145_ok, trivial⟩, ty81_ok, trivial⟩, ty49_ok, ⟨trivial, ty113_ok, trivial⟩⟩⟩, ty9_ok, ⟨⟨⟨⟨trivial, ty137_ok, trivial⟩, ty73_ok, trivial⟩, ty41_ok, ⟨trivial, ty105_ok, trivial⟩⟩, ty25_ok, ⟨⟨⟨trivial, ty153_ok, trivial⟩, trivial, trivial⟩, ty57_ok, ⟨trivial, ty121_ok, trivial⟩⟩⟩⟩, ty5_ok, ⟨⟨⟨⟨trivial, ty69_ok, trivial⟩, ty37_ok, ⟨trivial, ty101_ok, trivial⟩⟩, ty21_ok, ⟨⟨⟨trivial, ty149_ok, trivial⟩, ty85_ok, trivial⟩, ty53_ok, ⟨trivial, ty117_ok, trivial⟩⟩⟩, ty13_ok, ⟨⟨⟨⟨trivial, ty141_ok, trivial⟩, trivial, trivial⟩, ty45_ok, ⟨trivial, ty109_ok, trivial⟩⟩, ty29_ok, ⟨⟨⟨trivial, ty157_ok, trivial⟩, ty93_ok, trivial⟩, ty61_ok, ⟨trivial, ty125_ok, trivial⟩⟩⟩⟩⟩⟩, trivial, ⟨⟨⟨⟨⟨⟨⟨trivial, ty128_ok, trivial⟩, ty64_ok, trivial⟩, trivial, ⟨⟨trivial, ty160_ok, trivial⟩, ty96_ok, trivial⟩⟩, ty16_ok, ⟨⟨⟨trivial, ty144_ok, trivial⟩, trivial, trivial⟩, ty48_ok, trivial⟩⟩, ty8_ok, ⟨⟨⟨⟨trivial, ty136_ok, trivial⟩, ty72_ok, trivial⟩, ty40_ok, ⟨trivial, ty104_ok, trivial⟩⟩, ty24_ok, ⟨⟨⟨trivial, ty152_ok, trivial⟩, ty88_ok, trivial⟩, ty56_ok, ⟨trivial, ty120_ok, trivial⟩⟩⟩⟩, ty4_ok, ⟨⟨⟨⟨⟨trivial, ty132_ok, trivial⟩, ty68_ok, trivial⟩, ty36_ok, ⟨trivial, ty100_ok, trivial⟩⟩, ty20_ok, ⟨⟨⟨trivial, ty148_ok, trivial⟩, ty84_ok, trivial⟩, ty52_ok, ⟨trivial, ty116_ok, trivial⟩⟩⟩, ty12_ok, ⟨⟨⟨⟨trivial, ty140_ok, trivial⟩, ty76_ok, trivial⟩, ty44_ok, ⟨trivial, ty108_ok, trivial⟩⟩, ty28_ok, ⟨⟨⟨trivial, ty156_ok, trivial⟩, ty92_ok, trivial⟩, ty60_ok, ⟨trivial, ty124_ok, trivial⟩⟩⟩⟩⟩, ty2_ok, ⟨⟨⟨⟨⟨⟨trivial, ty130_ok, trivial⟩, ty66_ok, trivial⟩, ty34_ok, ⟨trivial, ty98_ok, trivial⟩⟩, ty18_ok, ⟨⟨⟨trivial, ty146_ok, trivial⟩, ty82_ok, trivial⟩, ty50_ok, ⟨trivial, ty114_ok, trivial⟩⟩⟩, ty10_ok, ⟨⟨⟨⟨trivial, ty138_ok, trivial⟩, ty74_ok, trivial⟩, ty42_ok, ⟨trivial, ty106_ok, trivial⟩⟩, ty26_ok, ⟨⟨⟨trivial, ty154_ok, trivial⟩, ty90_ok, trivial⟩, ty58_ok, ⟨trivial, ty122_ok, trivial⟩⟩⟩⟩, ty6_ok, ⟨⟨⟨⟨⟨trivial, ty134_ok, trivial⟩, ty70_ok, trivial⟩, ty38_ok, ⟨trivial, ty102_ok, trivial⟩⟩, ty22_ok, ⟨⟨⟨trivial, ty150_ok, trivial⟩, ty86_ok, trivial⟩, ty54_ok, ⟨trivial, ty118_ok, trivial⟩⟩⟩, ty14_ok, ⟨⟨⟨⟨trivial, ty142_ok, trivial⟩, ty78_ok, trivial⟩, ty46_ok, ⟨trivial, ty110_ok, trivial⟩⟩, ty30_ok, ⟨⟨⟨trivial, ty158_ok, trivial⟩, ty94_ok, trivial⟩, ty62_ok, ⟨trivial, ty126_ok, trivial⟩⟩⟩⟩⟩⟩⟩
theorem funcs_ok : funcs.All fun f fn => Try.prog.funcs[f]? = some fn ∧ (fn.name == "runtime.NumGoroutine") = false := ⟨⟨⟨⟨⟨⟨⟨trivial, ⟨Try.func63, by kernel_rfl⟩, trivial⟩, ⟨Try.func31, by kernel_rfl⟩, ⟨trivial, ⟨Try.func95, by kernel_rfl⟩, trivial⟩⟩, ⟨Try.func15, by kernel_rfl⟩, ⟨⟨trivial, ⟨Try.func79, by kernel_rfl⟩, trivial⟩, ⟨Try.func47, by kernel_rfl⟩, ⟨trivial, ⟨Try.func111, by kernel_rfl⟩, trivial⟩⟩⟩, ⟨Try.func7, by kernel_rfl⟩, ⟨⟨⟨trivial, ⟨Try.func71, by kernel_rfl⟩, trivial⟩, ⟨Try.func39, by kernel_rfl⟩, ⟨trivial, ⟨Try.func103, by kernel_rfl⟩, trivial⟩⟩, ⟨Try.func23, by kernel_rfl⟩, ⟨⟨trivial, ⟨Try.func87, by kernel_rfl⟩, trivial⟩, ⟨Try.func55, by kernel_rfl⟩, ⟨trivial, ⟨Try.func119, by kernel_rfl⟩, trivial⟩⟩⟩⟩, ⟨Try.func3, by kernel_rfl⟩, ⟨⟨⟨⟨trivial, ⟨Try.func67, by kernel_rfl⟩, trivial⟩, ⟨Try.func35, by kernel_rfl⟩, ⟨trivial, ⟨Try.func99, by kernel_rfl⟩, trivial⟩⟩, ⟨Try.func19, by kernel_rfl⟩, ⟨⟨trivial, ⟨Try.func83, by kernel_rfl⟩, trivial⟩, ⟨Try.func51, by kernel_rfl⟩, ⟨trivial, ⟨Try.func115, by kernel_rfl⟩, trivial⟩⟩⟩, ⟨Try.func11, by kernel_rfl⟩, ⟨⟨⟨trivial, ⟨Try.func75, by kernel_rfl⟩, trivial⟩, ⟨Try.func43, by kernel_rfl⟩, ⟨trivial, ⟨Try.func107, by kernel_rfl⟩, trivial⟩⟩, ⟨Try.func27, by kernel_rfl⟩, ⟨⟨trivial, ⟨Try.func91, by kernel_rfl⟩, trivial⟩, ⟨Try.func59, by kernel_rfl⟩, ⟨trivial, ⟨Try.func123, by kernel_rfl⟩, trivial⟩⟩⟩⟩⟩, ⟨Try.func1, by kernel_rfl⟩, ⟨⟨⟨⟨⟨trivial, ⟨Try.func65, by kernel_rfl⟩, trivial⟩, ⟨Try.func33, by kernel_rfl⟩, ⟨trivial, ⟨Try.func97, by kernel_rfl⟩, trivial⟩⟩, ⟨Try.func17, by kernel_rfl⟩, ⟨⟨trivial, ⟨Try.func81, by kernel_rfl⟩, trivial⟩, ⟨Try.func49, by kernel_rfl⟩, ⟨trivial, ⟨Try.func113, by kernel_rfl⟩, trivial⟩⟩⟩, ⟨Try.func9, by kernel_rfl⟩, ⟨⟨⟨trivial, ⟨Try.func73, by kernel_rfl⟩, trivial⟩, ⟨Try.func41, by kernel_rfl⟩, ⟨trivial, ⟨Try.func105, by kernel_rfl⟩, trivial⟩⟩, ⟨Try.func25, by kernel_rfl⟩, ⟨⟨trivial, ⟨Try.func89, by kernel_rfl⟩, trivial⟩, ⟨Try.func57, by kernel_rfl⟩, ⟨trivial, ⟨Try.func121, by kernel_rfl⟩, trivial⟩⟩⟩⟩, ⟨Try.func5, by kernel_rfl⟩, ⟨⟨⟨⟨trivial, ⟨Try.func69, by kernel_rfl⟩, trivial⟩, ⟨Try.func37, by kernel_rfl⟩, ⟨trivial, ⟨Try.func101, by kernel_rfl⟩, trivial⟩⟩, ⟨Try.func21, by kernel_rfl⟩, ⟨⟨trivial, ⟨Try.func85, by kernel_rfl⟩, trivial⟩, ⟨Try.func53, by kernel_rfl⟩, ⟨trivial, ⟨Try.func117, by kernel_rfl⟩, trivial⟩⟩⟩, ⟨Try.func13, by kernel_rfl⟩, ⟨⟨⟨trivial, ⟨Try.func77, by kernel_rfl⟩, trivial⟩, ⟨Try.func45, by kernel_rfl⟩, ⟨trivial, ⟨Try.func109, by kernel_rfl⟩, trivial⟩⟩, ⟨Try.func29, by kernel_rfl⟩, ⟨⟨trivial, ⟨Try.func93, by kernel_rfl⟩, trivial⟩, ⟨Try.func61, by kernel_rfl⟩, trivial⟩⟩⟩⟩⟩, ⟨Try.func0, by kernel_rfl⟩, ⟨⟨⟨⟨⟨⟨trivial, ⟨Try.func64, by kernel_rfl⟩, trivial⟩, ⟨Try.func32, by kernel_rfl⟩, ⟨trivial, ⟨Try.func96, by kernel_rfl⟩, trivial⟩⟩, ⟨Try.func16, by kernel_rfl⟩, ⟨⟨trivial, ⟨Try.func80, by kernel_rfl⟩, trivial⟩, ⟨Try.func48, by kernel_rfl⟩, ⟨trivial, ⟨Try.func112, by kernel_rfl⟩, trivial⟩⟩⟩, ⟨Try.func8, by kernel_rfl⟩, ⟨⟨⟨trivial, ⟨Try.func72, by kernel_rfl⟩, trivial⟩, ⟨Try.func40, by kernel_rfl⟩, ⟨trivial, ⟨Try.func104, by kernel_rfl⟩, trivial⟩⟩, ⟨Try.func24, by kernel_rfl⟩, ⟨⟨trivial, ⟨Try.func88, by kernel_rfl⟩, trivial⟩, ⟨Try.func56, by kernel_rfl⟩, ⟨trivial, ⟨Try.func120, by kernel_rfl⟩, trivial⟩⟩⟩⟩, ⟨Try.func4, by kernel_rfl⟩, ⟨⟨⟨⟨trivial, ⟨Try.func68, by kernel_rfl⟩, trivial⟩, ⟨Try.func36, by kernel_rfl⟩, ⟨trivial, ⟨Try.func100, by kernel_rfl⟩, trivial⟩⟩, ⟨Try.func20, by kernel_rfl⟩, ⟨⟨trivial, ⟨Try.func84, by kernel_rfl⟩, trivial⟩, ⟨Try.func52, by kernel_rfl⟩, ⟨trivial, ⟨Try.func116, by kernel_rfl⟩, trivial⟩⟩⟩, ⟨Try.func12, by kernel_rfl⟩, ⟨⟨⟨trivial, ⟨Try.func76, by kernel_rfl⟩, trivial⟩, ⟨Try.func44, by kernel_rfl⟩, ⟨trivial, ⟨Try.func108, by kernel_rfl⟩, trivial⟩⟩, ⟨Try.func28, by kernel_rfl⟩, ⟨⟨trivial, ⟨Try.func92, by kernel_rfl⟩, trivial⟩, ⟨Try.func60, by kernel_rfl⟩, trivial⟩⟩⟩⟩, ⟨Try.func2, by kernel_rfl⟩, ⟨⟨⟨⟨⟨trivial, ⟨Try.func66, by kernel_rfl⟩, trivial⟩, ⟨Try.func34, by kernel_rfl⟩, ⟨trivial, ⟨Try.func98, by kernel_rfl⟩, trivial⟩⟩, ⟨Try.func18, by kernel_rfl⟩, ⟨⟨trivial, ⟨Try.func82, by kernel_rfl⟩, trivial⟩, ⟨Try.func50, by kernel_rfl⟩, ⟨trivial, ⟨Try.func114, by kernel_rfl⟩, trivial⟩⟩⟩, ⟨Try.func10, by kernel_rfl⟩, ⟨⟨⟨trivial, ⟨Try.func74, by kernel_rfl⟩, trivial⟩, ⟨Try.func42, by kernel_rfl⟩, ⟨trivial, ⟨Try.func106, by kernel_rfl⟩, trivial⟩⟩, ⟨Try.func26, by kernel_rfl⟩, ⟨⟨trivial, ⟨Try.func90, by kernel_rfl⟩, trivial⟩, ⟨Try.func58, by kernel_rfl⟩, ⟨trivial, ⟨Try.func122, by kernel_rfl⟩, trivial⟩⟩⟩⟩, ⟨Try.func6, by kernel_rfl⟩, ⟨⟨⟨⟨trivial, ⟨Try.func70, by kernel_rfl⟩, trivial⟩, ⟨Try.func38, by kernel_rfl⟩, ⟨trivial, ⟨Try.func102, by kernel_rfl⟩, trivial⟩⟩, ⟨Try.func22, by kernel_rfl⟩, ⟨⟨trivial, ⟨Try.func86, by kernel_rfl⟩, trivial⟩, ⟨Try.func54, by kernel_rfl⟩, ⟨trivial, ⟨Try.func118, by kernel_rfl⟩, trivial⟩⟩⟩, ⟨Try.func14, by kernel_rfl⟩, ⟨⟨⟨trivial, ⟨Try.func78, by kernel_rfl⟩, trivial⟩, ⟨Try.func46, by kernel_rfl⟩, ⟨trivial, ⟨Try.func110, by kernel_rfl⟩, trivial⟩⟩, ⟨Try.func30, by kernel_rfl⟩, ⟨⟨trivial, ⟨Try.func94, by kernel_rfl⟩, trivial⟩, ⟨Try.func62, by kernel_rfl⟩, trivial⟩⟩⟩⟩⟩⟩
theorem mixed_ok : Try.prog.follows .mixedOrders = true := by kernel_rfl


theorem env_ok (lo hi : Nat → Int) : EnvOk Try.prog (env lo hi) where
  ty t ty h := types_ok.get t ty h
  fn f fn h := funcs_ok.get f fn h
  ext f e h := by
    change Tree.leaf.get f = some e at h
    rw [Tree.get_leaf] at h
    cases h
  meth t m f h := by
    change findMethod [] t m = some f at h
    cases h
  mixed := mixed_ok

end Go.Proofs.Ytnkicnhjllmmjaa.Sx
