/- The tables of the program are true of it: written by gen_env.py. -/
import Derived.Test.YtbaakikdmbehjaaDoorAmCon
import Derived.Test.YtbaakikdmbehjaaDoorAmEnv
set_option linter.unusedVariables false
set_option linter.unusedSimpArgs false
set_option linter.unusedSectionVars false
namespace Go.Am
set_option maxRecDepth 100000
open Go.Proofs.Tryd
theorem fn_0 : prog.funcs[0]? = some f0 ∧ (f0.name == "runtime.NumGoroutine") = false := ⟨rfl, by decide +kernel⟩
theorem fn_1 : prog.funcs[1]? = some f1 ∧ (f1.name == "runtime.NumGoroutine") = false := ⟨rfl, by decide +kernel⟩
theorem fn_2 : prog.funcs[2]? = some f2 ∧ (f2.name == "runtime.NumGoroutine") = false := ⟨rfl, by decide +kernel⟩
theorem fn_3 : prog.funcs[3]? = some f3 ∧ (f3.name == "runtime.NumGoroutine") = false := ⟨rfl, by decide +kernel⟩
theorem fn_4 : prog.funcs[4]? = some f4 ∧ (f4.name == "runtime.NumGoroutine") = false := ⟨rfl, by decide +kernel⟩
theorem fn_5 : prog.funcs[5]? = some f5 ∧ (f5.name == "runtime.NumGoroutine") = false := ⟨rfl, by decide +kernel⟩
theorem fn_6 : prog.funcs[6]? = some f6 ∧ (f6.name == "runtime.NumGoroutine") = false := ⟨rfl, by decide +kernel⟩
theorem fn_7 : prog.funcs[7]? = some f7 ∧ (f7.name == "runtime.NumGoroutine") = false := ⟨rfl, by decide +kernel⟩
theorem fn_8 : prog.funcs[8]? = some f8 ∧ (f8.name == "runtime.NumGoroutine") = false := ⟨rfl, by decide +kernel⟩
theorem fn_9 : prog.funcs[9]? = some f9 ∧ (f9.name == "runtime.NumGoroutine") = false := ⟨rfl, by decide +kernel⟩
theorem fn_10 : prog.funcs[10]? = some f10 ∧ (f10.name == "runtime.NumGoroutine") = false := ⟨rfl, by decide +kernel⟩
theorem fn_11 : prog.funcs[11]? = some f11 ∧ (f11.name == "runtime.NumGoroutine") = false := ⟨rfl, by decide +kernel⟩
theorem fn_12 : prog.funcs[12]? = some f12 ∧ (f12.name == "runtime.NumGoroutine") = false := ⟨rfl, by decide +kernel⟩
theorem fn_13 : prog.funcs[13]? = some f13 ∧ (f13.name == "runtime.NumGoroutine") = false := ⟨rfl, by decide +kernel⟩
theorem fn_14 : prog.funcs[14]? = some f14 ∧ (f14.name == "runtime.NumGoroutine") = false := ⟨rfl, by decide +kernel⟩
theorem fn_15 : prog.funcs[15]? = some f15 ∧ (f15.name == "runtime.NumGoroutine") = false := ⟨rfl, by decide +kernel⟩
theorem fn_16 : prog.funcs[16]? = some f16 ∧ (f16.name == "runtime.NumGoroutine") = false := ⟨rfl, by decide +kernel⟩
theorem fn_17 : prog.funcs[17]? = some f17 ∧ (f17.name == "runtime.NumGoroutine") = false := ⟨rfl, by decide +kernel⟩
theorem fn_18 : prog.funcs[18]? = some f18 ∧ (f18.name == "runtime.NumGoroutine") = false := ⟨rfl, by decide +kernel⟩
theorem fn_19 : prog.funcs[19]? = some f19 ∧ (f19.name == "runtime.NumGoroutine") = false := ⟨rfl, by decide +kernel⟩
theorem fn_20 : prog.funcs[20]? = some f20 ∧ (f20.name == "runtime.NumGoroutine") = false := ⟨rfl, by decide +kernel⟩
theorem fn_21 : prog.funcs[21]? = some f21 ∧ (f21.name == "runtime.NumGoroutine") = false := ⟨rfl, by decide +kernel⟩
theorem fn_22 : prog.funcs[22]? = some f22 ∧ (f22.name == "runtime.NumGoroutine") = false := ⟨rfl, by decide +kernel⟩
theorem fn_23 : prog.funcs[23]? = some f23 ∧ (f23.name == "runtime.NumGoroutine") = false := ⟨rfl, by decide +kernel⟩
theorem fn_24 : prog.funcs[24]? = some f24 ∧ (f24.name == "runtime.NumGoroutine") = false := ⟨rfl, by decide +kernel⟩
theorem fn_25 : prog.funcs[25]? = some f25 ∧ (f25.name == "runtime.NumGoroutine") = false := ⟨rfl, by decide +kernel⟩
theorem fn_26 : prog.funcs[26]? = some f26 ∧ (f26.name == "runtime.NumGoroutine") = false := ⟨rfl, by decide +kernel⟩
theorem fn_27 : prog.funcs[27]? = some f27 ∧ (f27.name == "runtime.NumGoroutine") = false := ⟨rfl, by decide +kernel⟩
theorem fn_28 : prog.funcs[28]? = some f28 ∧ (f28.name == "runtime.NumGoroutine") = false := ⟨rfl, by decide +kernel⟩
theorem fn_29 : prog.funcs[29]? = some f29 ∧ (f29.name == "runtime.NumGoroutine") = false := ⟨rfl, by decide +kernel⟩
theorem fn_30 : prog.funcs[30]? = some f30 ∧ (f30.name == "runtime.NumGoroutine") = false := ⟨rfl, by decide +kernel⟩
theorem fn_31 : prog.funcs[31]? = some f31 ∧ (f31.name == "runtime.NumGoroutine") = false := ⟨rfl, by decide +kernel⟩
theorem fn_32 : prog.funcs[32]? = some f32 ∧ (f32.name == "runtime.NumGoroutine") = false := ⟨rfl, by decide +kernel⟩
theorem fn_33 : prog.funcs[33]? = some f33 ∧ (f33.name == "runtime.NumGoroutine") = false := ⟨rfl, by decide +kernel⟩
theorem fn_34 : prog.funcs[34]? = some f34 ∧ (f34.name == "runtime.NumGoroutine") = false := ⟨rfl, by decide +kernel⟩
theorem fn_35 : prog.funcs[35]? = some f35 ∧ (f35.name == "runtime.NumGoroutine") = false := ⟨rfl, by decide +kernel⟩
theorem fn_36 : prog.funcs[36]? = some f36 ∧ (f36.name == "runtime.NumGoroutine") = false := ⟨rfl, by decide +kernel⟩
theorem fn_37 : prog.funcs[37]? = some f37 ∧ (f37.name == "runtime.NumGoroutine") = false := ⟨rfl, by decide +kernel⟩
theorem fn_38 : prog.funcs[38]? = some f38 ∧ (f38.name == "runtime.NumGoroutine") = false := ⟨rfl, by decide +kernel⟩
theorem fn_39 : prog.funcs[39]? = some f39 ∧ (f39.name == "runtime.NumGoroutine") = false := ⟨rfl, by decide +kernel⟩
theorem fn_40 : prog.funcs[40]? = some f40 ∧ (f40.name == "runtime.NumGoroutine") = false := ⟨rfl, by decide +kernel⟩
theorem fn_41 : prog.funcs[41]? = some f41 ∧ (f41.name == "runtime.NumGoroutine") = false := ⟨rfl, by decide +kernel⟩
theorem fn_42 : prog.funcs[42]? = some f42 ∧ (f42.name == "runtime.NumGoroutine") = false := ⟨rfl, by decide +kernel⟩
theorem fn_43 : prog.funcs[43]? = some f43 ∧ (f43.name == "runtime.NumGoroutine") = false := ⟨rfl, by decide +kernel⟩
theorem fn_44 : prog.funcs[44]? = some f44 ∧ (f44.name == "runtime.NumGoroutine") = false := ⟨rfl, by decide +kernel⟩
theorem fn_45 : prog.funcs[45]? = some f45 ∧ (f45.name == "runtime.NumGoroutine") = false := ⟨rfl, by decide +kernel⟩
theorem fn_46 : prog.funcs[46]? = some f46 ∧ (f46.name == "runtime.NumGoroutine") = false := ⟨rfl, by decide +kernel⟩
theorem fn_47 : prog.funcs[47]? = some f47 ∧ (f47.name == "runtime.NumGoroutine") = false := ⟨rfl, by decide +kernel⟩
theorem fn_48 : prog.funcs[48]? = some f48 ∧ (f48.name == "runtime.NumGoroutine") = false := ⟨rfl, by decide +kernel⟩
theorem fn_49 : prog.funcs[49]? = some f49 ∧ (f49.name == "runtime.NumGoroutine") = false := ⟨rfl, by decide +kernel⟩
theorem fn_50 : prog.funcs[50]? = some f50 ∧ (f50.name == "runtime.NumGoroutine") = false := ⟨rfl, by decide +kernel⟩
theorem fn_51 : prog.funcs[51]? = some f51 ∧ (f51.name == "runtime.NumGoroutine") = false := ⟨rfl, by decide +kernel⟩
theorem fn_52 : prog.funcs[52]? = some f52 ∧ (f52.name == "runtime.NumGoroutine") = false := ⟨rfl, by decide +kernel⟩
theorem fn_53 : prog.funcs[53]? = some f53 ∧ (f53.name == "runtime.NumGoroutine") = false := ⟨rfl, by decide +kernel⟩
theorem fn_54 : prog.funcs[54]? = some f54 ∧ (f54.name == "runtime.NumGoroutine") = false := ⟨rfl, by decide +kernel⟩
theorem fn_55 : prog.funcs[55]? = some f55 ∧ (f55.name == "runtime.NumGoroutine") = false := ⟨rfl, by decide +kernel⟩
theorem fn_56 : prog.funcs[56]? = some f56 ∧ (f56.name == "runtime.NumGoroutine") = false := ⟨rfl, by decide +kernel⟩
theorem fn_57 : prog.funcs[57]? = some f57 ∧ (f57.name == "runtime.NumGoroutine") = false := ⟨rfl, by decide +kernel⟩
theorem fn_58 : prog.funcs[58]? = some f58 ∧ (f58.name == "runtime.NumGoroutine") = false := ⟨rfl, by decide +kernel⟩
theorem fn_59 : prog.funcs[59]? = some f59 ∧ (f59.name == "runtime.NumGoroutine") = false := ⟨rfl, by decide +kernel⟩
theorem fn_60 : prog.funcs[60]? = some f60 ∧ (f60.name == "runtime.NumGoroutine") = false := ⟨rfl, by decide +kernel⟩
theorem fn_61 : prog.funcs[61]? = some f61 ∧ (f61.name == "runtime.NumGoroutine") = false := ⟨rfl, by decide +kernel⟩
theorem fn_62 : prog.funcs[62]? = some f62 ∧ (f62.name == "runtime.NumGoroutine") = false := ⟨rfl, by decide +kernel⟩
theorem fn_63 : prog.funcs[63]? = some f63 ∧ (f63.name == "runtime.NumGoroutine") = false := ⟨rfl, by decide +kernel⟩
theorem fn_64 : prog.funcs[64]? = some f64 ∧ (f64.name == "runtime.NumGoroutine") = false := ⟨rfl, by decide +kernel⟩
theorem fn_65 : prog.funcs[65]? = some f65 ∧ (f65.name == "runtime.NumGoroutine") = false := ⟨rfl, by decide +kernel⟩
theorem fn_66 : prog.funcs[66]? = some f66 ∧ (f66.name == "runtime.NumGoroutine") = false := ⟨rfl, by decide +kernel⟩
theorem fn_67 : prog.funcs[67]? = some f67 ∧ (f67.name == "runtime.NumGoroutine") = false := ⟨rfl, by decide +kernel⟩
theorem fn_68 : prog.funcs[68]? = some f68 ∧ (f68.name == "runtime.NumGoroutine") = false := ⟨rfl, by decide +kernel⟩
theorem fn_69 : prog.funcs[69]? = some f69 ∧ (f69.name == "runtime.NumGoroutine") = false := ⟨rfl, by decide +kernel⟩
theorem fn_70 : prog.funcs[70]? = some f70 ∧ (f70.name == "runtime.NumGoroutine") = false := ⟨rfl, by decide +kernel⟩
theorem fn_71 : prog.funcs[71]? = some f71 ∧ (f71.name == "runtime.NumGoroutine") = false := ⟨rfl, by decide +kernel⟩
theorem fn_72 : prog.funcs[72]? = some f72 ∧ (f72.name == "runtime.NumGoroutine") = false := ⟨rfl, by decide +kernel⟩
theorem fn_73 : prog.funcs[73]? = some f73 ∧ (f73.name == "runtime.NumGoroutine") = false := ⟨rfl, by decide +kernel⟩
theorem fn_74 : prog.funcs[74]? = some f74 ∧ (f74.name == "runtime.NumGoroutine") = false := ⟨rfl, by decide +kernel⟩
theorem fn_75 : prog.funcs[75]? = some f75 ∧ (f75.name == "runtime.NumGoroutine") = false := ⟨rfl, by decide +kernel⟩
theorem fn_76 : prog.funcs[76]? = some f76 ∧ (f76.name == "runtime.NumGoroutine") = false := ⟨rfl, by decide +kernel⟩
theorem fn_77 : prog.funcs[77]? = some f77 ∧ (f77.name == "runtime.NumGoroutine") = false := ⟨rfl, by decide +kernel⟩
theorem fn_78 : prog.funcs[78]? = some f78 ∧ (f78.name == "runtime.NumGoroutine") = false := ⟨rfl, by decide +kernel⟩
theorem fn_79 : prog.funcs[79]? = some f79 ∧ (f79.name == "runtime.NumGoroutine") = false := ⟨rfl, by decide +kernel⟩
theorem fn_80 : prog.funcs[80]? = some f80 ∧ (f80.name == "runtime.NumGoroutine") = false := ⟨rfl, by decide +kernel⟩
theorem fn_81 : prog.funcs[81]? = some f81 ∧ (f81.name == "runtime.NumGoroutine") = false := ⟨rfl, by decide +kernel⟩
theorem fn_82 : prog.funcs[82]? = some f82 ∧ (f82.name == "runtime.NumGoroutine") = false := ⟨rfl, by decide +kernel⟩
theorem fn_83 : prog.funcs[83]? = some f83 ∧ (f83.name == "runtime.NumGoroutine") = false := ⟨rfl, by decide +kernel⟩
theorem fn_84 : prog.funcs[84]? = some f84 ∧ (f84.name == "runtime.NumGoroutine") = false := ⟨rfl, by decide +kernel⟩
theorem fn_85 : prog.funcs[85]? = some f85 ∧ (f85.name == "runtime.NumGoroutine") = false := ⟨rfl, by decide +kernel⟩
theorem fn_86 : prog.funcs[86]? = some f86 ∧ (f86.name == "runtime.NumGoroutine") = false := ⟨rfl, by decide +kernel⟩
theorem fn_87 : prog.funcs[87]? = some f87 ∧ (f87.name == "runtime.NumGoroutine") = false := ⟨rfl, by decide +kernel⟩
theorem fn_88 : prog.funcs[88]? = some f88 ∧ (f88.name == "runtime.NumGoroutine") = false := ⟨rfl, by decide +kernel⟩
theorem fn_89 : prog.funcs[89]? = some f89 ∧ (f89.name == "runtime.NumGoroutine") = false := ⟨rfl, by decide +kernel⟩
theorem fn_90 : prog.funcs[90]? = some f90 ∧ (f90.name == "runtime.NumGoroutine") = false := ⟨rfl, by decide +kernel⟩
theorem fn_91 : prog.funcs[91]? = some f91 ∧ (f91.name == "runtime.NumGoroutine") = false := ⟨rfl, by decide +kernel⟩
theorem fn_92 : prog.funcs[92]? = some f92 ∧ (f92.name == "runtime.NumGoroutine") = false := ⟨rfl, by decide +kernel⟩
theorem fn_93 : prog.funcs[93]? = some f93 ∧ (f93.name == "runtime.NumGoroutine") = false := ⟨rfl, by decide +kernel⟩
theorem fn_94 : prog.funcs[94]? = some f94 ∧ (f94.name == "runtime.NumGoroutine") = false := ⟨rfl, by decide +kernel⟩
theorem fn_95 : prog.funcs[95]? = some f95 ∧ (f95.name == "runtime.NumGoroutine") = false := ⟨rfl, by decide +kernel⟩
theorem fn_96 : prog.funcs[96]? = some f96 ∧ (f96.name == "runtime.NumGoroutine") = false := ⟨rfl, by decide +kernel⟩
theorem fn_97 : prog.funcs[97]? = some f97 ∧ (f97.name == "runtime.NumGoroutine") = false := ⟨rfl, by decide +kernel⟩
theorem fn_98 : prog.funcs[98]? = some f98 ∧ (f98.name == "runtime.NumGoroutine") = false := ⟨rfl, by decide +kernel⟩
theorem fn_99 : prog.funcs[99]? = some f99 ∧ (f99.name == "runtime.NumGoroutine") = false := ⟨rfl, by decide +kernel⟩
theorem fn_100 : prog.funcs[100]? = some f100 ∧ (f100.name == "runtime.NumGoroutine") = false := ⟨rfl, by decide +kernel⟩
theorem fn_101 : prog.funcs[101]? = some f101 ∧ (f101.name == "runtime.NumGoroutine") = false := ⟨rfl, by decide +kernel⟩
theorem fn_102 : prog.funcs[102]? = some f102 ∧ (f102.name == "runtime.NumGoroutine") = false := ⟨rfl, by decide +kernel⟩
theorem fn_103 : prog.funcs[103]? = some f103 ∧ (f103.name == "runtime.NumGoroutine") = false := ⟨rfl, by decide +kernel⟩
theorem fn_104 : prog.funcs[104]? = some f104 ∧ (f104.name == "runtime.NumGoroutine") = false := ⟨rfl, by decide +kernel⟩
theorem fn_105 : prog.funcs[105]? = some f105 ∧ (f105.name == "runtime.NumGoroutine") = false := ⟨rfl, by decide +kernel⟩
theorem fn_106 : prog.funcs[106]? = some f106 ∧ (f106.name == "runtime.NumGoroutine") = false := ⟨rfl, by decide +kernel⟩
theorem fn_107 : prog.funcs[107]? = some f107 ∧ (f107.name == "runtime.NumGoroutine") = false := ⟨rfl, by decide +kernel⟩
theorem fn_108 : prog.funcs[108]? = some f108 ∧ (f108.name == "runtime.NumGoroutine") = false := ⟨rfl, by decide +kernel⟩
theorem fn_109 : prog.funcs[109]? = some f109 ∧ (f109.name == "runtime.NumGoroutine") = false := ⟨rfl, by decide +kernel⟩
theorem fn_110 : prog.funcs[110]? = some f110 ∧ (f110.name == "runtime.NumGoroutine") = false := ⟨rfl, by decide +kernel⟩
theorem fn_111 : prog.funcs[111]? = some f111 ∧ (f111.name == "runtime.NumGoroutine") = false := ⟨rfl, by decide +kernel⟩
theorem fn_112 : prog.funcs[112]? = some f112 ∧ (f112.name == "runtime.NumGoroutine") = false := ⟨rfl, by decide +kernel⟩
theorem fn_113 : prog.funcs[113]? = some f113 ∧ (f113.name == "runtime.NumGoroutine") = false := ⟨rfl, by decide +kernel⟩
theorem fn_114 : prog.funcs[114]? = some f114 ∧ (f114.name == "runtime.NumGoroutine") = false := ⟨rfl, by decide +kernel⟩
theorem fn_115 : prog.funcs[115]? = some f115 ∧ (f115.name == "runtime.NumGoroutine") = false := ⟨rfl, by decide +kernel⟩
theorem fn_116 : prog.funcs[116]? = some f116 ∧ (f116.name == "runtime.NumGoroutine") = false := ⟨rfl, by decide +kernel⟩
theorem fn_117 : prog.funcs[117]? = some f117 ∧ (f117.name == "runtime.NumGoroutine") = false := ⟨rfl, by decide +kernel⟩
theorem fn_118 : prog.funcs[118]? = some f118 ∧ (f118.name == "runtime.NumGoroutine") = false := ⟨rfl, by decide +kernel⟩
theorem fn_119 : prog.funcs[119]? = some f119 ∧ (f119.name == "runtime.NumGoroutine") = false := ⟨rfl, by decide +kernel⟩
theorem fn_120 : prog.funcs[120]? = some f120 ∧ (f120.name == "runtime.NumGoroutine") = false := ⟨rfl, by decide +kernel⟩
theorem envOk : EnvOk prog E0 := envOk_of (by decide +kernel) (show TrP (fun f fn => prog.funcs[f]? = some fn ∧ (fn.name == "runtime.NumGoroutine") = false) fnT 1 0 from ⟨fn_0, ⟨fn_1, ⟨fn_3, ⟨fn_7, ⟨fn_15, ⟨fn_31, ⟨fn_63, trivial, trivial⟩, ⟨fn_95, trivial, trivial⟩⟩, ⟨fn_47, ⟨fn_79, trivial, trivial⟩, ⟨fn_111, trivial, trivial⟩⟩⟩, ⟨fn_23, ⟨fn_39, ⟨fn_71, trivial, trivial⟩, ⟨fn_103, trivial, trivial⟩⟩, ⟨fn_55, ⟨fn_87, trivial, trivial⟩, ⟨fn_119, trivial, trivial⟩⟩⟩⟩, ⟨fn_11, ⟨fn_19, ⟨fn_35, ⟨fn_67, trivial, trivial⟩, ⟨fn_99, trivial, trivial⟩⟩, ⟨fn_51, ⟨fn_83, trivial, trivial⟩, ⟨fn_115, trivial, trivial⟩⟩⟩, ⟨fn_27, ⟨fn_43, ⟨fn_75, trivial, trivial⟩, ⟨fn_107, trivial, trivial⟩⟩, ⟨fn_59, ⟨fn_91, trivial, trivial⟩, trivial⟩⟩⟩⟩, ⟨fn_5, ⟨fn_9, ⟨fn_17, ⟨fn_33, ⟨fn_65, trivial, trivial⟩, ⟨fn_97, trivial, trivial⟩⟩, ⟨fn_49, ⟨fn_81, trivial, trivial⟩, ⟨fn_113, trivial, trivial⟩⟩⟩, ⟨fn_25, ⟨fn_41, ⟨fn_73, trivial, trivial⟩, ⟨fn_105, trivial, trivial⟩⟩, ⟨fn_57, ⟨fn_89, trivial, trivial⟩, trivial⟩⟩⟩, ⟨fn_13, ⟨fn_21, ⟨fn_37, ⟨fn_69, trivial, trivial⟩, ⟨fn_101, trivial, trivial⟩⟩, ⟨fn_53, ⟨fn_85, trivial, trivial⟩, ⟨fn_117, trivial, trivial⟩⟩⟩, ⟨fn_29, ⟨fn_45, ⟨fn_77, trivial, trivial⟩, ⟨fn_109, trivial, trivial⟩⟩, ⟨fn_61, ⟨fn_93, trivial, trivial⟩, trivial⟩⟩⟩⟩⟩, ⟨fn_2, ⟨fn_4, ⟨fn_8, ⟨fn_16, ⟨fn_32, ⟨fn_64, trivial, trivial⟩, ⟨fn_96, trivial, trivial⟩⟩, ⟨fn_48, ⟨fn_80, trivial, trivial⟩, ⟨fn_112, trivial, trivial⟩⟩⟩, ⟨fn_24, ⟨fn_40, ⟨fn_72, trivial, trivial⟩, ⟨fn_104, trivial, trivial⟩⟩, ⟨fn_56, ⟨fn_88, trivial, trivial⟩, ⟨fn_120, trivial, trivial⟩⟩⟩⟩, ⟨fn_12, ⟨fn_20, ⟨fn_36, ⟨fn_68, trivial, trivial⟩, ⟨fn_100, trivial, trivial⟩⟩, ⟨fn_52, ⟨fn_84, trivial, trivial⟩, ⟨fn_116, trivial, trivial⟩⟩⟩, ⟨fn_28, ⟨fn_44, ⟨fn_76, trivial, trivial⟩, ⟨fn_108, trivial, trivial⟩⟩, ⟨fn_60, ⟨fn_92, trivial, trivial⟩, trivial⟩⟩⟩⟩, ⟨fn_6, ⟨fn_10, ⟨fn_18, ⟨fn_34, ⟨fn_66, trivial, trivial⟩, ⟨fn_98, trivial, trivial⟩⟩, ⟨fn_50, ⟨fn_82, trivial, trivial⟩, ⟨fn_114, trivial, trivial⟩⟩⟩, ⟨fn_26, ⟨fn_42, ⟨fn_74, trivial, trivial⟩, ⟨fn_106, trivial, trivial⟩⟩, ⟨fn_58, ⟨fn_90, trivial, trivial⟩, trivial⟩⟩⟩, ⟨fn_14, ⟨fn_22, ⟨fn_38, ⟨fn_70, trivial, trivial⟩, ⟨fn_102, trivial, trivial⟩⟩, ⟨fn_54, ⟨fn_86, trivial, trivial⟩, ⟨fn_118, trivial, trivial⟩⟩⟩, ⟨fn_30, ⟨fn_46, ⟨fn_78, trivial, trivial⟩, ⟨fn_110, trivial, trivial⟩⟩, ⟨fn_62, ⟨fn_94, trivial, trivial⟩, trivial⟩⟩⟩⟩⟩⟩) (by decide +kernel)
theorem fnOk : FnOk E0 := fnOk_of (by decide +kernel)
theorem mixed : prog.follows .mixedOrders = true := by decide +kernel
theorem globFlat : GlobFlat E0 := globFlat_of (by decide +kernel)
end Go.Am
