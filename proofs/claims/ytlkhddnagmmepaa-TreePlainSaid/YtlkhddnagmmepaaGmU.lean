/-
  The ghost table is the program's.
-/
import Derived.Test.YtlkhddnagmmepaaGmT
import Derived.Test.YtlkhddnagmmepaaGmR
import Derived.Test.YtlkhddnagmmepaaProg
import Derived.KernelRfl
namespace Go.Proofs.Try
set_option linter.unusedSimpArgs false
set_option linter.unusedVariables false
open Go.Gm
theorem ta3 : prog.funcs[3]? = some f3 := by kernel_rfl
theorem tb3 : (f3.name == "runtime.NumGoroutine") = false := by kernel_rfl
theorem tc3 : trFn prog h3 f3 = some g3 := by kernel_rfl
theorem td3 : okDraws (f3.body.getD .skip) g3.body = true := by kernel_rfl
theorem ta5 : prog.funcs[5]? = some f5 := by kernel_rfl
theorem tb5 : (f5.name == "runtime.NumGoroutine") = false := by kernel_rfl
theorem tc5 : trFn prog h5 f5 = some g5 := by kernel_rfl
theorem td5 : okDraws (f5.body.getD .skip) g5.body = true := by kernel_rfl
theorem ta6 : prog.funcs[6]? = some f6 := by kernel_rfl
theorem tb6 : (f6.name == "runtime.NumGoroutine") = false := by kernel_rfl
theorem tc6 : trFn prog h6 f6 = some g6 := by kernel_rfl
theorem td6 : okDraws (f6.body.getD .skip) g6.body = true := by kernel_rfl
theorem ta7 : prog.funcs[7]? = some f7 := by kernel_rfl
theorem tb7 : (f7.name == "runtime.NumGoroutine") = false := by kernel_rfl
theorem tc7 : trFn prog h7 f7 = some g7 := by kernel_rfl
theorem td7 : okDraws (f7.body.getD .skip) g7.body = true := by kernel_rfl
theorem ta8 : prog.funcs[8]? = some f8 := by kernel_rfl
theorem tb8 : (f8.name == "runtime.NumGoroutine") = false := by kernel_rfl
theorem tc8 : trFn prog h8 f8 = some g8 := by kernel_rfl
theorem td8 : okDraws (f8.body.getD .skip) g8.body = true := by kernel_rfl
theorem ta9 : prog.funcs[9]? = some f9 := by kernel_rfl
theorem tb9 : (f9.name == "runtime.NumGoroutine") = false := by kernel_rfl
theorem tc9 : trFn prog h9 f9 = some g9 := by kernel_rfl
theorem td9 : okDraws (f9.body.getD .skip) g9.body = true := by kernel_rfl
theorem ta10 : prog.funcs[10]? = some f10 := by kernel_rfl
theorem tb10 : (f10.name == "runtime.NumGoroutine") = false := by kernel_rfl
theorem tc10 : trFn prog h10 f10 = some g10 := by kernel_rfl
theorem td10 : okDraws (f10.body.getD .skip) g10.body = true := by kernel_rfl
theorem ta11 : prog.funcs[11]? = some f11 := by kernel_rfl
theorem tb11 : (f11.name == "runtime.NumGoroutine") = false := by kernel_rfl
theorem tc11 : trFn prog h11 f11 = some g11 := by kernel_rfl
theorem td11 : okDraws (f11.body.getD .skip) g11.body = true := by kernel_rfl
theorem ta12 : prog.funcs[12]? = some f12 := by kernel_rfl
theorem tb12 : (f12.name == "runtime.NumGoroutine") = false := by kernel_rfl
theorem tc12 : trFn prog h12 f12 = some g12 := by kernel_rfl
theorem td12 : okDraws (f12.body.getD .skip) g12.body = true := by kernel_rfl
theorem ta13 : prog.funcs[13]? = some f13 := by kernel_rfl
theorem tb13 : (f13.name == "runtime.NumGoroutine") = false := by kernel_rfl
theorem tc13 : trFn prog h13 f13 = some g13 := by kernel_rfl
theorem td13 : okDraws (f13.body.getD .skip) g13.body = true := by kernel_rfl
theorem ta18 : prog.funcs[18]? = some f18 := by kernel_rfl
theorem tb18 : (f18.name == "runtime.NumGoroutine") = false := by kernel_rfl
theorem tc18 : trFn prog h18 f18 = some g18 := by kernel_rfl
theorem td18 : okDraws (f18.body.getD .skip) g18.body = true := by kernel_rfl
theorem ta19 : prog.funcs[19]? = some f19 := by kernel_rfl
theorem tb19 : (f19.name == "runtime.NumGoroutine") = false := by kernel_rfl
theorem tc19 : trFn prog h19 f19 = some g19 := by kernel_rfl
theorem td19 : okDraws (f19.body.getD .skip) g19.body = true := by kernel_rfl
theorem ta20 : prog.funcs[20]? = some f20 := by kernel_rfl
theorem tb20 : (f20.name == "runtime.NumGoroutine") = false := by kernel_rfl
theorem tc20 : trFn prog h20 f20 = some g20 := by kernel_rfl
theorem td20 : okDraws (f20.body.getD .skip) g20.body = true := by kernel_rfl
theorem ta21 : prog.funcs[21]? = some f21 := by kernel_rfl
theorem tb21 : (f21.name == "runtime.NumGoroutine") = false := by kernel_rfl
theorem tc21 : trFn prog h21 f21 = some g21 := by kernel_rfl
theorem td21 : okDraws (f21.body.getD .skip) g21.body = true := by kernel_rfl
theorem ta22 : prog.funcs[22]? = some f22 := by kernel_rfl
theorem tb22 : (f22.name == "runtime.NumGoroutine") = false := by kernel_rfl
theorem tc22 : trFn prog h22 f22 = some g22 := by kernel_rfl
theorem td22 : okDraws (f22.body.getD .skip) g22.body = true := by kernel_rfl
theorem ta23 : prog.funcs[23]? = some f23 := by kernel_rfl
theorem tb23 : (f23.name == "runtime.NumGoroutine") = false := by kernel_rfl
theorem tc23 : trFn prog h23 f23 = some g23 := by kernel_rfl
theorem td23 : okDraws (f23.body.getD .skip) g23.body = true := by kernel_rfl
theorem ta24 : prog.funcs[24]? = some f24 := by kernel_rfl
theorem tb24 : (f24.name == "runtime.NumGoroutine") = false := by kernel_rfl
theorem tc24 : trFn prog h24 f24 = some g24 := by kernel_rfl
theorem td24 : okDraws (f24.body.getD .skip) g24.body = true := by kernel_rfl
theorem ta25 : prog.funcs[25]? = some f25 := by kernel_rfl
theorem tb25 : (f25.name == "runtime.NumGoroutine") = false := by kernel_rfl
theorem tc25 : trFn prog h25 f25 = some g25 := by kernel_rfl
theorem td25 : okDraws (f25.body.getD .skip) g25.body = true := by kernel_rfl
theorem ta26 : prog.funcs[26]? = some f26 := by kernel_rfl
theorem tb26 : (f26.name == "runtime.NumGoroutine") = false := by kernel_rfl
theorem tc26 : trFn prog h26 f26 = some g26 := by kernel_rfl
theorem td26 : okDraws (f26.body.getD .skip) g26.body = true := by kernel_rfl
theorem ta27 : prog.funcs[27]? = some f27 := by kernel_rfl
theorem tb27 : (f27.name == "runtime.NumGoroutine") = false := by kernel_rfl
theorem tc27 : trFn prog h27 f27 = some g27 := by kernel_rfl
theorem td27 : okDraws (f27.body.getD .skip) g27.body = true := by kernel_rfl
theorem ta28 : prog.funcs[28]? = some f28 := by kernel_rfl
theorem tb28 : (f28.name == "runtime.NumGoroutine") = false := by kernel_rfl
theorem tc28 : trFn prog h28 f28 = some g28 := by kernel_rfl
theorem td28 : okDraws (f28.body.getD .skip) g28.body = true := by kernel_rfl
theorem ta29 : prog.funcs[29]? = some f29 := by kernel_rfl
theorem tb29 : (f29.name == "runtime.NumGoroutine") = false := by kernel_rfl
theorem tc29 : trFn prog h29 f29 = some g29 := by kernel_rfl
theorem td29 : okDraws (f29.body.getD .skip) g29.body = true := by kernel_rfl
theorem ta30 : prog.funcs[30]? = some f30 := by kernel_rfl
theorem tb30 : (f30.name == "runtime.NumGoroutine") = false := by kernel_rfl
theorem tc30 : trFn prog h30 f30 = some g30 := by kernel_rfl
theorem td30 : okDraws (f30.body.getD .skip) g30.body = true := by kernel_rfl
theorem ta31 : prog.funcs[31]? = some f31 := by kernel_rfl
theorem tb31 : (f31.name == "runtime.NumGoroutine") = false := by kernel_rfl
theorem tc31 : trFn prog h31 f31 = some g31 := by kernel_rfl
theorem td31 : okDraws (f31.body.getD .skip) g31.body = true := by kernel_rfl
theorem ta32 : prog.funcs[32]? = some f32 := by kernel_rfl
theorem tb32 : (f32.name == "runtime.NumGoroutine") = false := by kernel_rfl
theorem tc32 : trFn prog h32 f32 = some g32 := by kernel_rfl
theorem td32 : okDraws (f32.body.getD .skip) g32.body = true := by kernel_rfl
theorem ta33 : prog.funcs[33]? = some f33 := by kernel_rfl
theorem tb33 : (f33.name == "runtime.NumGoroutine") = false := by kernel_rfl
theorem tc33 : trFn prog h33 f33 = some g33 := by kernel_rfl
theorem td33 : okDraws (f33.body.getD .skip) g33.body = true := by kernel_rfl
theorem ta34 : prog.funcs[34]? = some f34 := by kernel_rfl
theorem tb34 : (f34.name == "runtime.NumGoroutine") = false := by kernel_rfl
theorem tc34 : trFn prog h34 f34 = some g34 := by kernel_rfl
theorem td34 : okDraws (f34.body.getD .skip) g34.body = true := by kernel_rfl
theorem ta35 : prog.funcs[35]? = some f35 := by kernel_rfl
theorem tb35 : (f35.name == "runtime.NumGoroutine") = false := by kernel_rfl
theorem tc35 : trFn prog h35 f35 = some g35 := by kernel_rfl
theorem td35 : okDraws (f35.body.getD .skip) g35.body = true := by kernel_rfl
theorem ta36 : prog.funcs[36]? = some f36 := by kernel_rfl
theorem tb36 : (f36.name == "runtime.NumGoroutine") = false := by kernel_rfl
theorem tc36 : trFn prog h36 f36 = some g36 := by kernel_rfl
theorem td36 : okDraws (f36.body.getD .skip) g36.body = true := by kernel_rfl
theorem ta38 : prog.funcs[38]? = some f38 := by kernel_rfl
theorem tb38 : (f38.name == "runtime.NumGoroutine") = false := by kernel_rfl
theorem tc38 : trFn prog h38 f38 = some g38 := by kernel_rfl
theorem td38 : okDraws (f38.body.getD .skip) g38.body = true := by kernel_rfl
theorem ta39 : prog.funcs[39]? = some f39 := by kernel_rfl
theorem tb39 : (f39.name == "runtime.NumGoroutine") = false := by kernel_rfl
theorem tc39 : trFn prog h39 f39 = some g39 := by kernel_rfl
theorem td39 : okDraws (f39.body.getD .skip) g39.body = true := by kernel_rfl
theorem ta40 : prog.funcs[40]? = some f40 := by kernel_rfl
theorem tb40 : (f40.name == "runtime.NumGoroutine") = false := by kernel_rfl
theorem tc40 : trFn prog h40 f40 = some g40 := by kernel_rfl
theorem td40 : okDraws (f40.body.getD .skip) g40.body = true := by kernel_rfl
theorem ta41 : prog.funcs[41]? = some f41 := by kernel_rfl
theorem tb41 : (f41.name == "runtime.NumGoroutine") = false := by kernel_rfl
theorem tc41 : trFn prog h41 f41 = some g41 := by kernel_rfl
theorem td41 : okDraws (f41.body.getD .skip) g41.body = true := by kernel_rfl
theorem ta43 : prog.funcs[43]? = some f43 := by kernel_rfl
theorem tb43 : (f43.name == "runtime.NumGoroutine") = false := by kernel_rfl
theorem tc43 : trFn prog h43 f43 = some g43 := by kernel_rfl
theorem td43 : okDraws (f43.body.getD .skip) g43.body = true := by kernel_rfl
theorem ta44 : prog.funcs[44]? = some f44 := by kernel_rfl
theorem tb44 : (f44.name == "runtime.NumGoroutine") = false := by kernel_rfl
theorem tc44 : trFn prog h44 f44 = some g44 := by kernel_rfl
theorem td44 : okDraws (f44.body.getD .skip) g44.body = true := by kernel_rfl
theorem ta45 : prog.funcs[45]? = some f45 := by kernel_rfl
theorem tb45 : (f45.name == "runtime.NumGoroutine") = false := by kernel_rfl
theorem tc45 : trFn prog h45 f45 = some g45 := by kernel_rfl
theorem td45 : okDraws (f45.body.getD .skip) g45.body = true := by kernel_rfl
theorem ta46 : prog.funcs[46]? = some f46 := by kernel_rfl
theorem tb46 : (f46.name == "runtime.NumGoroutine") = false := by kernel_rfl
theorem tc46 : trFn prog h46 f46 = some g46 := by kernel_rfl
theorem td46 : okDraws (f46.body.getD .skip) g46.body = true := by kernel_rfl
theorem ta47 : prog.funcs[47]? = some f47 := by kernel_rfl
theorem tb47 : (f47.name == "runtime.NumGoroutine") = false := by kernel_rfl
theorem tc47 : trFn prog h47 f47 = some g47 := by kernel_rfl
theorem td47 : okDraws (f47.body.getD .skip) g47.body = true := by kernel_rfl
theorem ta48 : prog.funcs[48]? = some f48 := by kernel_rfl
theorem tb48 : (f48.name == "runtime.NumGoroutine") = false := by kernel_rfl
theorem tc48 : trFn prog h48 f48 = some g48 := by kernel_rfl
theorem td48 : okDraws (f48.body.getD .skip) g48.body = true := by kernel_rfl
theorem ta49 : prog.funcs[49]? = some f49 := by kernel_rfl
theorem tb49 : (f49.name == "runtime.NumGoroutine") = false := by kernel_rfl
theorem tc49 : trFn prog h49 f49 = some g49 := by kernel_rfl
theorem td49 : okDraws (f49.body.getD .skip) g49.body = true := by kernel_rfl
theorem ta50 : prog.funcs[50]? = some f50 := by kernel_rfl
theorem tb50 : (f50.name == "runtime.NumGoroutine") = false := by kernel_rfl
theorem tc50 : trFn prog h50 f50 = some g50 := by kernel_rfl
theorem td50 : okDraws (f50.body.getD .skip) g50.body = true := by kernel_rfl
theorem ta51 : prog.funcs[51]? = some f51 := by kernel_rfl
theorem tb51 : (f51.name == "runtime.NumGoroutine") = false := by kernel_rfl
theorem tc51 : trFn prog h51 f51 = some g51 := by kernel_rfl
theorem td51 : okDraws (f51.body.getD .skip) g51.body = true := by kernel_rfl
theorem ta52 : prog.funcs[52]? = some f52 := by kernel_rfl
theorem tb52 : (f52.name == "runtime.NumGoroutine") = false := by kernel_rfl
theorem tc52 : trFn prog h52 f52 = some g52 := by kernel_rfl
theorem td52 : okDraws (f52.body.getD .skip) g52.body = true := by kernel_rfl
theorem ta53 : prog.funcs[53]? = some f53 := by kernel_rfl
theorem tb53 : (f53.name == "runtime.NumGoroutine") = false := by kernel_rfl
theorem tc53 : trFn prog h53 f53 = some g53 := by kernel_rfl
theorem td53 : okDraws (f53.body.getD .skip) g53.body = true := by kernel_rfl
theorem ta54 : prog.funcs[54]? = some f54 := by kernel_rfl
theorem tb54 : (f54.name == "runtime.NumGoroutine") = false := by kernel_rfl
theorem tc54 : trFn prog h54 f54 = some g54 := by kernel_rfl
theorem td54 : okDraws (f54.body.getD .skip) g54.body = true := by kernel_rfl
theorem ta55 : prog.funcs[55]? = some f55 := by kernel_rfl
theorem tb55 : (f55.name == "runtime.NumGoroutine") = false := by kernel_rfl
theorem tc55 : trFn prog h55 f55 = some g55 := by kernel_rfl
theorem td55 : okDraws (f55.body.getD .skip) g55.body = true := by kernel_rfl
theorem ta56 : prog.funcs[56]? = some f56 := by kernel_rfl
theorem tb56 : (f56.name == "runtime.NumGoroutine") = false := by kernel_rfl
theorem tc56 : trFn prog h56 f56 = some g56 := by kernel_rfl
theorem td56 : okDraws (f56.body.getD .skip) g56.body = true := by kernel_rfl
theorem ta57 : prog.funcs[57]? = some f57 := by kernel_rfl
theorem tb57 : (f57.name == "runtime.NumGoroutine") = false := by kernel_rfl
theorem tc57 : trFn prog h57 f57 = some g57 := by kernel_rfl
theorem td57 : okDraws (f57.body.getD .skip) g57.body = true := by kernel_rfl
theorem ta58 : prog.funcs[58]? = some f58 := by kernel_rfl
theorem tb58 : (f58.name == "runtime.NumGoroutine") = false := by kernel_rfl
theorem tc58 : trFn prog h58 f58 = some g58 := by kernel_rfl
theorem td58 : okDraws (f58.body.getD .skip) g58.body = true := by kernel_rfl
theorem ta61 : prog.funcs[61]? = some f61 := by kernel_rfl
theorem tb61 : (f61.name == "runtime.NumGoroutine") = false := by kernel_rfl
theorem tc61 : trFn prog h61 f61 = some g61 := by kernel_rfl
theorem td61 : okDraws (f61.body.getD .skip) g61.body = true := by kernel_rfl
theorem ta62 : prog.funcs[62]? = some f62 := by kernel_rfl
theorem tb62 : (f62.name == "runtime.NumGoroutine") = false := by kernel_rfl
theorem tc62 : trFn prog h62 f62 = some g62 := by kernel_rfl
theorem td62 : okDraws (f62.body.getD .skip) g62.body = true := by kernel_rfl
theorem ta63 : prog.funcs[63]? = some f63 := by kernel_rfl
theorem tb63 : (f63.name == "runtime.NumGoroutine") = false := by kernel_rfl
theorem tc63 : trFn prog h63 f63 = some g63 := by kernel_rfl
theorem td63 : okDraws (f63.body.getD .skip) g63.body = true := by kernel_rfl
theorem ta64 : prog.funcs[64]? = some f64 := by kernel_rfl
theorem tb64 : (f64.name == "runtime.NumGoroutine") = false := by kernel_rfl
theorem tc64 : trFn prog h64 f64 = some g64 := by kernel_rfl
theorem td64 : okDraws (f64.body.getD .skip) g64.body = true := by kernel_rfl
theorem ta65 : prog.funcs[65]? = some f65 := by kernel_rfl
theorem tb65 : (f65.name == "runtime.NumGoroutine") = false := by kernel_rfl
theorem tc65 : trFn prog h65 f65 = some g65 := by kernel_rfl
theorem td65 : okDraws (f65.body.getD .skip) g65.body = true := by kernel_rfl
theorem ta66 : prog.funcs[66]? = some f66 := by kernel_rfl
theorem tb66 : (f66.name == "runtime.NumGoroutine") = false := by kernel_rfl
theorem tc66 : trFn prog h66 f66 = some g66 := by kernel_rfl
theorem td66 : okDraws (f66.body.getD .skip) g66.body = true := by kernel_rfl
theorem ta67 : prog.funcs[67]? = some f67 := by kernel_rfl
theorem tb67 : (f67.name == "runtime.NumGoroutine") = false := by kernel_rfl
theorem tc67 : trFn prog h67 f67 = some g67 := by kernel_rfl
theorem td67 : okDraws (f67.body.getD .skip) g67.body = true := by kernel_rfl
theorem ta68 : prog.funcs[68]? = some f68 := by kernel_rfl
theorem tb68 : (f68.name == "runtime.NumGoroutine") = false := by kernel_rfl
theorem tc68 : trFn prog h68 f68 = some g68 := by kernel_rfl
theorem td68 : okDraws (f68.body.getD .skip) g68.body = true := by kernel_rfl
theorem ta69 : prog.funcs[69]? = some f69 := by kernel_rfl
theorem tb69 : (f69.name == "runtime.NumGoroutine") = false := by kernel_rfl
theorem tc69 : trFn prog h69 f69 = some g69 := by kernel_rfl
theorem td69 : okDraws (f69.body.getD .skip) g69.body = true := by kernel_rfl
theorem table_ok : TableOk prog table := by
  intro f g h
  unfold table at h
  split at h
  · cases h; exact ⟨f3, h3, f3.body.getD .skip, ta3, rfl, tb3, tc3, td3⟩
  · cases h; exact ⟨f5, h5, f5.body.getD .skip, ta5, rfl, tb5, tc5, td5⟩
  · cases h; exact ⟨f6, h6, f6.body.getD .skip, ta6, rfl, tb6, tc6, td6⟩
  · cases h; exact ⟨f7, h7, f7.body.getD .skip, ta7, rfl, tb7, tc7, td7⟩
  · cases h; exact ⟨f8, h8, f8.body.getD .skip, ta8, rfl, tb8, tc8, td8⟩
  · cases h; exact ⟨f9, h9, f9.body.getD .skip, ta9, rfl, tb9, tc9, td9⟩
  · cases h; exact ⟨f10, h10, f10.body.getD .skip, ta10, rfl, tb10, tc10, td10⟩
  · cases h; exact ⟨f11, h11, f11.body.getD .skip, ta11, rfl, tb11, tc11, td11⟩
  · cases h; exact ⟨f12, h12, f12.body.getD .skip, ta12, rfl, tb12, tc12, td12⟩
  · cases h; exact ⟨f13, h13, f13.body.getD .skip, ta13, rfl, tb13, tc13, td13⟩
  · cases h; exact ⟨f18, h18, f18.body.getD .skip, ta18, rfl, tb18, tc18, td18⟩
  · cases h; exact ⟨f19, h19, f19.body.getD .skip, ta19, rfl, tb19, tc19, td19⟩
  · cases h; exact ⟨f20, h20, f20.body.getD .skip, ta20, rfl, tb20, tc20, td20⟩
  · cases h; exact ⟨f21, h21, f21.body.getD .skip, ta21, rfl, tb21, tc21, td21⟩
  · cases h; exact ⟨f22, h22, f22.body.getD .skip, ta22, rfl, tb22, tc22, td22⟩
  · cases h; exact ⟨f23, h23, f23.body.getD .skip, ta23, rfl, tb23, tc23, td23⟩
  · cases h; exact ⟨f24, h24, f24.body.getD .skip, ta24, rfl, tb24, tc24, td24⟩
  · cases h; exact ⟨f25, h25, f25.body.getD .skip, ta25, rfl, tb25, tc25, td25⟩
  · cases h; exact ⟨f26, h26, f26.body.getD .skip, ta26, rfl, tb26, tc26, td26⟩
  · cases h; exact ⟨f27, h27, f27.body.getD .skip, ta27, rfl, tb27, tc27, td27⟩
  · cases h; exact ⟨f28, h28, f28.body.getD .skip, ta28, rfl, tb28, tc28, td28⟩
  · cases h; exact ⟨f29, h29, f29.body.getD .skip, ta29, rfl, tb29, tc29, td29⟩
  · cases h; exact ⟨f30, h30, f30.body.getD .skip, ta30, rfl, tb30, tc30, td30⟩
  · cases h; exact ⟨f31, h31, f31.body.getD .skip, ta31, rfl, tb31, tc31, td31⟩
  · cases h; exact ⟨f32, h32, f32.body.getD .skip, ta32, rfl, tb32, tc32, td32⟩
  · cases h; exact ⟨f33, h33, f33.body.getD .skip, ta33, rfl, tb33, tc33, td33⟩
  · cases h; exact ⟨f34, h34, f34.body.getD .skip, ta34, rfl, tb34, tc34, td34⟩
  · cases h; exact ⟨f35, h35, f35.body.getD .skip, ta35, rfl, tb35, tc35, td35⟩
  · cases h; exact ⟨f36, h36, f36.body.getD .skip, ta36, rfl, tb36, tc36, td36⟩
  · cases h; exact ⟨f38, h38, f38.body.getD .skip, ta38, rfl, tb38, tc38, td38⟩
  · cases h; exact ⟨f39, h39, f39.body.getD .skip, ta39, rfl, tb39, tc39, td39⟩
  · cases h; exact ⟨f40, h40, f40.body.getD .skip, ta40, rfl, tb40, tc40, td40⟩
  · cases h; exact ⟨f41, h41, f41.body.getD .skip, ta41, rfl, tb41, tc41, td41⟩
  · cases h; exact ⟨f43, h43, f43.body.getD .skip, ta43, rfl, tb43, tc43, td43⟩
  · cases h; exact ⟨f44, h44, f44.body.getD .skip, ta44, rfl, tb44, tc44, td44⟩
  · cases h; exact ⟨f45, h45, f45.body.getD .skip, ta45, rfl, tb45, tc45, td45⟩
  · cases h; exact ⟨f46, h46, f46.body.getD .skip, ta46, rfl, tb46, tc46, td46⟩
  · cases h; exact ⟨f47, h47, f47.body.getD .skip, ta47, rfl, tb47, tc47, td47⟩
  · cases h; exact ⟨f48, h48, f48.body.getD .skip, ta48, rfl, tb48, tc48, td48⟩
  · cases h; exact ⟨f49, h49, f49.body.getD .skip, ta49, rfl, tb49, tc49, td49⟩
  · cases h; exact ⟨f50, h50, f50.body.getD .skip, ta50, rfl, tb50, tc50, td50⟩
  · cases h; exact ⟨f51, h51, f51.body.getD .skip, ta51, rfl, tb51, tc51, td51⟩
  · cases h; exact ⟨f52, h52, f52.body.getD .skip, ta52, rfl, tb52, tc52, td52⟩
  · cases h; exact ⟨f53, h53, f53.body.getD .skip, ta53, rfl, tb53, tc53, td53⟩
  · cases h; exact ⟨f54, h54, f54.body.getD .skip, ta54, rfl, tb54, tc54, td54⟩
  · cases h; exact ⟨f55, h55, f55.body.getD .skip, ta55, rfl, tb55, tc55, td55⟩
  · cases h; exact ⟨f56, h56, f56.body.getD .skip, ta56, rfl, tb56, tc56, td56⟩
  · cases h; exact ⟨f57, h57, f57.body.getD .skip, ta57, rfl, tb57, tc57, td57⟩
  · cases h; exact ⟨f58, h58, f58.body.getD .skip, ta58, rfl, tb58, tc58, td58⟩
  · cases h; exact ⟨f61, h61, f61.body.getD .skip, ta61, rfl, tb61, tc61, td61⟩
  · cases h; exact ⟨f62, h62, f62.body.getD .skip, ta62, rfl, tb62, tc62, td62⟩
  · cases h; exact ⟨f63, h63, f63.body.getD .skip, ta63, rfl, tb63, tc63, td63⟩
  · cases h; exact ⟨f64, h64, f64.body.getD .skip, ta64, rfl, tb64, tc64, td64⟩
  · cases h; exact ⟨f65, h65, f65.body.getD .skip, ta65, rfl, tb65, tc65, td65⟩
  · cases h; exact ⟨f66, h66, f66.body.getD .skip, ta66, rfl, tb66, tc66, td66⟩
  · cases h; exact ⟨f67, h67, f67.body.getD .skip, ta67, rfl, tb67, tc67, td67⟩
  · cases h; exact ⟨f68, h68, f68.body.getD .skip, ta68, rfl, tb68, tc68, td68⟩
  · cases h; exact ⟨f69, h69, f69.body.getD .skip, ta69, rfl, tb69, tc69, td69⟩
  · cases h
theorem mixed : prog.follows .mixedOrders = true := by kernel_rfl
end Go.Proofs.Try
