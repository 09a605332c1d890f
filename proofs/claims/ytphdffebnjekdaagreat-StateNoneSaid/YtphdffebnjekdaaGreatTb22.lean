/- The table of the functions that works() needs, each shown to be the program's own. -/
import Derived.Test.YtphdffebnjekdaaGreatProg
import Derived.KernelRfl
import Derived.Test.YtphdffebnjekdaaGreatXeP
namespace Go.Xe
open Go Go.Proofs
set_option maxRecDepth 100000
def EntOK (P : Program) (f : Fid) (o : Option XFn) : Prop := ∀ xf, o = some xf → ∃ fn, P.funcs[f.toNat]? = some fn ∧ (fn.name == "runtime.NumGoroutine") = false ∧ cF P fn = some xf ∧ okF P fn = true
theorem ent {P : Program} {f : Fid} {fn : Func} (h1 : P.funcs[f.toNat]? = some fn) (h2 : (fn.name == "runtime.NumGoroutine") = false) (h3 : okF P fn = true) : EntOK P f (cF P fn) := fun _ h => ⟨fn, h1, h2, h, h3⟩
theorem ent0 {P : Program} {f : Fid} : EntOK P f none := fun _ h => by cases h
theorem nall {α : Type} {p : D → α → Prop} {x0 x1 x2 x3 x4 x5 x6 x7 x8 x9 xa xb xc xd xe xf : α} (h0 : p .d0 x0) (h1 : p .d1 x1) (h2 : p .d2 x2) (h3 : p .d3 x3) (h4 : p .d4 x4) (h5 : p .d5 x5) (h6 : p .d6 x6) (h7 : p .d7 x7)
    (h8 : p .d8 x8) (h9 : p .d9 x9) (ha : p .da xa) (hb : p .db xb) (hc : p .dc xc) (hd : p .dd xd) (he : p .de xe) (hf : p .df xf) : ∀ d, p d (gD d (N.mk x0 x1 x2 x3 x4 x5 x6 x7 x8 x9 xa xb xc xd xe xf)) := fun d => by cases d <;> assumption
theorem ent0b {P : Program} {a b : D} : ∀ c, EntOK P (.mk a b c) (gD c (fillN none)) := fun c => by rw [gD_fillN]; exact ent0
theorem ent0a {P : Program} {a : D} : ∀ b c, EntOK P (.mk a b c) (gD c (gD b (fillN (fillN none)))) := fun b c => by rw [gD_fillN, gD_fillN]; exact ent0
theorem e10 : EntOK Tryz.prog (.mk .d0 .d0 .da) (cF Tryz.prog Tryz.f10) := ent Tryz.func10 (by kernel_rfl) (by kernel_rfl)
theorem e11 : EntOK Tryz.prog (.mk .d0 .d0 .db) (cF Tryz.prog Tryz.f11) := ent Tryz.func11 (by kernel_rfl) (by kernel_rfl)
theorem e12 : EntOK Tryz.prog (.mk .d0 .d0 .dc) (cF Tryz.prog Tryz.f12) := ent Tryz.func12 (by kernel_rfl) (by kernel_rfl)
theorem e13 : EntOK Tryz.prog (.mk .d0 .d0 .dd) (cF Tryz.prog Tryz.f13) := ent Tryz.func13 (by kernel_rfl) (by kernel_rfl)
theorem e17 : EntOK Tryz.prog (.mk .d0 .d1 .d1) (cF Tryz.prog Tryz.f17) := ent Tryz.func17 (by kernel_rfl) (by kernel_rfl)
theorem e24 : EntOK Tryz.prog (.mk .d0 .d1 .d8) (cF Tryz.prog Tryz.f24) := ent Tryz.func24 (by kernel_rfl) (by kernel_rfl)
theorem e25 : EntOK Tryz.prog (.mk .d0 .d1 .d9) (cF Tryz.prog Tryz.f25) := ent Tryz.func25 (by kernel_rfl) (by kernel_rfl)
theorem e26 : EntOK Tryz.prog (.mk .d0 .d1 .da) (cF Tryz.prog Tryz.f26) := ent Tryz.func26 (by kernel_rfl) (by kernel_rfl)
theorem e27 : EntOK Tryz.prog (.mk .d0 .d1 .db) (cF Tryz.prog Tryz.f27) := ent Tryz.func27 (by kernel_rfl) (by kernel_rfl)
theorem e28 : EntOK Tryz.prog (.mk .d0 .d1 .dc) (cF Tryz.prog Tryz.f28) := ent Tryz.func28 (by kernel_rfl) (by kernel_rfl)
theorem e29 : EntOK Tryz.prog (.mk .d0 .d1 .dd) (cF Tryz.prog Tryz.f29) := ent Tryz.func29 (by kernel_rfl) (by kernel_rfl)
theorem e31 : EntOK Tryz.prog (.mk .d0 .d1 .df) (cF Tryz.prog Tryz.f31) := ent Tryz.func31 (by kernel_rfl) (by kernel_rfl)
theorem e32 : EntOK Tryz.prog (.mk .d0 .d2 .d0) (cF Tryz.prog Tryz.f32) := ent Tryz.func32 (by kernel_rfl) (by kernel_rfl)
theorem e34 : EntOK Tryz.prog (.mk .d0 .d2 .d2) (cF Tryz.prog Tryz.f34) := ent Tryz.func34 (by kernel_rfl) (by kernel_rfl)
theorem e35 : EntOK Tryz.prog (.mk .d0 .d2 .d3) (cF Tryz.prog Tryz.f35) := ent Tryz.func35 (by kernel_rfl) (by kernel_rfl)
theorem e36 : EntOK Tryz.prog (.mk .d0 .d2 .d4) (cF Tryz.prog Tryz.f36) := ent Tryz.func36 (by kernel_rfl) (by kernel_rfl)
theorem e37 : EntOK Tryz.prog (.mk .d0 .d2 .d5) (cF Tryz.prog Tryz.f37) := ent Tryz.func37 (by kernel_rfl) (by kernel_rfl)
theorem e38 : EntOK Tryz.prog (.mk .d0 .d2 .d6) (cF Tryz.prog Tryz.f38) := ent Tryz.func38 (by kernel_rfl) (by kernel_rfl)
theorem e40 : EntOK Tryz.prog (.mk .d0 .d2 .d8) (cF Tryz.prog Tryz.f40) := ent Tryz.func40 (by kernel_rfl) (by kernel_rfl)
theorem e41 : EntOK Tryz.prog (.mk .d0 .d2 .d9) (cF Tryz.prog Tryz.f41) := ent Tryz.func41 (by kernel_rfl) (by kernel_rfl)
theorem e42 : EntOK Tryz.prog (.mk .d0 .d2 .da) (cF Tryz.prog Tryz.f42) := ent Tryz.func42 (by kernel_rfl) (by kernel_rfl)
theorem e54 : EntOK Tryz.prog (.mk .d0 .d3 .d6) (cF Tryz.prog Tryz.f54) := ent Tryz.func54 (by kernel_rfl) (by kernel_rfl)
theorem e55 : EntOK Tryz.prog (.mk .d0 .d3 .d7) (cF Tryz.prog Tryz.f55) := ent Tryz.func55 (by kernel_rfl) (by kernel_rfl)
theorem e56 : EntOK Tryz.prog (.mk .d0 .d3 .d8) (cF Tryz.prog Tryz.f56) := ent Tryz.func56 (by kernel_rfl) (by kernel_rfl)
theorem e57 : EntOK Tryz.prog (.mk .d0 .d3 .d9) (cF Tryz.prog Tryz.f57) := ent Tryz.func57 (by kernel_rfl) (by kernel_rfl)
theorem e58 : EntOK Tryz.prog (.mk .d0 .d3 .da) (cF Tryz.prog Tryz.f58) := ent Tryz.func58 (by kernel_rfl) (by kernel_rfl)
theorem e59 : EntOK Tryz.prog (.mk .d0 .d3 .db) (cF Tryz.prog Tryz.f59) := ent Tryz.func59 (by kernel_rfl) (by kernel_rfl)
theorem e62 : EntOK Tryz.prog (.mk .d0 .d3 .de) (cF Tryz.prog Tryz.f62) := ent Tryz.func62 (by kernel_rfl) (by kernel_rfl)
theorem e63 : EntOK Tryz.prog (.mk .d0 .d3 .df) (cF Tryz.prog Tryz.f63) := ent Tryz.func63 (by kernel_rfl) (by kernel_rfl)
theorem e64 : EntOK Tryz.prog (.mk .d0 .d4 .d0) (cF Tryz.prog Tryz.f64) := ent Tryz.func64 (by kernel_rfl) (by kernel_rfl)
theorem e65 : EntOK Tryz.prog (.mk .d0 .d4 .d1) (cF Tryz.prog Tryz.f65) := ent Tryz.func65 (by kernel_rfl) (by kernel_rfl)
theorem e66 : EntOK Tryz.prog (.mk .d0 .d4 .d2) (cF Tryz.prog Tryz.f66) := ent Tryz.func66 (by kernel_rfl) (by kernel_rfl)
theorem e67 : EntOK Tryz.prog (.mk .d0 .d4 .d3) (cF Tryz.prog Tryz.f67) := ent Tryz.func67 (by kernel_rfl) (by kernel_rfl)
theorem e68 : EntOK Tryz.prog (.mk .d0 .d4 .d4) (cF Tryz.prog Tryz.f68) := ent Tryz.func68 (by kernel_rfl) (by kernel_rfl)
theorem e69 : EntOK Tryz.prog (.mk .d0 .d4 .d5) (cF Tryz.prog Tryz.f69) := ent Tryz.func69 (by kernel_rfl) (by kernel_rfl)
theorem e70 : EntOK Tryz.prog (.mk .d0 .d4 .d6) (cF Tryz.prog Tryz.f70) := ent Tryz.func70 (by kernel_rfl) (by kernel_rfl)
theorem e71 : EntOK Tryz.prog (.mk .d0 .d4 .d7) (cF Tryz.prog Tryz.f71) := ent Tryz.func71 (by kernel_rfl) (by kernel_rfl)
theorem e72 : EntOK Tryz.prog (.mk .d0 .d4 .d8) (cF Tryz.prog Tryz.f72) := ent Tryz.func72 (by kernel_rfl) (by kernel_rfl)
theorem e73 : EntOK Tryz.prog (.mk .d0 .d4 .d9) (cF Tryz.prog Tryz.f73) := ent Tryz.func73 (by kernel_rfl) (by kernel_rfl)
theorem e74 : EntOK Tryz.prog (.mk .d0 .d4 .da) (cF Tryz.prog Tryz.f74) := ent Tryz.func74 (by kernel_rfl) (by kernel_rfl)
theorem e75 : EntOK Tryz.prog (.mk .d0 .d4 .db) (cF Tryz.prog Tryz.f75) := ent Tryz.func75 (by kernel_rfl) (by kernel_rfl)
theorem e76 : EntOK Tryz.prog (.mk .d0 .d4 .dc) (cF Tryz.prog Tryz.f76) := ent Tryz.func76 (by kernel_rfl) (by kernel_rfl)
theorem e77 : EntOK Tryz.prog (.mk .d0 .d4 .dd) (cF Tryz.prog Tryz.f77) := ent Tryz.func77 (by kernel_rfl) (by kernel_rfl)
theorem e78 : EntOK Tryz.prog (.mk .d0 .d4 .de) (cF Tryz.prog Tryz.f78) := ent Tryz.func78 (by kernel_rfl) (by kernel_rfl)
theorem e79 : EntOK Tryz.prog (.mk .d0 .d4 .df) (cF Tryz.prog Tryz.f79) := ent Tryz.func79 (by kernel_rfl) (by kernel_rfl)
theorem e80 : EntOK Tryz.prog (.mk .d0 .d5 .d0) (cF Tryz.prog Tryz.f80) := ent Tryz.func80 (by kernel_rfl) (by kernel_rfl)
theorem e81 : EntOK Tryz.prog (.mk .d0 .d5 .d1) (cF Tryz.prog Tryz.f81) := ent Tryz.func81 (by kernel_rfl) (by kernel_rfl)
theorem e82 : EntOK Tryz.prog (.mk .d0 .d5 .d2) (cF Tryz.prog Tryz.f82) := ent Tryz.func82 (by kernel_rfl) (by kernel_rfl)
theorem e83 : EntOK Tryz.prog (.mk .d0 .d5 .d3) (cF Tryz.prog Tryz.f83) := ent Tryz.func83 (by kernel_rfl) (by kernel_rfl)
theorem e84 : EntOK Tryz.prog (.mk .d0 .d5 .d4) (cF Tryz.prog Tryz.f84) := ent Tryz.func84 (by kernel_rfl) (by kernel_rfl)
theorem e85 : EntOK Tryz.prog (.mk .d0 .d5 .d5) (cF Tryz.prog Tryz.f85) := ent Tryz.func85 (by kernel_rfl) (by kernel_rfl)
theorem e86 : EntOK Tryz.prog (.mk .d0 .d5 .d6) (cF Tryz.prog Tryz.f86) := ent Tryz.func86 (by kernel_rfl) (by kernel_rfl)
theorem e87 : EntOK Tryz.prog (.mk .d0 .d5 .d7) (cF Tryz.prog Tryz.f87) := ent Tryz.func87 (by kernel_rfl) (by kernel_rfl)
theorem e88 : EntOK Tryz.prog (.mk .d0 .d5 .d8) (cF Tryz.prog Tryz.f88) := ent Tryz.func88 (by kernel_rfl) (by kernel_rfl)
theorem e90 : EntOK Tryz.prog (.mk .d0 .d5 .da) (cF Tryz.prog Tryz.f90) := ent Tryz.func90 (by kernel_rfl) (by kernel_rfl)
theorem e91 : EntOK Tryz.prog (.mk .d0 .d5 .db) (cF Tryz.prog Tryz.f91) := ent Tryz.func91 (by kernel_rfl) (by kernel_rfl)
theorem e92 : EntOK Tryz.prog (.mk .d0 .d5 .dc) (cF Tryz.prog Tryz.f92) := ent Tryz.func92 (by kernel_rfl) (by kernel_rfl)
theorem e93 : EntOK Tryz.prog (.mk .d0 .d5 .dd) (cF Tryz.prog Tryz.f93) := ent Tryz.func93 (by kernel_rfl) (by kernel_rfl)
theorem e94 : EntOK Tryz.prog (.mk .d0 .d5 .de) (cF Tryz.prog Tryz.f94) := ent Tryz.func94 (by kernel_rfl) (by kernel_rfl)
theorem e95 : EntOK Tryz.prog (.mk .d0 .d5 .df) (cF Tryz.prog Tryz.f95) := ent Tryz.func95 (by kernel_rfl) (by kernel_rfl)
theorem e96 : EntOK Tryz.prog (.mk .d0 .d6 .d0) (cF Tryz.prog Tryz.f96) := ent Tryz.func96 (by kernel_rfl) (by kernel_rfl)
theorem e101 : EntOK Tryz.prog (.mk .d0 .d6 .d5) (cF Tryz.prog Tryz.f101) := ent Tryz.func101 (by kernel_rfl) (by kernel_rfl)
theorem e102 : EntOK Tryz.prog (.mk .d0 .d6 .d6) (cF Tryz.prog Tryz.f102) := ent Tryz.func102 (by kernel_rfl) (by kernel_rfl)
theorem e103 : EntOK Tryz.prog (.mk .d0 .d6 .d7) (cF Tryz.prog Tryz.f103) := ent Tryz.func103 (by kernel_rfl) (by kernel_rfl)
theorem e104 : EntOK Tryz.prog (.mk .d0 .d6 .d8) (cF Tryz.prog Tryz.f104) := ent Tryz.func104 (by kernel_rfl) (by kernel_rfl)
theorem e105 : EntOK Tryz.prog (.mk .d0 .d6 .d9) (cF Tryz.prog Tryz.f105) := ent Tryz.func105 (by kernel_rfl) (by kernel_rfl)
theorem e106 : EntOK Tryz.prog (.mk .d0 .d6 .da) (cF Tryz.prog Tryz.f106) := ent Tryz.func106 (by kernel_rfl) (by kernel_rfl)
theorem e107 : EntOK Tryz.prog (.mk .d0 .d6 .db) (cF Tryz.prog Tryz.f107) := ent Tryz.func107 (by kernel_rfl) (by kernel_rfl)
theorem e132 : EntOK Tryz.prog (.mk .d0 .d8 .d4) (cF Tryz.prog Tryz.f132) := ent Tryz.func132 (by kernel_rfl) (by kernel_rfl)
theorem e133 : EntOK Tryz.prog (.mk .d0 .d8 .d5) (cF Tryz.prog Tryz.f133) := ent Tryz.func133 (by kernel_rfl) (by kernel_rfl)
theorem e134 : EntOK Tryz.prog (.mk .d0 .d8 .d6) (cF Tryz.prog Tryz.f134) := ent Tryz.func134 (by kernel_rfl) (by kernel_rfl)
theorem e135 : EntOK Tryz.prog (.mk .d0 .d8 .d7) (cF Tryz.prog Tryz.f135) := ent Tryz.func135 (by kernel_rfl) (by kernel_rfl)
theorem e136 : EntOK Tryz.prog (.mk .d0 .d8 .d8) (cF Tryz.prog Tryz.f136) := ent Tryz.func136 (by kernel_rfl) (by kernel_rfl)
theorem e137 : EntOK Tryz.prog (.mk .d0 .d8 .d9) (cF Tryz.prog Tryz.f137) := ent Tryz.func137 (by kernel_rfl) (by kernel_rfl)
theorem e138 : EntOK Tryz.prog (.mk .d0 .d8 .da) (cF Tryz.prog Tryz.f138) := ent Tryz.func138 (by kernel_rfl) (by kernel_rfl)
theorem e139 : EntOK Tryz.prog (.mk .d0 .d8 .db) (cF Tryz.prog Tryz.f139) := ent Tryz.func139 (by kernel_rfl) (by kernel_rfl)
theorem e142 : EntOK Tryz.prog (.mk .d0 .d8 .de) (cF Tryz.prog Tryz.f142) := ent Tryz.func142 (by kernel_rfl) (by kernel_rfl)
theorem e144 : EntOK Tryz.prog (.mk .d0 .d9 .d0) (cF Tryz.prog Tryz.f144) := ent Tryz.func144 (by kernel_rfl) (by kernel_rfl)
theorem e145 : EntOK Tryz.prog (.mk .d0 .d9 .d1) (cF Tryz.prog Tryz.f145) := ent Tryz.func145 (by kernel_rfl) (by kernel_rfl)
theorem e146 : EntOK Tryz.prog (.mk .d0 .d9 .d2) (cF Tryz.prog Tryz.f146) := ent Tryz.func146 (by kernel_rfl) (by kernel_rfl)
theorem e148 : EntOK Tryz.prog (.mk .d0 .d9 .d4) (cF Tryz.prog Tryz.f148) := ent Tryz.func148 (by kernel_rfl) (by kernel_rfl)
theorem e149 : EntOK Tryz.prog (.mk .d0 .d9 .d5) (cF Tryz.prog Tryz.f149) := ent Tryz.func149 (by kernel_rfl) (by kernel_rfl)
theorem e150 : EntOK Tryz.prog (.mk .d0 .d9 .d6) (cF Tryz.prog Tryz.f150) := ent Tryz.func150 (by kernel_rfl) (by kernel_rfl)
theorem e151 : EntOK Tryz.prog (.mk .d0 .d9 .d7) (cF Tryz.prog Tryz.f151) := ent Tryz.func151 (by kernel_rfl) (by kernel_rfl)
theorem e152 : EntOK Tryz.prog (.mk .d0 .d9 .d8) (cF Tryz.prog Tryz.f152) := ent Tryz.func152 (by kernel_rfl) (by kernel_rfl)
theorem e153 : EntOK Tryz.prog (.mk .d0 .d9 .d9) (cF Tryz.prog Tryz.f153) := ent Tryz.func153 (by kernel_rfl) (by kernel_rfl)
theorem e154 : EntOK Tryz.prog (.mk .d0 .d9 .da) (cF Tryz.prog Tryz.f154) := ent Tryz.func154 (by kernel_rfl) (by kernel_rfl)
theorem e155 : EntOK Tryz.prog (.mk .d0 .d9 .db) (cF Tryz.prog Tryz.f155) := ent Tryz.func155 (by kernel_rfl) (by kernel_rfl)
theorem e156 : EntOK Tryz.prog (.mk .d0 .d9 .dc) (cF Tryz.prog Tryz.f156) := ent Tryz.func156 (by kernel_rfl) (by kernel_rfl)
theorem e157 : EntOK Tryz.prog (.mk .d0 .d9 .dd) (cF Tryz.prog Tryz.f157) := ent Tryz.func157 (by kernel_rfl) (by kernel_rfl)
theorem e158 : EntOK Tryz.prog (.mk .d0 .d9 .de) (cF Tryz.prog Tryz.f158) := ent Tryz.func158 (by kernel_rfl) (by kernel_rfl)
theorem e159 : EntOK Tryz.prog (.mk .d0 .d9 .df) (cF Tryz.prog Tryz.f159) := ent Tryz.func159 (by kernel_rfl) (by kernel_rfl)
theorem e160 : EntOK Tryz.prog (.mk .d0 .da .d0) (cF Tryz.prog Tryz.f160) := ent Tryz.func160 (by kernel_rfl) (by kernel_rfl)
theorem e161 : EntOK Tryz.prog (.mk .d0 .da .d1) (cF Tryz.prog Tryz.f161) := ent Tryz.func161 (by kernel_rfl) (by kernel_rfl)
theorem e162 : EntOK Tryz.prog (.mk .d0 .da .d2) (cF Tryz.prog Tryz.f162) := ent Tryz.func162 (by kernel_rfl) (by kernel_rfl)
theorem e163 : EntOK Tryz.prog (.mk .d0 .da .d3) (cF Tryz.prog Tryz.f163) := ent Tryz.func163 (by kernel_rfl) (by kernel_rfl)
theorem e164 : EntOK Tryz.prog (.mk .d0 .da .d4) (cF Tryz.prog Tryz.f164) := ent Tryz.func164 (by kernel_rfl) (by kernel_rfl)
theorem e165 : EntOK Tryz.prog (.mk .d0 .da .d5) (cF Tryz.prog Tryz.f165) := ent Tryz.func165 (by kernel_rfl) (by kernel_rfl)
theorem e166 : EntOK Tryz.prog (.mk .d0 .da .d6) (cF Tryz.prog Tryz.f166) := ent Tryz.func166 (by kernel_rfl) (by kernel_rfl)
theorem e167 : EntOK Tryz.prog (.mk .d0 .da .d7) (cF Tryz.prog Tryz.f167) := ent Tryz.func167 (by kernel_rfl) (by kernel_rfl)
theorem e168 : EntOK Tryz.prog (.mk .d0 .da .d8) (cF Tryz.prog Tryz.f168) := ent Tryz.func168 (by kernel_rfl) (by kernel_rfl)
theorem e169 : EntOK Tryz.prog (.mk .d0 .da .d9) (cF Tryz.prog Tryz.f169) := ent Tryz.func169 (by kernel_rfl) (by kernel_rfl)
theorem e170 : EntOK Tryz.prog (.mk .d0 .da .da) (cF Tryz.prog Tryz.f170) := ent Tryz.func170 (by kernel_rfl) (by kernel_rfl)
theorem e171 : EntOK Tryz.prog (.mk .d0 .da .db) (cF Tryz.prog Tryz.f171) := ent Tryz.func171 (by kernel_rfl) (by kernel_rfl)
theorem e172 : EntOK Tryz.prog (.mk .d0 .da .dc) (cF Tryz.prog Tryz.f172) := ent Tryz.func172 (by kernel_rfl) (by kernel_rfl)
theorem e173 : EntOK Tryz.prog (.mk .d0 .da .dd) (cF Tryz.prog Tryz.f173) := ent Tryz.func173 (by kernel_rfl) (by kernel_rfl)
theorem e177 : EntOK Tryz.prog (.mk .d0 .db .d1) (cF Tryz.prog Tryz.f177) := ent Tryz.func177 (by kernel_rfl) (by kernel_rfl)
theorem e179 : EntOK Tryz.prog (.mk .d0 .db .d3) (cF Tryz.prog Tryz.f179) := ent Tryz.func179 (by kernel_rfl) (by kernel_rfl)
theorem e182 : EntOK Tryz.prog (.mk .d0 .db .d6) (cF Tryz.prog Tryz.f182) := ent Tryz.func182 (by kernel_rfl) (by kernel_rfl)
theorem e201 : EntOK Tryz.prog (.mk .d0 .dc .d9) (cF Tryz.prog Tryz.f201) := ent Tryz.func201 (by kernel_rfl) (by kernel_rfl)
theorem e203 : EntOK Tryz.prog (.mk .d0 .dc .db) (cF Tryz.prog Tryz.f203) := ent Tryz.func203 (by kernel_rfl) (by kernel_rfl)
theorem e204 : EntOK Tryz.prog (.mk .d0 .dc .dc) (cF Tryz.prog Tryz.f204) := ent Tryz.func204 (by kernel_rfl) (by kernel_rfl)
theorem e205 : EntOK Tryz.prog (.mk .d0 .dc .dd) (cF Tryz.prog Tryz.f205) := ent Tryz.func205 (by kernel_rfl) (by kernel_rfl)
theorem e206 : EntOK Tryz.prog (.mk .d0 .dc .de) (cF Tryz.prog Tryz.f206) := ent Tryz.func206 (by kernel_rfl) (by kernel_rfl)
theorem e207 : EntOK Tryz.prog (.mk .d0 .dc .df) (cF Tryz.prog Tryz.f207) := ent Tryz.func207 (by kernel_rfl) (by kernel_rfl)
theorem e208 : EntOK Tryz.prog (.mk .d0 .dd .d0) (cF Tryz.prog Tryz.f208) := ent Tryz.func208 (by kernel_rfl) (by kernel_rfl)
theorem e209 : EntOK Tryz.prog (.mk .d0 .dd .d1) (cF Tryz.prog Tryz.f209) := ent Tryz.func209 (by kernel_rfl) (by kernel_rfl)
theorem e210 : EntOK Tryz.prog (.mk .d0 .dd .d2) (cF Tryz.prog Tryz.f210) := ent Tryz.func210 (by kernel_rfl) (by kernel_rfl)
theorem e211 : EntOK Tryz.prog (.mk .d0 .dd .d3) (cF Tryz.prog Tryz.f211) := ent Tryz.func211 (by kernel_rfl) (by kernel_rfl)
theorem e212 : EntOK Tryz.prog (.mk .d0 .dd .d4) (cF Tryz.prog Tryz.f212) := ent Tryz.func212 (by kernel_rfl) (by kernel_rfl)
theorem e216 : EntOK Tryz.prog (.mk .d0 .dd .d8) (cF Tryz.prog Tryz.f216) := ent Tryz.func216 (by kernel_rfl) (by kernel_rfl)
theorem e217 : EntOK Tryz.prog (.mk .d0 .dd .d9) (cF Tryz.prog Tryz.f217) := ent Tryz.func217 (by kernel_rfl) (by kernel_rfl)
theorem e218 : EntOK Tryz.prog (.mk .d0 .dd .da) (cF Tryz.prog Tryz.f218) := ent Tryz.func218 (by kernel_rfl) (by kernel_rfl)
theorem e219 : EntOK Tryz.prog (.mk .d0 .dd .db) (cF Tryz.prog Tryz.f219) := ent Tryz.func219 (by kernel_rfl) (by kernel_rfl)
theorem e220 : EntOK Tryz.prog (.mk .d0 .dd .dc) (cF Tryz.prog Tryz.f220) := ent Tryz.func220 (by kernel_rfl) (by kernel_rfl)
theorem e222 : EntOK Tryz.prog (.mk .d0 .dd .de) (cF Tryz.prog Tryz.f222) := ent Tryz.func222 (by kernel_rfl) (by kernel_rfl)
theorem e223 : EntOK Tryz.prog (.mk .d0 .dd .df) (cF Tryz.prog Tryz.f223) := ent Tryz.func223 (by kernel_rfl) (by kernel_rfl)
theorem e224 : EntOK Tryz.prog (.mk .d0 .de .d0) (cF Tryz.prog Tryz.f224) := ent Tryz.func224 (by kernel_rfl) (by kernel_rfl)
theorem e226 : EntOK Tryz.prog (.mk .d0 .de .d2) (cF Tryz.prog Tryz.f226) := ent Tryz.func226 (by kernel_rfl) (by kernel_rfl)
theorem e228 : EntOK Tryz.prog (.mk .d0 .de .d4) (cF Tryz.prog Tryz.f228) := ent Tryz.func228 (by kernel_rfl) (by kernel_rfl)
theorem e230 : EntOK Tryz.prog (.mk .d0 .de .d6) (cF Tryz.prog Tryz.f230) := ent Tryz.func230 (by kernel_rfl) (by kernel_rfl)
theorem e231 : EntOK Tryz.prog (.mk .d0 .de .d7) (cF Tryz.prog Tryz.f231) := ent Tryz.func231 (by kernel_rfl) (by kernel_rfl)
theorem e232 : EntOK Tryz.prog (.mk .d0 .de .d8) (cF Tryz.prog Tryz.f232) := ent Tryz.func232 (by kernel_rfl) (by kernel_rfl)
theorem e233 : EntOK Tryz.prog (.mk .d0 .de .d9) (cF Tryz.prog Tryz.f233) := ent Tryz.func233 (by kernel_rfl) (by kernel_rfl)
theorem e234 : EntOK Tryz.prog (.mk .d0 .de .da) (cF Tryz.prog Tryz.f234) := ent Tryz.func234 (by kernel_rfl) (by kernel_rfl)
theorem e235 : EntOK Tryz.prog (.mk .d0 .de .db) (cF Tryz.prog Tryz.f235) := ent Tryz.func235 (by kernel_rfl) (by kernel_rfl)
theorem e236 : EntOK Tryz.prog (.mk .d0 .de .dc) (cF Tryz.prog Tryz.f236) := ent Tryz.func236 (by kernel_rfl) (by kernel_rfl)
theorem e239 : EntOK Tryz.prog (.mk .d0 .de .df) (cF Tryz.prog Tryz.f239) := ent Tryz.func239 (by kernel_rfl) (by kernel_rfl)
theorem e240 : EntOK Tryz.prog (.mk .d0 .df .d0) (cF Tryz.prog Tryz.f240) := ent Tryz.func240 (by kernel_rfl) (by kernel_rfl)
theorem e241 : EntOK Tryz.prog (.mk .d0 .df .d1) (cF Tryz.prog Tryz.f241) := ent Tryz.func241 (by kernel_rfl) (by kernel_rfl)
theorem e242 : EntOK Tryz.prog (.mk .d0 .df .d2) (cF Tryz.prog Tryz.f242) := ent Tryz.func242 (by kernel_rfl) (by kernel_rfl)
theorem e243 : EntOK Tryz.prog (.mk .d0 .df .d3) (cF Tryz.prog Tryz.f243) := ent Tryz.func243 (by kernel_rfl) (by kernel_rfl)
theorem e244 : EntOK Tryz.prog (.mk .d0 .df .d4) (cF Tryz.prog Tryz.f244) := ent Tryz.func244 (by kernel_rfl) (by kernel_rfl)
theorem e245 : EntOK Tryz.prog (.mk .d0 .df .d5) (cF Tryz.prog Tryz.f245) := ent Tryz.func245 (by kernel_rfl) (by kernel_rfl)
theorem e246 : EntOK Tryz.prog (.mk .d0 .df .d6) (cF Tryz.prog Tryz.f246) := ent Tryz.func246 (by kernel_rfl) (by kernel_rfl)
theorem e247 : EntOK Tryz.prog (.mk .d0 .df .d7) (cF Tryz.prog Tryz.f247) := ent Tryz.func247 (by kernel_rfl) (by kernel_rfl)
theorem e248 : EntOK Tryz.prog (.mk .d0 .df .d8) (cF Tryz.prog Tryz.f248) := ent Tryz.func248 (by kernel_rfl) (by kernel_rfl)
theorem e249 : EntOK Tryz.prog (.mk .d0 .df .d9) (cF Tryz.prog Tryz.f249) := ent Tryz.func249 (by kernel_rfl) (by kernel_rfl)
theorem e250 : EntOK Tryz.prog (.mk .d0 .df .da) (cF Tryz.prog Tryz.f250) := ent Tryz.func250 (by kernel_rfl) (by kernel_rfl)
theorem e251 : EntOK Tryz.prog (.mk .d0 .df .db) (cF Tryz.prog Tryz.f251) := ent Tryz.func251 (by kernel_rfl) (by kernel_rfl)
theorem e252 : EntOK Tryz.prog (.mk .d0 .df .dc) (cF Tryz.prog Tryz.f252) := ent Tryz.func252 (by kernel_rfl) (by kernel_rfl)
theorem e261 : EntOK Tryz.prog (.mk .d1 .d0 .d5) (cF Tryz.prog Tryz.f261) := ent Tryz.func261 (by kernel_rfl) (by kernel_rfl)
theorem e262 : EntOK Tryz.prog (.mk .d1 .d0 .d6) (cF Tryz.prog Tryz.f262) := ent Tryz.func262 (by kernel_rfl) (by kernel_rfl)
theorem e264 : EntOK Tryz.prog (.mk .d1 .d0 .d8) (cF Tryz.prog Tryz.f264) := ent Tryz.func264 (by kernel_rfl) (by kernel_rfl)
theorem e265 : EntOK Tryz.prog (.mk .d1 .d0 .d9) (cF Tryz.prog Tryz.f265) := ent Tryz.func265 (by kernel_rfl) (by kernel_rfl)
theorem e266 : EntOK Tryz.prog (.mk .d1 .d0 .da) (cF Tryz.prog Tryz.f266) := ent Tryz.func266 (by kernel_rfl) (by kernel_rfl)
theorem e267 : EntOK Tryz.prog (.mk .d1 .d0 .db) (cF Tryz.prog Tryz.f267) := ent Tryz.func267 (by kernel_rfl) (by kernel_rfl)
theorem e268 : EntOK Tryz.prog (.mk .d1 .d0 .dc) (cF Tryz.prog Tryz.f268) := ent Tryz.func268 (by kernel_rfl) (by kernel_rfl)
theorem e273 : EntOK Tryz.prog (.mk .d1 .d1 .d1) (cF Tryz.prog Tryz.f273) := ent Tryz.func273 (by kernel_rfl) (by kernel_rfl)
theorem e275 : EntOK Tryz.prog (.mk .d1 .d1 .d3) (cF Tryz.prog Tryz.f275) := ent Tryz.func275 (by kernel_rfl) (by kernel_rfl)
theorem e276 : EntOK Tryz.prog (.mk .d1 .d1 .d4) (cF Tryz.prog Tryz.f276) := ent Tryz.func276 (by kernel_rfl) (by kernel_rfl)
theorem e277 : EntOK Tryz.prog (.mk .d1 .d1 .d5) (cF Tryz.prog Tryz.f277) := ent Tryz.func277 (by kernel_rfl) (by kernel_rfl)
theorem e278 : EntOK Tryz.prog (.mk .d1 .d1 .d6) (cF Tryz.prog Tryz.f278) := ent Tryz.func278 (by kernel_rfl) (by kernel_rfl)
theorem e279 : EntOK Tryz.prog (.mk .d1 .d1 .d7) (cF Tryz.prog Tryz.f279) := ent Tryz.func279 (by kernel_rfl) (by kernel_rfl)
theorem e280 : EntOK Tryz.prog (.mk .d1 .d1 .d8) (cF Tryz.prog Tryz.f280) := ent Tryz.func280 (by kernel_rfl) (by kernel_rfl)
theorem e281 : EntOK Tryz.prog (.mk .d1 .d1 .d9) (cF Tryz.prog Tryz.f281) := ent Tryz.func281 (by kernel_rfl) (by kernel_rfl)
theorem e282 : EntOK Tryz.prog (.mk .d1 .d1 .da) (cF Tryz.prog Tryz.f282) := ent Tryz.func282 (by kernel_rfl) (by kernel_rfl)
theorem e285 : EntOK Tryz.prog (.mk .d1 .d1 .dd) (cF Tryz.prog Tryz.f285) := ent Tryz.func285 (by kernel_rfl) (by kernel_rfl)
theorem e286 : EntOK Tryz.prog (.mk .d1 .d1 .de) (cF Tryz.prog Tryz.f286) := ent Tryz.func286 (by kernel_rfl) (by kernel_rfl)
theorem e287 : EntOK Tryz.prog (.mk .d1 .d1 .df) (cF Tryz.prog Tryz.f287) := ent Tryz.func287 (by kernel_rfl) (by kernel_rfl)
theorem e289 : EntOK Tryz.prog (.mk .d1 .d2 .d1) (cF Tryz.prog Tryz.f289) := ent Tryz.func289 (by kernel_rfl) (by kernel_rfl)
theorem e290 : EntOK Tryz.prog (.mk .d1 .d2 .d2) (cF Tryz.prog Tryz.f290) := ent Tryz.func290 (by kernel_rfl) (by kernel_rfl)
theorem e291 : EntOK Tryz.prog (.mk .d1 .d2 .d3) (cF Tryz.prog Tryz.f291) := ent Tryz.func291 (by kernel_rfl) (by kernel_rfl)
theorem e292 : EntOK Tryz.prog (.mk .d1 .d2 .d4) (cF Tryz.prog Tryz.f292) := ent Tryz.func292 (by kernel_rfl) (by kernel_rfl)
theorem e293 : EntOK Tryz.prog (.mk .d1 .d2 .d5) (cF Tryz.prog Tryz.f293) := ent Tryz.func293 (by kernel_rfl) (by kernel_rfl)
theorem e294 : EntOK Tryz.prog (.mk .d1 .d2 .d6) (cF Tryz.prog Tryz.f294) := ent Tryz.func294 (by kernel_rfl) (by kernel_rfl)
theorem e295 : EntOK Tryz.prog (.mk .d1 .d2 .d7) (cF Tryz.prog Tryz.f295) := ent Tryz.func295 (by kernel_rfl) (by kernel_rfl)
theorem e298 : EntOK Tryz.prog (.mk .d1 .d2 .da) (cF Tryz.prog Tryz.f298) := ent Tryz.func298 (by kernel_rfl) (by kernel_rfl)
theorem e299 : EntOK Tryz.prog (.mk .d1 .d2 .db) (cF Tryz.prog Tryz.f299) := ent Tryz.func299 (by kernel_rfl) (by kernel_rfl)
theorem e300 : EntOK Tryz.prog (.mk .d1 .d2 .dc) (cF Tryz.prog Tryz.f300) := ent Tryz.func300 (by kernel_rfl) (by kernel_rfl)
theorem e301 : EntOK Tryz.prog (.mk .d1 .d2 .dd) (cF Tryz.prog Tryz.f301) := ent Tryz.func301 (by kernel_rfl) (by kernel_rfl)
theorem e304 : EntOK Tryz.prog (.mk .d1 .d3 .d0) (cF Tryz.prog Tryz.f304) := ent Tryz.func304 (by kernel_rfl) (by kernel_rfl)
theorem e309 : EntOK Tryz.prog (.mk .d1 .d3 .d5) (cF Tryz.prog Tryz.f309) := ent Tryz.func309 (by kernel_rfl) (by kernel_rfl)
theorem e310 : EntOK Tryz.prog (.mk .d1 .d3 .d6) (cF Tryz.prog Tryz.f310) := ent Tryz.func310 (by kernel_rfl) (by kernel_rfl)
theorem e311 : EntOK Tryz.prog (.mk .d1 .d3 .d7) (cF Tryz.prog Tryz.f311) := ent Tryz.func311 (by kernel_rfl) (by kernel_rfl)
theorem e312 : EntOK Tryz.prog (.mk .d1 .d3 .d8) (cF Tryz.prog Tryz.f312) := ent Tryz.func312 (by kernel_rfl) (by kernel_rfl)
theorem e316 : EntOK Tryz.prog (.mk .d1 .d3 .dc) (cF Tryz.prog Tryz.f316) := ent Tryz.func316 (by kernel_rfl) (by kernel_rfl)
theorem e317 : EntOK Tryz.prog (.mk .d1 .d3 .dd) (cF Tryz.prog Tryz.f317) := ent Tryz.func317 (by kernel_rfl) (by kernel_rfl)
theorem e318 : EntOK Tryz.prog (.mk .d1 .d3 .de) (cF Tryz.prog Tryz.f318) := ent Tryz.func318 (by kernel_rfl) (by kernel_rfl)
theorem e320 : EntOK Tryz.prog (.mk .d1 .d4 .d0) (cF Tryz.prog Tryz.f320) := ent Tryz.func320 (by kernel_rfl) (by kernel_rfl)
theorem e321 : EntOK Tryz.prog (.mk .d1 .d4 .d1) (cF Tryz.prog Tryz.f321) := ent Tryz.func321 (by kernel_rfl) (by kernel_rfl)
theorem e323 : EntOK Tryz.prog (.mk .d1 .d4 .d3) (cF Tryz.prog Tryz.f323) := ent Tryz.func323 (by kernel_rfl) (by kernel_rfl)
theorem e324 : EntOK Tryz.prog (.mk .d1 .d4 .d4) (cF Tryz.prog Tryz.f324) := ent Tryz.func324 (by kernel_rfl) (by kernel_rfl)
theorem e327 : EntOK Tryz.prog (.mk .d1 .d4 .d7) (cF Tryz.prog Tryz.f327) := ent Tryz.func327 (by kernel_rfl) (by kernel_rfl)
theorem e330 : EntOK Tryz.prog (.mk .d1 .d4 .da) (cF Tryz.prog Tryz.f330) := ent Tryz.func330 (by kernel_rfl) (by kernel_rfl)
theorem e338 : EntOK Tryz.prog (.mk .d1 .d5 .d2) (cF Tryz.prog Tryz.f338) := ent Tryz.func338 (by kernel_rfl) (by kernel_rfl)
theorem e339 : EntOK Tryz.prog (.mk .d1 .d5 .d3) (cF Tryz.prog Tryz.f339) := ent Tryz.func339 (by kernel_rfl) (by kernel_rfl)
theorem e346 : EntOK Tryz.prog (.mk .d1 .d5 .da) (cF Tryz.prog Tryz.f346) := ent Tryz.func346 (by kernel_rfl) (by kernel_rfl)
theorem e355 : EntOK Tryz.prog (.mk .d1 .d6 .d3) (cF Tryz.prog Tryz.f355) := ent Tryz.func355 (by kernel_rfl) (by kernel_rfl)
noncomputable def t00 : N (Option XFn) := N.mk none none none none none none none none none none (cF Tryz.prog Tryz.f10) (cF Tryz.prog Tryz.f11) (cF Tryz.prog Tryz.f12) (cF Tryz.prog Tryz.f13) none none
theorem r00 : ∀ c, EntOK Tryz.prog (.mk .d0 .d0 c) (gD c t00) := nall (p := fun c => EntOK Tryz.prog (.mk .d0 .d0 c)) ent0 ent0 ent0 ent0 ent0 ent0 ent0 ent0 ent0 ent0 e10 e11 e12 e13 ent0 ent0
noncomputable def t01 : N (Option XFn) := N.mk none (cF Tryz.prog Tryz.f17) none none none none none none (cF Tryz.prog Tryz.f24) (cF Tryz.prog Tryz.f25) (cF Tryz.prog Tryz.f26) (cF Tryz.prog Tryz.f27) (cF Tryz.prog Tryz.f28) (cF Tryz.prog Tryz.f29) none (cF Tryz.prog Tryz.f31)
theorem r01 : ∀ c, EntOK Tryz.prog (.mk .d0 .d1 c) (gD c t01) := nall (p := fun c => EntOK Tryz.prog (.mk .d0 .d1 c)) ent0 e17 ent0 ent0 ent0 ent0 ent0 ent0 e24 e25 e26 e27 e28 e29 ent0 e31
noncomputable def t02 : N (Option XFn) := N.mk (cF Tryz.prog Tryz.f32) none (cF Tryz.prog Tryz.f34) (cF Tryz.prog Tryz.f35) (cF Tryz.prog Tryz.f36) (cF Tryz.prog Tryz.f37) (cF Tryz.prog Tryz.f38) none (cF Tryz.prog Tryz.f40) (cF Tryz.prog Tryz.f41) (cF Tryz.prog Tryz.f42) none none none none none
theorem r02 : ∀ c, EntOK Tryz.prog (.mk .d0 .d2 c) (gD c t02) := nall (p := fun c => EntOK Tryz.prog (.mk .d0 .d2 c)) e32 ent0 e34 e35 e36 e37 e38 ent0 e40 e41 e42 ent0 ent0 ent0 ent0 ent0
noncomputable def t03 : N (Option XFn) := N.mk none none none none none none (cF Tryz.prog Tryz.f54) (cF Tryz.prog Tryz.f55) (cF Tryz.prog Tryz.f56) (cF Tryz.prog Tryz.f57) (cF Tryz.prog Tryz.f58) (cF Tryz.prog Tryz.f59) none none (cF Tryz.prog Tryz.f62) (cF Tryz.prog Tryz.f63)
theorem r03 : ∀ c, EntOK Tryz.prog (.mk .d0 .d3 c) (gD c t03) := nall (p := fun c => EntOK Tryz.prog (.mk .d0 .d3 c)) ent0 ent0 ent0 ent0 ent0 ent0 e54 e55 e56 e57 e58 e59 ent0 ent0 e62 e63
noncomputable def t04 : N (Option XFn) := N.mk (cF Tryz.prog Tryz.f64) (cF Tryz.prog Tryz.f65) (cF Tryz.prog Tryz.f66) (cF Tryz.prog Tryz.f67) (cF Tryz.prog Tryz.f68) (cF Tryz.prog Tryz.f69) (cF Tryz.prog Tryz.f70) (cF Tryz.prog Tryz.f71) (cF Tryz.prog Tryz.f72) (cF Tryz.prog Tryz.f73) (cF Tryz.prog Tryz.f74) (cF Tryz.prog Tryz.f75) (cF Tryz.prog Tryz.f76) (cF Tryz.prog Tryz.f77) (cF Tryz.prog Tryz.f78) (cF Tryz.prog Tryz.f79)
theorem r04 : ∀ c, EntOK Tryz.prog (.mk .d0 .d4 c) (gD c t04) := nall (p := fun c => EntOK Tryz.prog (.mk .d0 .d4 c)) e64 e65 e66 e67 e68 e69 e70 e71 e72 e73 e74 e75 e76 e77 e78 e79
noncomputable def t05 : N (Option XFn) := N.mk (cF Tryz.prog Tryz.f80) (cF Tryz.prog Tryz.f81) (cF Tryz.prog Tryz.f82) (cF Tryz.prog Tryz.f83) (cF Tryz.prog Tryz.f84) (cF Tryz.prog Tryz.f85) (cF Tryz.prog Tryz.f86) (cF Tryz.prog Tryz.f87) (cF Tryz.prog Tryz.f88) none (cF Tryz.prog Tryz.f90) (cF Tryz.prog Tryz.f91) (cF Tryz.prog Tryz.f92) (cF Tryz.prog Tryz.f93) (cF Tryz.prog Tryz.f94) (cF Tryz.prog Tryz.f95)
theorem r05 : ∀ c, EntOK Tryz.prog (.mk .d0 .d5 c) (gD c t05) := nall (p := fun c => EntOK Tryz.prog (.mk .d0 .d5 c)) e80 e81 e82 e83 e84 e85 e86 e87 e88 ent0 e90 e91 e92 e93 e94 e95
noncomputable def t06 : N (Option XFn) := N.mk (cF Tryz.prog Tryz.f96) none none none none (cF Tryz.prog Tryz.f101) (cF Tryz.prog Tryz.f102) (cF Tryz.prog Tryz.f103) (cF Tryz.prog Tryz.f104) (cF Tryz.prog Tryz.f105) (cF Tryz.prog Tryz.f106) (cF Tryz.prog Tryz.f107) none none none none
theorem r06 : ∀ c, EntOK Tryz.prog (.mk .d0 .d6 c) (gD c t06) := nall (p := fun c => EntOK Tryz.prog (.mk .d0 .d6 c)) e96 ent0 ent0 ent0 ent0 e101 e102 e103 e104 e105 e106 e107 ent0 ent0 ent0 ent0
noncomputable def t08 : N (Option XFn) := N.mk none none none none (cF Tryz.prog Tryz.f132) (cF Tryz.prog Tryz.f133) (cF Tryz.prog Tryz.f134) (cF Tryz.prog Tryz.f135) (cF Tryz.prog Tryz.f136) (cF Tryz.prog Tryz.f137) (cF Tryz.prog Tryz.f138) (cF Tryz.prog Tryz.f139) none none (cF Tryz.prog Tryz.f142) none
theorem r08 : ∀ c, EntOK Tryz.prog (.mk .d0 .d8 c) (gD c t08) := nall (p := fun c => EntOK Tryz.prog (.mk .d0 .d8 c)) ent0 ent0 ent0 ent0 e132 e133 e134 e135 e136 e137 e138 e139 ent0 ent0 e142 ent0
noncomputable def t09 : N (Option XFn) := N.mk (cF Tryz.prog Tryz.f144) (cF Tryz.prog Tryz.f145) (cF Tryz.prog Tryz.f146) none (cF Tryz.prog Tryz.f148) (cF Tryz.prog Tryz.f149) (cF Tryz.prog Tryz.f150) (cF Tryz.prog Tryz.f151) (cF Tryz.prog Tryz.f152) (cF Tryz.prog Tryz.f153) (cF Tryz.prog Tryz.f154) (cF Tryz.prog Tryz.f155) (cF Tryz.prog Tryz.f156) (cF Tryz.prog Tryz.f157) (cF Tryz.prog Tryz.f158) (cF Tryz.prog Tryz.f159)
theorem r09 : ∀ c, EntOK Tryz.prog (.mk .d0 .d9 c) (gD c t09) := nall (p := fun c => EntOK Tryz.prog (.mk .d0 .d9 c)) e144 e145 e146 ent0 e148 e149 e150 e151 e152 e153 e154 e155 e156 e157 e158 e159
noncomputable def t0a : N (Option XFn) := N.mk (cF Tryz.prog Tryz.f160) (cF Tryz.prog Tryz.f161) (cF Tryz.prog Tryz.f162) (cF Tryz.prog Tryz.f163) (cF Tryz.prog Tryz.f164) (cF Tryz.prog Tryz.f165) (cF Tryz.prog Tryz.f166) (cF Tryz.prog Tryz.f167) (cF Tryz.prog Tryz.f168) (cF Tryz.prog Tryz.f169) (cF Tryz.prog Tryz.f170) (cF Tryz.prog Tryz.f171) (cF Tryz.prog Tryz.f172) (cF Tryz.prog Tryz.f173) none none
theorem r0a : ∀ c, EntOK Tryz.prog (.mk .d0 .da c) (gD c t0a) := nall (p := fun c => EntOK Tryz.prog (.mk .d0 .da c)) e160 e161 e162 e163 e164 e165 e166 e167 e168 e169 e170 e171 e172 e173 ent0 ent0
noncomputable def t0b : N (Option XFn) := N.mk none (cF Tryz.prog Tryz.f177) none (cF Tryz.prog Tryz.f179) none none (cF Tryz.prog Tryz.f182) none none none none none none none none none
theorem r0b : ∀ c, EntOK Tryz.prog (.mk .d0 .db c) (gD c t0b) := nall (p := fun c => EntOK Tryz.prog (.mk .d0 .db c)) ent0 e177 ent0 e179 ent0 ent0 e182 ent0 ent0 ent0 ent0 ent0 ent0 ent0 ent0 ent0
noncomputable def t0c : N (Option XFn) := N.mk none none none none none none none none none (cF Tryz.prog Tryz.f201) none (cF Tryz.prog Tryz.f203) (cF Tryz.prog Tryz.f204) (cF Tryz.prog Tryz.f205) (cF Tryz.prog Tryz.f206) (cF Tryz.prog Tryz.f207)
theorem r0c : ∀ c, EntOK Tryz.prog (.mk .d0 .dc c) (gD c t0c) := nall (p := fun c => EntOK Tryz.prog (.mk .d0 .dc c)) ent0 ent0 ent0 ent0 ent0 ent0 ent0 ent0 ent0 e201 ent0 e203 e204 e205 e206 e207
noncomputable def t0d : N (Option XFn) := N.mk (cF Tryz.prog Tryz.f208) (cF Tryz.prog Tryz.f209) (cF Tryz.prog Tryz.f210) (cF Tryz.prog Tryz.f211) (cF Tryz.prog Tryz.f212) none none none (cF Tryz.prog Tryz.f216) (cF Tryz.prog Tryz.f217) (cF Tryz.prog Tryz.f218) (cF Tryz.prog Tryz.f219) (cF Tryz.prog Tryz.f220) none (cF Tryz.prog Tryz.f222) (cF Tryz.prog Tryz.f223)
theorem r0d : ∀ c, EntOK Tryz.prog (.mk .d0 .dd c) (gD c t0d) := nall (p := fun c => EntOK Tryz.prog (.mk .d0 .dd c)) e208 e209 e210 e211 e212 ent0 ent0 ent0 e216 e217 e218 e219 e220 ent0 e222 e223
noncomputable def t0e : N (Option XFn) := N.mk (cF Tryz.prog Tryz.f224) none (cF Tryz.prog Tryz.f226) none (cF Tryz.prog Tryz.f228) none (cF Tryz.prog Tryz.f230) (cF Tryz.prog Tryz.f231) (cF Tryz.prog Tryz.f232) (cF Tryz.prog Tryz.f233) (cF Tryz.prog Tryz.f234) (cF Tryz.prog Tryz.f235) (cF Tryz.prog Tryz.f236) none none (cF Tryz.prog Tryz.f239)
theorem r0e : ∀ c, EntOK Tryz.prog (.mk .d0 .de c) (gD c t0e) := nall (p := fun c => EntOK Tryz.prog (.mk .d0 .de c)) e224 ent0 e226 ent0 e228 ent0 e230 e231 e232 e233 e234 e235 e236 ent0 ent0 e239
noncomputable def t0f : N (Option XFn) := N.mk (cF Tryz.prog Tryz.f240) (cF Tryz.prog Tryz.f241) (cF Tryz.prog Tryz.f242) (cF Tryz.prog Tryz.f243) (cF Tryz.prog Tryz.f244) (cF Tryz.prog Tryz.f245) (cF Tryz.prog Tryz.f246) (cF Tryz.prog Tryz.f247) (cF Tryz.prog Tryz.f248) (cF Tryz.prog Tryz.f249) (cF Tryz.prog Tryz.f250) (cF Tryz.prog Tryz.f251) (cF Tryz.prog Tryz.f252) none none none
theorem r0f : ∀ c, EntOK Tryz.prog (.mk .d0 .df c) (gD c t0f) := nall (p := fun c => EntOK Tryz.prog (.mk .d0 .df c)) e240 e241 e242 e243 e244 e245 e246 e247 e248 e249 e250 e251 e252 ent0 ent0 ent0
noncomputable def t0 : N (N (Option XFn)) := N.mk t00 t01 t02 t03 t04 t05 t06 (fillN none) t08 t09 t0a t0b t0c t0d t0e t0f
theorem r0 : ∀ b c, EntOK Tryz.prog (.mk .d0 b c) (gD c (gD b t0)) := nall (p := fun b x => ∀ c, EntOK Tryz.prog (.mk .d0 b c) (gD c x)) r00 r01 r02 r03 r04 r05 r06 ent0b r08 r09 r0a r0b r0c r0d r0e r0f
noncomputable def t10 : N (Option XFn) := N.mk none none none none none (cF Tryz.prog Tryz.f261) (cF Tryz.prog Tryz.f262) none (cF Tryz.prog Tryz.f264) (cF Tryz.prog Tryz.f265) (cF Tryz.prog Tryz.f266) (cF Tryz.prog Tryz.f267) (cF Tryz.prog Tryz.f268) none none none
theorem r10 : ∀ c, EntOK Tryz.prog (.mk .d1 .d0 c) (gD c t10) := nall (p := fun c => EntOK Tryz.prog (.mk .d1 .d0 c)) ent0 ent0 ent0 ent0 ent0 e261 e262 ent0 e264 e265 e266 e267 e268 ent0 ent0 ent0
noncomputable def t11 : N (Option XFn) := N.mk none (cF Tryz.prog Tryz.f273) none (cF Tryz.prog Tryz.f275) (cF Tryz.prog Tryz.f276) (cF Tryz.prog Tryz.f277) (cF Tryz.prog Tryz.f278) (cF Tryz.prog Tryz.f279) (cF Tryz.prog Tryz.f280) (cF Tryz.prog Tryz.f281) (cF Tryz.prog Tryz.f282) none none (cF Tryz.prog Tryz.f285) (cF Tryz.prog Tryz.f286) (cF Tryz.prog Tryz.f287)
theorem r11 : ∀ c, EntOK Tryz.prog (.mk .d1 .d1 c) (gD c t11) := nall (p := fun c => EntOK Tryz.prog (.mk .d1 .d1 c)) ent0 e273 ent0 e275 e276 e277 e278 e279 e280 e281 e282 ent0 ent0 e285 e286 e287
noncomputable def t12 : N (Option XFn) := N.mk none (cF Tryz.prog Tryz.f289) (cF Tryz.prog Tryz.f290) (cF Tryz.prog Tryz.f291) (cF Tryz.prog Tryz.f292) (cF Tryz.prog Tryz.f293) (cF Tryz.prog Tryz.f294) (cF Tryz.prog Tryz.f295) none none (cF Tryz.prog Tryz.f298) (cF Tryz.prog Tryz.f299) (cF Tryz.prog Tryz.f300) (cF Tryz.prog Tryz.f301) none none
theorem r12 : ∀ c, EntOK Tryz.prog (.mk .d1 .d2 c) (gD c t12) := nall (p := fun c => EntOK Tryz.prog (.mk .d1 .d2 c)) ent0 e289 e290 e291 e292 e293 e294 e295 ent0 ent0 e298 e299 e300 e301 ent0 ent0
noncomputable def t13 : N (Option XFn) := N.mk (cF Tryz.prog Tryz.f304) none none none none (cF Tryz.prog Tryz.f309) (cF Tryz.prog Tryz.f310) (cF Tryz.prog Tryz.f311) (cF Tryz.prog Tryz.f312) none none none (cF Tryz.prog Tryz.f316) (cF Tryz.prog Tryz.f317) (cF Tryz.prog Tryz.f318) none
theorem r13 : ∀ c, EntOK Tryz.prog (.mk .d1 .d3 c) (gD c t13) := nall (p := fun c => EntOK Tryz.prog (.mk .d1 .d3 c)) e304 ent0 ent0 ent0 ent0 e309 e310 e311 e312 ent0 ent0 ent0 e316 e317 e318 ent0
noncomputable def t14 : N (Option XFn) := N.mk (cF Tryz.prog Tryz.f320) (cF Tryz.prog Tryz.f321) none (cF Tryz.prog Tryz.f323) (cF Tryz.prog Tryz.f324) none none (cF Tryz.prog Tryz.f327) none none (cF Tryz.prog Tryz.f330) none none none none none
theorem r14 : ∀ c, EntOK Tryz.prog (.mk .d1 .d4 c) (gD c t14) := nall (p := fun c => EntOK Tryz.prog (.mk .d1 .d4 c)) e320 e321 ent0 e323 e324 ent0 ent0 e327 ent0 ent0 e330 ent0 ent0 ent0 ent0 ent0
noncomputable def t15 : N (Option XFn) := N.mk none none (cF Tryz.prog Tryz.f338) (cF Tryz.prog Tryz.f339) none none none none none none (cF Tryz.prog Tryz.f346) none none none none none
theorem r15 : ∀ c, EntOK Tryz.prog (.mk .d1 .d5 c) (gD c t15) := nall (p := fun c => EntOK Tryz.prog (.mk .d1 .d5 c)) ent0 ent0 e338 e339 ent0 ent0 ent0 ent0 ent0 ent0 e346 ent0 ent0 ent0 ent0 ent0
noncomputable def t16 : N (Option XFn) := N.mk none none none (cF Tryz.prog Tryz.f355) none none none none none none none none none none none none
theorem r16 : ∀ c, EntOK Tryz.prog (.mk .d1 .d6 c) (gD c t16) := nall (p := fun c => EntOK Tryz.prog (.mk .d1 .d6 c)) ent0 ent0 ent0 e355 ent0 ent0 ent0 ent0 ent0 ent0 ent0 ent0 ent0 ent0 ent0 ent0
noncomputable def t1 : N (N (Option XFn)) := N.mk t10 t11 t12 t13 t14 t15 t16 (fillN none) (fillN none) (fillN none) (fillN none) (fillN none) (fillN none) (fillN none) (fillN none) (fillN none)
theorem r1 : ∀ b c, EntOK Tryz.prog (.mk .d1 b c) (gD c (gD b t1)) := nall (p := fun b x => ∀ c, EntOK Tryz.prog (.mk .d1 b c) (gD c x)) r10 r11 r12 r13 r14 r15 r16 ent0b ent0b ent0b ent0b ent0b ent0b ent0b ent0b ent0b
noncomputable def tb : Tab := N.mk t0 t1 (fillN (fillN none)) (fillN (fillN none)) (fillN (fillN none)) (fillN (fillN none)) (fillN (fillN none)) (fillN (fillN none)) (fillN (fillN none)) (fillN (fillN none)) (fillN (fillN none)) (fillN (fillN none)) (fillN (fillN none)) (fillN (fillN none)) (fillN (fillN none)) (fillN (fillN none))
theorem rtb : ∀ a b c, EntOK Tryz.prog (.mk a b c) (gD c (gD b (gD a tb))) := nall (p := fun a x => ∀ b c, EntOK Tryz.prog (.mk a b c) (gD c (gD b x))) r0 r1 ent0a ent0a ent0a ent0a ent0a ent0a ent0a ent0a ent0a ent0a ent0a ent0a ent0a ent0a
theorem tabOK : TabOK Tryz.prog tb := fun f xf h => by
  cases f with
  | mk a b c => exact rtb a b c xf h
end Go.Xe
