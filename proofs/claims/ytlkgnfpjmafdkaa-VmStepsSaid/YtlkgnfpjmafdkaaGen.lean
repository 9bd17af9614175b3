import Derived.Test.YtlkgnfpjmafdkaaProg
import Derived.Test.YtlkgnfpjmafdkaaSh
set_option linter.unusedVariables false
namespace Go.Proofs.Ytlkgnfpjmafdkaa
open Go Go.Sh
-- NOT 0 main.main: no body
-- NOT 1 gosem.cut: no body
-- LACKS 2 gosem.cut.init: ['gosem_cut']
-- 9 prelude/preludelaw05.given; callees []
def sh_preludelaw05_given (c_0_0 : Int) (c_0_1 : Int) (c_0_2 : Int) (c_0_3 : Int) (c_0_4 : Slc) (c_0_5 : Slc) (c_0_6 : Slc) (w : World) (K : Int → Int → Int → Int → Slc → Slc → Slc → World → Prop) : Prop :=
  newP #[.int .i64 c_0_0, .int .i64 c_0_1, .int .i64 c_0_2, .int .i64 c_0_3, .slice c_0_4.a c_0_4.l c_0_4.c, .slice c_0_5.a c_0_5.l c_0_5.c, .slice c_0_6.a c_0_6.l c_0_6.c] 28 w fun a1 w2 => newP #[.int .i64 0, .int .i64 0, .int .i64 0, .int .i64 0, .slice none 0 0, .slice none 0 0, .slice none 0 0] 28 w2 fun a3 w4 => newP #[.int .i64 0, .int .i64 0, .int .i64 0, .int .i64 0, .slice none 0 0, .slice none 0 0, .slice none 0 0] 28 w4 fun a5 w6 => ldI .i64 a1 w6 fun n7 => ldI .i64 (a1.add 1) w6 fun n8 => ldI .i64 (a1.add 2) w6 fun n9 => ldI .i64 (a1.add 3) w6 fun n10 => ldS (a1.add 4) w6 fun s11 => stP a5 (.int .i64 n7) w6 fun w12 => stP (a5.add 1) (.int .i64 n8) w12 fun w13 => stP (a5.add 2) (.int .i64 n9) w13 fun w14 => stP (a5.add 3) (.int .i64 n10) w14 fun w15 => stP (a5.add 4) (.slice s11.a s11.l s11.c) w15 fun w16 => ldS (a1.add 4) w16.drew fun s17 => ldS (a1.add 4) w16.drew fun s18 => (newP #[] 60 w16.drew fun a19 w20 => w20.cell? (a1.add 4) = some (.slice s18.a s18.l s18.c) ∧ w20.cell? (a1.add 4) = some (.slice s17.a s17.l s17.c) ∧ ((apP Try.prog #[22, 22] 22 [.slice (some a19) 0 0, .slice s17.a s17.l s17.c] w20 fun s22 w21 => w21.cell? (a1.add 4) = some (.slice s18.a s18.l s18.c) ∧ (newP #[.int .i64 (-3), .int .i64 0] 60 w21 fun a23 w24 => w24.cell? (a1.add 4) = some (.slice s18.a s18.l s18.c) ∧ (apP Try.prog #[22, 22] 22 [.slice s22.a s22.l s22.c, .slice (some a23) 1 1] w24 fun s26 w25 => w25.cell? (a1.add 4) = some (.slice s18.a s18.l s18.c) ∧ (slP s26.a s26.l s26.c none (some (s18.l : Int)) 2 fun p27 l28 c29 => stP (a5.add 4) (.slice p27 l28 c29) w25 fun w30 => ldS (a1.add 5) w30.drew fun s31 => ldS (a1.add 5) w30.drew fun s32 => (newP #[] 2 w30.drew fun a33 w34 => w34.cell? (a1.add 5) = some (.slice s32.a s32.l s32.c) ∧ w34.cell? (a1.add 5) = some (.slice s31.a s31.l s31.c) ∧ ((apP Try.prog #[25, 25] 25 [.slice (some a33) 0 0, .slice s31.a s31.l s31.c] w34 fun s36 w35 => w35.cell? (a1.add 5) = some (.slice s32.a s32.l s32.c) ∧ (newP #[.int .i64 (-4)] 2 w35 fun a37 w38 => w38.cell? (a1.add 5) = some (.slice s32.a s32.l s32.c) ∧ (apP Try.prog #[25, 25] 25 [.slice s36.a s36.l s36.c, .slice (some a37) 1 1] w38 fun s40 w39 => w39.cell? (a1.add 5) = some (.slice s32.a s32.l s32.c) ∧ (slP s40.a s40.l s40.c none (some (s32.l : Int)) 1 fun p41 l42 c43 => stP (a5.add 5) (.slice p41 l42 c43) w39 fun w44 => ldS (a1.add 6) w44.drew fun s45 => ldS (a1.add 6) w44.drew fun s46 => (newP #[] 58 w44.drew fun a47 w48 => w48.cell? (a1.add 6) = some (.slice s46.a s46.l s46.c) ∧ w48.cell? (a1.add 6) = some (.slice s45.a s45.l s45.c) ∧ ((apP Try.prog #[26, 26] 26 [.slice (some a47) 0 0, .slice s45.a s45.l s45.c] w48 fun s50 w49 => w49.cell? (a1.add 6) = some (.slice s46.a s46.l s46.c) ∧ (newP #[.bool false, .int .i64 (-5)] 58 w49 fun a51 w52 => w52.cell? (a1.add 6) = some (.slice s46.a s46.l s46.c) ∧ (apP Try.prog #[26, 26] 26 [.slice s50.a s50.l s50.c, .slice (some a51) 1 1] w52 fun s54 w53 => w53.cell? (a1.add 6) = some (.slice s46.a s46.l s46.c) ∧ (slP s54.a s54.l s54.c none (some (s46.l : Int)) 2 fun p55 l56 c57 => stP (a5.add 6) (.slice p55 l56 c57) w53 fun w58 => ldI .i64 a5 w58 fun n59 => ldI .i64 (a5.add 1) w58 fun n60 => ldI .i64 (a5.add 2) w58 fun n61 => ldI .i64 (a5.add 3) w58 fun n62 => ldS (a5.add 4) w58 fun s63 => ldS (a5.add 5) w58 fun s64 => ldS (a5.add 6) w58 fun s65 => stP a3 (.int .i64 n59) w58 fun w66 => stP (a3.add 1) (.int .i64 n60) w66 fun w67 => stP (a3.add 2) (.int .i64 n61) w67 fun w68 => stP (a3.add 3) (.int .i64 n62) w68 fun w69 => stP (a3.add 4) (.slice s63.a s63.l s63.c) w69 fun w70 => stP (a3.add 5) (.slice s64.a s64.l s64.c) w70 fun w71 => stP (a3.add 6) (.slice s65.a s65.l s65.c) w71 fun w72 => ldI .i64 a3 w72 fun n73 => ldI .i64 (a3.add 1) w72 fun n74 => ldI .i64 (a3.add 2) w72 fun n75 => ldI .i64 (a3.add 3) w72 fun n76 => ldS (a3.add 4) w72 fun s77 => ldS (a3.add 5) w72 fun s78 => ldS (a3.add 6) w72 fun s79 => K n73 n74 n75 n76 s77 s78 s79 w72)))) ∧ (newP #[.bool false, .int .i64 (-5)] 58 w48 fun a80 w81 => w81.cell? (a1.add 6) = some (.slice s46.a s46.l s46.c) ∧ w81.cell? (a1.add 6) = some (.slice s45.a s45.l s45.c) ∧ (apP Try.prog #[26, 26] 26 [.slice (some a47) 0 0, .slice s45.a s45.l s45.c] w81 fun s83 w82 => w82.cell? (a1.add 6) = some (.slice s46.a s46.l s46.c) ∧ (apP Try.prog #[26, 26] 26 [.slice s83.a s83.l s83.c, .slice (some a80) 1 1] w82 fun s85 w84 => w84.cell? (a1.add 6) = some (.slice s46.a s46.l s46.c) ∧ (slP s85.a s85.l s85.c none (some (s46.l : Int)) 2 fun p86 l87 c88 => stP (a5.add 6) (.slice p86 l87 c88) w84 fun w89 => ldI .i64 a5 w89 fun n90 => ldI .i64 (a5.add 1) w89 fun n91 => ldI .i64 (a5.add 2) w89 fun n92 => ldI .i64 (a5.add 3) w89 fun n93 => ldS (a5.add 4) w89 fun s94 => ldS (a5.add 5) w89 fun s95 => ldS (a5.add 6) w89 fun s96 => stP a3 (.int .i64 n90) w89 fun w97 => stP (a3.add 1) (.int .i64 n91) w97 fun w98 => stP (a3.add 2) (.int .i64 n92) w98 fun w99 => stP (a3.add 3) (.int .i64 n93) w99 fun w100 => stP (a3.add 4) (.slice s94.a s94.l s94.c) w100 fun w101 => stP (a3.add 5) (.slice s95.a s95.l s95.c) w101 fun w102 => stP (a3.add 6) (.slice s96.a s96.l s96.c) w102 fun w103 => ldI .i64 a3 w103 fun n104 => ldI .i64 (a3.add 1) w103 fun n105 => ldI .i64 (a3.add 2) w103 fun n106 => ldI .i64 (a3.add 3) w103 fun n107 => ldS (a3.add 4) w103 fun s108 => ldS (a3.add 5) w103 fun s109 => ldS (a3.add 6) w103 fun s110 => K n104 n105 n106 n107 s108 s109 s110 w103)))))) ∧ (newP #[.bool false, .int .i64 (-5)] 58 w44.drew fun a111 w112 => w112.cell? (a1.add 6) = some (.slice s46.a s46.l s46.c) ∧ w112.cell? (a1.add 6) = some (.slice s45.a s45.l s45.c) ∧ (newP #[] 58 w112 fun a113 w114 => w114.cell? (a1.add 6) = some (.slice s46.a s46.l s46.c) ∧ w114.cell? (a1.add 6) = some (.slice s45.a s45.l s45.c) ∧ (apP Try.prog #[26, 26] 26 [.slice (some a113) 0 0, .slice s45.a s45.l s45.c] w114 fun s116 w115 => w115.cell? (a1.add 6) = some (.slice s46.a s46.l s46.c) ∧ (apP Try.prog #[26, 26] 26 [.slice s116.a s116.l s116.c, .slice (some a111) 1 1] w115 fun s118 w117 => w117.cell? (a1.add 6) = some (.slice s46.a s46.l s46.c) ∧ (slP s118.a s118.l s118.c none (some (s46.l : Int)) 2 fun p119 l120 c121 => stP (a5.add 6) (.slice p119 l120 c121) w117 fun w122 => ldI .i64 a5 w122 fun n123 => ldI .i64 (a5.add 1) w122 fun n124 => ldI .i64 (a5.add 2) w122 fun n125 => ldI .i64 (a5.add 3) w122 fun n126 => ldS (a5.add 4) w122 fun s127 => ldS (a5.add 5) w122 fun s128 => ldS (a5.add 6) w122 fun s129 => stP a3 (.int .i64 n123) w122 fun w130 => stP (a3.add 1) (.int .i64 n124) w130 fun w131 => stP (a3.add 2) (.int .i64 n125) w131 fun w132 => stP (a3.add 3) (.int .i64 n126) w132 fun w133 => stP (a3.add 4) (.slice s127.a s127.l s127.c) w133 fun w134 => stP (a3.add 5) (.slice s128.a s128.l s128.c) w134 fun w135 => stP (a3.add 6) (.slice s129.a s129.l s129.c) w135 fun w136 => ldI .i64 a3 w136 fun n137 => ldI .i64 (a3.add 1) w136 fun n138 => ldI .i64 (a3.add 2) w136 fun n139 => ldI .i64 (a3.add 3) w136 fun n140 => ldS (a3.add 4) w136 fun s141 => ldS (a3.add 5) w136 fun s142 => ldS (a3.add 6) w136 fun s143 => K n137 n138 n139 n140 s141 s142 s143 w136))))))))) ∧ (newP #[.int .i64 (-4)] 2 w34 fun a144 w145 => w145.cell? (a1.add 5) = some (.slice s32.a s32.l s32.c) ∧ w145.cell? (a1.add 5) = some (.slice s31.a s31.l s31.c) ∧ (apP Try.prog #[25, 25] 25 [.slice (some a33) 0 0, .slice s31.a s31.l s31.c] w145 fun s147 w146 => w146.cell? (a1.add 5) = some (.slice s32.a s32.l s32.c) ∧ (apP Try.prog #[25, 25] 25 [.slice s147.a s147.l s147.c, .slice (some a144) 1 1] w146 fun s149 w148 => w148.cell? (a1.add 5) = some (.slice s32.a s32.l s32.c) ∧ (slP s149.a s149.l s149.c none (some (s32.l : Int)) 1 fun p150 l151 c152 => stP (a5.add 5) (.slice p150 l151 c152) w148 fun w153 => ldS (a1.add 6) w153.drew fun s154 => ldS (a1.add 6) w153.drew fun s155 => (newP #[] 58 w153.drew fun a156 w157 => w157.cell? (a1.add 6) = some (.slice s155.a s155.l s155.c) ∧ w157.cell? (a1.add 6) = some (.slice s154.a s154.l s154.c) ∧ ((apP Try.prog #[26, 26] 26 [.slice (some a156) 0 0, .slice s154.a s154.l s154.c] w157 fun s159 w158 => w158.cell? (a1.add 6) = some (.slice s155.a s155.l s155.c) ∧ (newP #[.bool false, .int .i64 (-5)] 58 w158 fun a160 w161 => w161.cell? (a1.add 6) = some (.slice s155.a s155.l s155.c) ∧ (apP Try.prog #[26, 26] 26 [.slice s159.a s159.l s159.c, .slice (some a160) 1 1] w161 fun s163 w162 => w162.cell? (a1.add 6) = some (.slice s155.a s155.l s155.c) ∧ (slP s163.a s163.l s163.c none (some (s155.l : Int)) 2 fun p164 l165 c166 => stP (a5.add 6) (.slice p164 l165 c166) w162 fun w167 => ldI .i64 a5 w167 fun n168 => ldI .i64 (a5.add 1) w167 fun n169 => ldI .i64 (a5.add 2) w167 fun n170 => ldI .i64 (a5.add 3) w167 fun n171 => ldS (a5.add 4) w167 fun s172 => ldS (a5.add 5) w167 fun s173 => ldS (a5.add 6) w167 fun s174 => stP a3 (.int .i64 n168) w167 fun w175 => stP (a3.add 1) (.int .i64 n169) w175 fun w176 => stP (a3.add 2) (.int .i64 n170) w176 fun w177 => stP (a3.add 3) (.int .i64 n171) w177 fun w178 => stP (a3.add 4) (.slice s172.a s172.l s172.c) w178 fun w179 => stP (a3.add 5) (.slice s173.a s173.l s173.c) w179 fun w180 => stP (a3.add 6) (.slice s174.a s174.l s174.c) w180 fun w181 => ldI .i64 a3 w181 fun n182 => ldI .i64 (a3.add 1) w181 fun n183 => ldI .i64 (a3.add 2) w181 fun n184 => ldI .i64 (a3.add 3) w181 fun n185 => ldS (a3.add 4) w181 fun s186 => ldS (a3.add 5) w181 fun s187 => ldS (a3.add 6) w181 fun s188 => K n182 n183 n184 n185 s186 s187 s188 w181)))) ∧ (newP #[.bool false, .int .i64 (-5)] 58 w157 fun a189 w190 => w190.cell? (a1.add 6) = some (.slice s155.a s155.l s155.c) ∧ w190.cell? (a1.add 6) = some (.slice s154.a s154.l s154.c) ∧ (apP Try.prog #[26, 26] 26 [.slice (some a156) 0 0, .slice s154.a s154.l s154.c] w190 fun s192 w191 => w191.cell? (a1.add 6) = some (.slice s155.a s155.l s155.c) ∧ (apP Try.prog #[26, 26] 26 [.slice s192.a s192.l s192.c, .slice (some a189) 1 1] w191 fun s194 w193 => w193.cell? (a1.add 6) = some (.slice s155.a s155.l s155.c) ∧ (slP s194.a s194.l s194.c none (some (s155.l : Int)) 2 fun p195 l196 c197 => stP (a5.add 6) (.slice p195 l196 c197) w193 fun w198 => ldI .i64 a5 w198 fun n199 => ldI .i64 (a5.add 1) w198 fun n200 => ldI .i64 (a5.add 2) w198 fun n201 => ldI .i64 (a5.add 3) w198 fun n202 => ldS (a5.add 4) w198 fun s203 => ldS (a5.add 5) w198 fun s204 => ldS (a5.add 6) w198 fun s205 => stP a3 (.int .i64 n199) w198 fun w206 => stP (a3.add 1) (.int .i64 n200) w206 fun w207 => stP (a3.add 2) (.int .i64 n201) w207 fun w208 => stP (a3.add 3) (.int .i64 n202) w208 fun w209 => stP (a3.add 4) (.slice s203.a s203.l s203.c) w209 fun w210 => stP (a3.add 5) (.slice s204.a s204.l s204.c) w210 fun w211 => stP (a3.add 6) (.slice s205.a s205.l s205.c) w211 fun w212 => ldI .i64 a3 w212 fun n213 => ldI .i64 (a3.add 1) w212 fun n214 => ldI .i64 (a3.add 2) w212 fun n215 => ldI .i64 (a3.add 3) w212 fun n216 => ldS (a3.add 4) w212 fun s217 => ldS (a3.add 5) w212 fun s218 => ldS (a3.add 6) w212 fun s219 => K n213 n214 n215 n216 s217 s218 s219 w212)))))) ∧ (newP #[.bool false, .int .i64 (-5)] 58 w153.drew fun a220 w221 => w221.cell? (a1.add 6) = some (.slice s155.a s155.l s155.c) ∧ w221.cell? (a1.add 6) = some (.slice s154.a s154.l s154.c) ∧ (newP #[] 58 w221 fun a222 w223 => w223.cell? (a1.add 6) = some (.slice s155.a s155.l s155.c) ∧ w223.cell? (a1.add 6) = some (.slice s154.a s154.l s154.c) ∧ (apP Try.prog #[26, 26] 26 [.slice (some a222) 0 0, .slice s154.a s154.l s154.c] w223 fun s225 w224 => w224.cell? (a1.add 6) = some (.slice s155.a s155.l s155.c) ∧ (apP Try.prog #[26, 26] 26 [.slice s225.a s225.l s225.c, .slice (some a220) 1 1] w224 fun s227 w226 => w226.cell? (a1.add 6) = some (.slice s155.a s155.l s155.c) ∧ (slP s227.a s227.l s227.c none (some (s155.l : Int)) 2 fun p228 l229 c230 => stP (a5.add 6) (.slice p228 l229 c230) w226 fun w231 => ldI .i64 a5 w231 fun n232 => ldI .i64 (a5.add 1) w231 fun n233 => ldI .i64 (a5.add 2) w231 fun n234 => ldI .i64 (a5.add 3) w231 fun n235 => ldS (a5.add 4) w231 fun s236 => ldS (a5.add 5) w231 fun s237 => ldS (a5.add 6) w231 fun s238 => stP a3 (.int .i64 n232) w231 fun w239 => stP (a3.add 1) (.int .i64 n233) w239 fun w240 => stP (a3.add 2) (.int .i64 n234) w240 fun w241 => stP (a3.add 3) (.int .i64 n235) w241 fun w242 => stP (a3.add 4) (.slice s236.a s236.l s236.c) w242 fun w243 => stP (a3.add 5) (.slice s237.a s237.l s237.c) w243 fun w244 => stP (a3.add 6) (.slice s238.a s238.l s238.c) w244 fun w245 => ldI .i64 a3 w245 fun n246 => ldI .i64 (a3.add 1) w245 fun n247 => ldI .i64 (a3.add 2) w245 fun n248 => ldI .i64 (a3.add 3) w245 fun n249 => ldS (a3.add 4) w245 fun s250 => ldS (a3.add 5) w245 fun s251 => ldS (a3.add 6) w245 fun s252 => K n246 n247 n248 n249 s250 s251 s252 w245))))))))))) ∧ (newP #[.int .i64 (-4)] 2 w30.drew fun a253 w254 => w254.cell? (a1.add 5) = some (.slice s32.a s32.l s32.c) ∧ w254.cell? (a1.add 5) = some (.slice s31.a s31.l s31.c) ∧ (newP #[] 2 w254 fun a255 w256 => w256.cell? (a1.add 5) = some (.slice s32.a s32.l s32.c) ∧ w256.cell? (a1.add 5) = some (.slice s31.a s31.l s31.c) ∧ (apP Try.prog #[25, 25] 25 [.slice (some a255) 0 0, .slice s31.a s31.l s31.c] w256 fun s258 w257 => w257.cell? (a1.add 5) = some (.slice s32.a s32.l s32.c) ∧ (apP Try.prog #[25, 25] 25 [.slice s258.a s258.l s258.c, .slice (some a253) 1 1] w257 fun s260 w259 => w259.cell? (a1.add 5) = some (.slice s32.a s32.l s32.c) ∧ (slP s260.a s260.l s260.c none (some (s32.l : Int)) 1 fun p261 l262 c263 => stP (a5.add 5) (.slice p261 l262 c263) w259 fun w264 => ldS (a1.add 6) w264.drew fun s265 => ldS (a1.add 6) w264.drew fun s266 => (newP #[] 58 w264.drew fun a267 w268 => w268.cell? (a1.add 6) = some (.slice s266.a s266.l s266.c) ∧ w268.cell? (a1.add 6) = some (.slice s265.a s265.l s265.c) ∧ ((apP Try.prog #[26, 26] 26 [.slice (some a267) 0 0, .slice s265.a s265.l s265.c] w268 fun s270 w269 => w269.cell? (a1.add 6) = some (.slice s266.a s266.l s266.c) ∧ (newP #[.bool false, .int .i64 (-5)] 58 w269 fun a271 w272 => w272.cell? (a1.add 6) = some (.slice s266.a s266.l s266.c) ∧ (apP Try.prog #[26, 26] 26 [.slice s270.a s270.l s270.c, .slice (some a271) 1 1] w272 fun s274 w273 => w273.cell? (a1.add 6) = some (.slice s266.a s266.l s266.c) ∧ (slP s274.a s274.l s274.c none (some (s266.l : Int)) 2 fun p275 l276 c277 => stP (a5.add 6) (.slice p275 l276 c277) w273 fun w278 => ldI .i64 a5 w278 fun n279 => ldI .i64 (a5.add 1) w278 fun n280 => ldI .i64 (a5.add 2) w278 fun n281 => ldI .i64 (a5.add 3) w278 fun n282 => ldS (a5.add 4) w278 fun s283 => ldS (a5.add 5) w278 fun s284 => ldS (a5.add 6) w278 fun s285 => stP a3 (.int .i64 n279) w278 fun w286 => stP (a3.add 1) (.int .i64 n280) w286 fun w287 => stP (a3.add 2) (.int .i64 n281) w287 fun w288 => stP (a3.add 3) (.int .i64 n282) w288 fun w289 => stP (a3.add 4) (.slice s283.a s283.l s283.c) w289 fun w290 => stP (a3.add 5) (.slice s284.a s284.l s284.c) w290 fun w291 => stP (a3.add 6) (.slice s285.a s285.l s285.c) w291 fun w292 => ldI .i64 a3 w292 fun n293 => ldI .i64 (a3.add 1) w292 fun n294 => ldI .i64 (a3.add 2) w292 fun n295 => ldI .i64 (a3.add 3) w292 fun n296 => ldS (a3.add 4) w292 fun s297 => ldS (a3.add 5) w292 fun s298 => ldS (a3.add 6) w292 fun s299 => K n293 n294 n295 n296 s297 s298 s299 w292)))) ∧ (newP #[.bool false, .int .i64 (-5)] 58 w268 fun a300 w301 => w301.cell? (a1.add 6) = some (.slice s266.a s266.l s266.c) ∧ w301.cell? (a1.add 6) = some (.slice s265.a s265.l s265.c) ∧ (apP Try.prog #[26, 26] 26 [.slice (some a267) 0 0, .slice s265.a s265.l s265.c] w301 fun s303 w302 => w302.cell? (a1.add 6) = some (.slice s266.a s266.l s266.c) ∧ (apP Try.prog #[26, 26] 26 [.slice s303.a s303.l s303.c, .slice (some a300) 1 1] w302 fun s305 w304 => w304.cell? (a1.add 6) = some (.slice s266.a s266.l s266.c) ∧ (slP s305.a s305.l s305.c none (some (s266.l : Int)) 2 fun p306 l307 c308 => stP (a5.add 6) (.slice p306 l307 c308) w304 fun w309 => ldI .i64 a5 w309 fun n310 => ldI .i64 (a5.add 1) w309 fun n311 => ldI .i64 (a5.add 2) w309 fun n312 => ldI .i64 (a5.add 3) w309 fun n313 => ldS (a5.add 4) w309 fun s314 => ldS (a5.add 5) w309 fun s315 => ldS (a5.add 6) w309 fun s316 => stP a3 (.int .i64 n310) w309 fun w317 => stP (a3.add 1) (.int .i64 n311) w317 fun w318 => stP (a3.add 2) (.int .i64 n312) w318 fun w319 => stP (a3.add 3) (.int .i64 n313) w319 fun w320 => stP (a3.add 4) (.slice s314.a s314.l s314.c) w320 fun w321 => stP (a3.add 5) (.slice s315.a s315.l s315.c) w321 fun w322 => stP (a3.add 6) (.slice s316.a s316.l s316.c) w322 fun w323 => ldI .i64 a3 w323 fun n324 => ldI .i64 (a3.add 1) w323 fun n325 => ldI .i64 (a3.add 2) w323 fun n326 => ldI .i64 (a3.add 3) w323 fun n327 => ldS (a3.add 4) w323 fun s328 => ldS (a3.add 5) w323 fun s329 => ldS (a3.add 6) w323 fun s330 => K n324 n325 n326 n327 s328 s329 s330 w323)))))) ∧ (newP #[.bool false, .int .i64 (-5)] 58 w264.drew fun a331 w332 => w332.cell? (a1.add 6) = some (.slice s266.a s266.l s266.c) ∧ w332.cell? (a1.add 6) = some (.slice s265.a s265.l s265.c) ∧ (newP #[] 58 w332 fun a333 w334 => w334.cell? (a1.add 6) = some (.slice s266.a s266.l s266.c) ∧ w334.cell? (a1.add 6) = some (.slice s265.a s265.l s265.c) ∧ (apP Try.prog #[26, 26] 26 [.slice (some a333) 0 0, .slice s265.a s265.l s265.c] w334 fun s336 w335 => w335.cell? (a1.add 6) = some (.slice s266.a s266.l s266.c) ∧ (apP Try.prog #[26, 26] 26 [.slice s336.a s336.l s336.c, .slice (some a331) 1 1] w335 fun s338 w337 => w337.cell? (a1.add 6) = some (.slice s266.a s266.l s266.c) ∧ (slP s338.a s338.l s338.c none (some (s266.l : Int)) 2 fun p339 l340 c341 => stP (a5.add 6) (.slice p339 l340 c341) w337 fun w342 => ldI .i64 a5 w342 fun n343 => ldI .i64 (a5.add 1) w342 fun n344 => ldI .i64 (a5.add 2) w342 fun n345 => ldI .i64 (a5.add 3) w342 fun n346 => ldS (a5.add 4) w342 fun s347 => ldS (a5.add 5) w342 fun s348 => ldS (a5.add 6) w342 fun s349 => stP a3 (.int .i64 n343) w342 fun w350 => stP (a3.add 1) (.int .i64 n344) w350 fun w351 => stP (a3.add 2) (.int .i64 n345) w351 fun w352 => stP (a3.add 3) (.int .i64 n346) w352 fun w353 => stP (a3.add 4) (.slice s347.a s347.l s347.c) w353 fun w354 => stP (a3.add 5) (.slice s348.a s348.l s348.c) w354 fun w355 => stP (a3.add 6) (.slice s349.a s349.l s349.c) w355 fun w356 => ldI .i64 a3 w356 fun n357 => ldI .i64 (a3.add 1) w356 fun n358 => ldI .i64 (a3.add 2) w356 fun n359 => ldI .i64 (a3.add 3) w356 fun n360 => ldS (a3.add 4) w356 fun s361 => ldS (a3.add 5) w356 fun s362 => ldS (a3.add 6) w356 fun s363 => K n357 n358 n359 n360 s361 s362 s363 w356)))))))))))))) ∧ (newP #[.int .i64 (-3), .int .i64 0] 60 w20 fun a364 w365 => w365.cell? (a1.add 4) = some (.slice s18.a s18.l s18.c) ∧ w365.cell? (a1.add 4) = some (.slice s17.a s17.l s17.c) ∧ (apP Try.prog #[22, 22] 22 [.slice (some a19) 0 0, .slice s17.a s17.l s17.c] w365 fun s367 w366 => w366.cell? (a1.add 4) = some (.slice s18.a s18.l s18.c) ∧ (apP Try.prog #[22, 22] 22 [.slice s367.a s367.l s367.c, .slice (some a364) 1 1] w366 fun s369 w368 => w368.cell? (a1.add 4) = some (.slice s18.a s18.l s18.c) ∧ (slP s369.a s369.l s369.c none (some (s18.l : Int)) 2 fun p370 l371 c372 => stP (a5.add 4) (.slice p370 l371 c372) w368 fun w373 => ldS (a1.add 5) w373.drew fun s374 => ldS (a1.add 5) w373.drew fun s375 => (newP #[] 2 w373.drew fun a376 w377 => w377.cell? (a1.add 5) = some (.slice s375.a s375.l s375.c) ∧ w377.cell? (a1.add 5) = some (.slice s374.a s374.l s374.c) ∧ ((apP Try.prog #[25, 25] 25 [.slice (some a376) 0 0, .slice s374.a s374.l s374.c] w377 fun s379 w378 => w378.cell? (a1.add 5) = some (.slice s375.a s375.l s375.c) ∧ (newP #[.int .i64 (-4)] 2 w378 fun a380 w381 => w381.cell? (a1.add 5) = some (.slice s375.a s375.l s375.c) ∧ (apP Try.prog #[25, 25] 25 [.slice s379.a s379.l s379.c, .slice (some a380) 1 1] w381 fun s383 w382 => w382.cell? (a1.add 5) = some (.slice s375.a s375.l s375.c) ∧ (slP s383.a s383.l s383.c none (some (s375.l : Int)) 1 fun p384 l385 c386 => stP (a5.add 5) (.slice p384 l385 c386) w382 fun w387 => ldS (a1.add 6) w387.drew fun s388 => ldS (a1.add 6) w387.drew fun s389 => (newP #[] 58 w387.drew fun a390 w391 => w391.cell? (a1.add 6) = some (.slice s389.a s389.l s389.c) ∧ w391.cell? (a1.add 6) = some (.slice s388.a s388.l s388.c) ∧ ((apP Try.prog #[26, 26] 26 [.slice (some a390) 0 0, .slice s388.a s388.l s388.c] w391 fun s393 w392 => w392.cell? (a1.add 6) = some (.slice s389.a s389.l s389.c) ∧ (newP #[.bool false, .int .i64 (-5)] 58 w392 fun a394 w395 => w395.cell? (a1.add 6) = some (.slice s389.a s389.l s389.c) ∧ (apP Try.prog #[26, 26] 26 [.slice s393.a s393.l s393.c, .slice (some a394) 1 1] w395 fun s397 w396 => w396.cell? (a1.add 6) = some (.slice s389.a s389.l s389.c) ∧ (slP s397.a s397.l s397.c none (some (s389.l : Int)) 2 fun p398 l399 c400 => stP (a5.add 6) (.slice p398 l399 c400) w396 fun w401 => ldI .i64 a5 w401 fun n402 => ldI .i64 (a5.add 1) w401 fun n403 => ldI .i64 (a5.add 2) w401 fun n404 => ldI .i64 (a5.add 3) w401 fun n405 => ldS (a5.add 4) w401 fun s406 => ldS (a5.add 5) w401 fun s407 => ldS (a5.add 6) w401 fun s408 => stP a3 (.int .i64 n402) w401 fun w409 => stP (a3.add 1) (.int .i64 n403) w409 fun w410 => stP (a3.add 2) (.int .i64 n404) w410 fun w411 => stP (a3.add 3) (.int .i64 n405) w411 fun w412 => stP (a3.add 4) (.slice s406.a s406.l s406.c) w412 fun w413 => stP (a3.add 5) (.slice s407.a s407.l s407.c) w413 fun w414 => stP (a3.add 6) (.slice s408.a s408.l s408.c) w414 fun w415 => ldI .i64 a3 w415 fun n416 => ldI .i64 (a3.add 1) w415 fun n417 => ldI .i64 (a3.add 2) w415 fun n418 => ldI .i64 (a3.add 3) w415 fun n419 => ldS (a3.add 4) w415 fun s420 => ldS (a3.add 5) w415 fun s421 => ldS (a3.add 6) w415 fun s422 => K n416 n417 n418 n419 s420 s421 s422 w415)))) ∧ (newP #[.bool false, .int .i64 (-5)] 58 w391 fun a423 w424 => w424.cell? (a1.add 6) = some (.slice s389.a s389.l s389.c) ∧ w424.cell? (a1.add 6) = some (.slice s388.a s388.l s388.c) ∧ (apP Try.prog #[26, 26] 26 [.slice (some a390) 0 0, .slice s388.a s388.l s388.c] w424 fun s426 w425 => w425.cell? (a1.add 6) = some (.slice s389.a s389.l s389.c) ∧ (apP Try.prog #[26, 26] 26 [.slice s426.a s426.l s426.c, .slice (some a423) 1 1] w425 fun s428 w427 => w427.cell? (a1.add 6) = some (.slice s389.a s389.l s389.c) ∧ (slP s428.a s428.l s428.c none (some (s389.l : Int)) 2 fun p429 l430 c431 => stP (a5.add 6) (.slice p429 l430 c431) w427 fun w432 => ldI .i64 a5 w432 fun n433 => ldI .i64 (a5.add 1) w432 fun n434 => ldI .i64 (a5.add 2) w432 fun n435 => ldI .i64 (a5.add 3) w432 fun n436 => ldS (a5.add 4) w432 fun s437 => ldS (a5.add 5) w432 fun s438 => ldS (a5.add 6) w432 fun s439 => stP a3 (.int .i64 n433) w432 fun w440 => stP (a3.add 1) (.int .i64 n434) w440 fun w441 => stP (a3.add 2) (.int .i64 n435) w441 fun w442 => stP (a3.add 3) (.int .i64 n436) w442 fun w443 => stP (a3.add 4) (.slice s437.a s437.l s437.c) w443 fun w444 => stP (a3.add 5) (.slice s438.a s438.l s438.c) w444 fun w445 => stP (a3.add 6) (.slice s439.a s439.l s439.c) w445 fun w446 => ldI .i64 a3 w446 fun n447 => ldI .i64 (a3.add 1) w446 fun n448 => ldI .i64 (a3.add 2) w446 fun n449 => ldI .i64 (a3.add 3) w446 fun n450 => ldS (a3.add 4) w446 fun s451 => ldS (a3.add 5) w446 fun s452 => ldS (a3.add 6) w446 fun s453 => K n447 n448 n449 n450 s451 s452 s453 w446)))))) ∧ (newP #[.bool false, .int .i64 (-5)] 58 w387.drew fun a454 w455 => w455.cell? (a1.add 6) = some (.slice s389.a s389.l s389.c) ∧ w455.cell? (a1.add 6) = some (.slice s388.a s388.l s388.c) ∧ (newP #[] 58 w455 fun a456 w457 => w457.cell? (a1.add 6) = some (.slice s389.a s389.l s389.c) ∧ w457.cell? (a1.add 6) = some (.slice s388.a s388.l s388.c) ∧ (apP Try.prog #[26, 26] 26 [.slice (some a456) 0 0, .slice s388.a s388.l s388.c] w457 fun s459 w458 => w458.cell? (a1.add 6) = some (.slice s389.a s389.l s389.c) ∧ (apP Try.prog #[26, 26] 26 [.slice s459.a s459.l s459.c, .slice (some a454) 1 1] w458 fun s461 w460 => w460.cell? (a1.add 6) = some (.slice s389.a s389.l s389.c) ∧ (slP s461.a s461.l s461.c none (some (s389.l : Int)) 2 fun p462 l463 c464 => stP (a5.add 6) (.slice p462 l463 c464) w460 fun w465 => ldI .i64 a5 w465 fun n466 => ldI .i64 (a5.add 1) w465 fun n467 => ldI .i64 (a5.add 2) w465 fun n468 => ldI .i64 (a5.add 3) w465 fun n469 => ldS (a5.add 4) w465 fun s470 => ldS (a5.add 5) w465 fun s471 => ldS (a5.add 6) w465 fun s472 => stP a3 (.int .i64 n466) w465 fun w473 => stP (a3.add 1) (.int .i64 n467) w473 fun w474 => stP (a3.add 2) (.int .i64 n468) w474 fun w475 => stP (a3.add 3) (.int .i64 n469) w475 fun w476 => stP (a3.add 4) (.slice s470.a s470.l s470.c) w476 fun w477 => stP (a3.add 5) (.slice s471.a s471.l s471.c) w477 fun w478 => stP (a3.add 6) (.slice s472.a s472.l s472.c) w478 fun w479 => ldI .i64 a3 w479 fun n480 => ldI .i64 (a3.add 1) w479 fun n481 => ldI .i64 (a3.add 2) w479 fun n482 => ldI .i64 (a3.add 3) w479 fun n483 => ldS (a3.add 4) w479 fun s484 => ldS (a3.add 5) w479 fun s485 => ldS (a3.add 6) w479 fun s486 => K n480 n481 n482 n483 s484 s485 s486 w479))))))))) ∧ (newP #[.int .i64 (-4)] 2 w377 fun a487 w488 => w488.cell? (a1.add 5) = some (.slice s375.a s375.l s375.c) ∧ w488.cell? (a1.add 5) = some (.slice s374.a s374.l s374.c) ∧ (apP Try.prog #[25, 25] 25 [.slice (some a376) 0 0, .slice s374.a s374.l s374.c] w488 fun s490 w489 => w489.cell? (a1.add 5) = some (.slice s375.a s375.l s375.c) ∧ (apP Try.prog #[25, 25] 25 [.slice s490.a s490.l s490.c, .slice (some a487) 1 1] w489 fun s492 w491 => w491.cell? (a1.add 5) = some (.slice s375.a s375.l s375.c) ∧ (slP s492.a s492.l s492.c none (some (s375.l : Int)) 1 fun p493 l494 c495 => stP (a5.add 5) (.slice p493 l494 c495) w491 fun w496 => ldS (a1.add 6) w496.drew fun s497 => ldS (a1.add 6) w496.drew fun s498 => (newP #[] 58 w496.drew fun a499 w500 => w500.cell? (a1.add 6) = some (.slice s498.a s498.l s498.c) ∧ w500.cell? (a1.add 6) = some (.slice s497.a s497.l s497.c) ∧ ((apP Try.prog #[26, 26] 26 [.slice (some a499) 0 0, .slice s497.a s497.l s497.c] w500 fun s502 w501 => w501.cell? (a1.add 6) = some (.slice s498.a s498.l s498.c) ∧ (newP #[.bool false, .int .i64 (-5)] 58 w501 fun a503 w504 => w504.cell? (a1.add 6) = some (.slice s498.a s498.l s498.c) ∧ (apP Try.prog #[26, 26] 26 [.slice s502.a s502.l s502.c, .slice (some a503) 1 1] w504 fun s506 w505 => w505.cell? (a1.add 6) = some (.slice s498.a s498.l s498.c) ∧ (slP s506.a s506.l s506.c none (some (s498.l : Int)) 2 fun p507 l508 c509 => stP (a5.add 6) (.slice p507 l508 c509) w505 fun w510 => ldI .i64 a5 w510 fun n511 => ldI .i64 (a5.add 1) w510 fun n512 => ldI .i64 (a5.add 2) w510 fun n513 => ldI .i64 (a5.add 3) w510 fun n514 => ldS (a5.add 4) w510 fun s515 => ldS (a5.add 5) w510 fun s516 => ldS (a5.add 6) w510 fun s517 => stP a3 (.int .i64 n511) w510 fun w518 => stP (a3.add 1) (.int .i64 n512) w518 fun w519 => stP (a3.add 2) (.int .i64 n513) w519 fun w520 => stP (a3.add 3) (.int .i64 n514) w520 fun w521 => stP (a3.add 4) (.slice s515.a s515.l s515.c) w521 fun w522 => stP (a3.add 5) (.slice s516.a s516.l s516.c) w522 fun w523 => stP (a3.add 6) (.slice s517.a s517.l s517.c) w523 fun w524 => ldI .i64 a3 w524 fun n525 => ldI .i64 (a3.add 1) w524 fun n526 => ldI .i64 (a3.add 2) w524 fun n527 => ldI .i64 (a3.add 3) w524 fun n528 => ldS (a3.add 4) w524 fun s529 => ldS (a3.add 5) w524 fun s530 => ldS (a3.add 6) w524 fun s531 => K n525 n526 n527 n528 s529 s530 s531 w524)))) ∧ (newP #[.bool false, .int .i64 (-5)] 58 w500 fun a532 w533 => w533.cell? (a1.add 6) = some (.slice s498.a s498.l s498.c) ∧ w533.cell? (a1.add 6) = some (.slice s497.a s497.l s497.c) ∧ (apP Try.prog #[26, 26] 26 [.slice (some a499) 0 0, .slice s497.a s497.l s497.c] w533 fun s535 w534 => w534.cell? (a1.add 6) = some (.slice s498.a s498.l s498.c) ∧ (apP Try.prog #[26, 26] 26 [.slice s535.a s535.l s535.c, .slice (some a532) 1 1] w534 fun s537 w536 => w536.cell? (a1.add 6) = some (.slice s498.a s498.l s498.c) ∧ (slP s537.a s537.l s537.c none (some (s498.l : Int)) 2 fun p538 l539 c540 => stP (a5.add 6) (.slice p538 l539 c540) w536 fun w541 => ldI .i64 a5 w541 fun n542 => ldI .i64 (a5.add 1) w541 fun n543 => ldI .i64 (a5.add 2) w541 fun n544 => ldI .i64 (a5.add 3) w541 fun n545 => ldS (a5.add 4) w541 fun s546 => ldS (a5.add 5) w541 fun s547 => ldS (a5.add 6) w541 fun s548 => stP a3 (.int .i64 n542) w541 fun w549 => stP (a3.add 1) (.int .i64 n543) w549 fun w550 => stP (a3.add 2) (.int .i64 n544) w550 fun w551 => stP (a3.add 3) (.int .i64 n545) w551 fun w552 => stP (a3.add 4) (.slice s546.a s546.l s546.c) w552 fun w553 => stP (a3.add 5) (.slice s547.a s547.l s547.c) w553 fun w554 => stP (a3.add 6) (.slice s548.a s548.l s548.c) w554 fun w555 => ldI .i64 a3 w555 fun n556 => ldI .i64 (a3.add 1) w555 fun n557 => ldI .i64 (a3.add 2) w555 fun n558 => ldI .i64 (a3.add 3) w555 fun n559 => ldS (a3.add 4) w555 fun s560 => ldS (a3.add 5) w555 fun s561 => ldS (a3.add 6) w555 fun s562 => K n556 n557 n558 n559 s560 s561 s562 w555)))))) ∧ (newP #[.bool false, .int .i64 (-5)] 58 w496.drew fun a563 w564 => w564.cell? (a1.add 6) = some (.slice s498.a s498.l s498.c) ∧ w564.cell? (a1.add 6) = some (.slice s497.a s497.l s497.c) ∧ (newP #[] 58 w564 fun a565 w566 => w566.cell? (a1.add 6) = some (.slice s498.a s498.l s498.c) ∧ w566.cell? (a1.add 6) = some (.slice s497.a s497.l s497.c) ∧ (apP Try.prog #[26, 26] 26 [.slice (some a565) 0 0, .slice s497.a s497.l s497.c] w566 fun s568 w567 => w567.cell? (a1.add 6) = some (.slice s498.a s498.l s498.c) ∧ (apP Try.prog #[26, 26] 26 [.slice s568.a s568.l s568.c, .slice (some a563) 1 1] w567 fun s570 w569 => w569.cell? (a1.add 6) = some (.slice s498.a s498.l s498.c) ∧ (slP s570.a s570.l s570.c none (some (s498.l : Int)) 2 fun p571 l572 c573 => stP (a5.add 6) (.slice p571 l572 c573) w569 fun w574 => ldI .i64 a5 w574 fun n575 => ldI .i64 (a5.add 1) w574 fun n576 => ldI .i64 (a5.add 2) w574 fun n577 => ldI .i64 (a5.add 3) w574 fun n578 => ldS (a5.add 4) w574 fun s579 => ldS (a5.add 5) w574 fun s580 => ldS (a5.add 6) w574 fun s581 => stP a3 (.int .i64 n575) w574 fun w582 => stP (a3.add 1) (.int .i64 n576) w582 fun w583 => stP (a3.add 2) (.int .i64 n577) w583 fun w584 => stP (a3.add 3) (.int .i64 n578) w584 fun w585 => stP (a3.add 4) (.slice s579.a s579.l s579.c) w585 fun w586 => stP (a3.add 5) (.slice s580.a s580.l s580.c) w586 fun w587 => stP (a3.add 6) (.slice s581.a s581.l s581.c) w587 fun w588 => ldI .i64 a3 w588 fun n589 => ldI .i64 (a3.add 1) w588 fun n590 => ldI .i64 (a3.add 2) w588 fun n591 => ldI .i64 (a3.add 3) w588 fun n592 => ldS (a3.add 4) w588 fun s593 => ldS (a3.add 5) w588 fun s594 => ldS (a3.add 6) w588 fun s595 => K n589 n590 n591 n592 s593 s594 s595 w588))))))))))) ∧ (newP #[.int .i64 (-4)] 2 w373.drew fun a596 w597 => w597.cell? (a1.add 5) = some (.slice s375.a s375.l s375.c) ∧ w597.cell? (a1.add 5) = some (.slice s374.a s374.l s374.c) ∧ (newP #[] 2 w597 fun a598 w599 => w599.cell? (a1.add 5) = some (.slice s375.a s375.l s375.c) ∧ w599.cell? (a1.add 5) = some (.slice s374.a s374.l s374.c) ∧ (apP Try.prog #[25, 25] 25 [.slice (some a598) 0 0, .slice s374.a s374.l s374.c] w599 fun s601 w600 => w600.cell? (a1.add 5) = some (.slice s375.a s375.l s375.c) ∧ (apP Try.prog #[25, 25] 25 [.slice s601.a s601.l s601.c, .slice (some a596) 1 1] w600 fun s603 w602 => w602.cell? (a1.add 5) = some (.slice s375.a s375.l s375.c) ∧ (slP s603.a s603.l s603.c none (some (s375.l : Int)) 1 fun p604 l605 c606 => stP (a5.add 5) (.slice p604 l605 c606) w602 fun w607 => ldS (a1.add 6) w607.drew fun s608 => ldS (a1.add 6) w607.drew fun s609 => (newP #[] 58 w607.drew fun a610 w611 => w611.cell? (a1.add 6) = some (.slice s609.a s609.l s609.c) ∧ w611.cell? (a1.add 6) = some (.slice s608.a s608.l s608.c) ∧ ((apP Try.prog #[26, 26] 26 [.slice (some a610) 0 0, .slice s608.a s608.l s608.c] w611 fun s613 w612 => w612.cell? (a1.add 6) = some (.slice s609.a s609.l s609.c) ∧ (newP #[.bool false, .int .i64 (-5)] 58 w612 fun a614 w615 => w615.cell? (a1.add 6) = some (.slice s609.a s609.l s609.c) ∧ (apP Try.prog #[26, 26] 26 [.slice s613.a s613.l s613.c, .slice (some a614) 1 1] w615 fun s617 w616 => w616.cell? (a1.add 6) = some (.slice s609.a s609.l s609.c) ∧ (slP s617.a s617.l s617.c none (some (s609.l : Int)) 2 fun p618 l619 c620 => stP (a5.add 6) (.slice p618 l619 c620) w616 fun w621 => ldI .i64 a5 w621 fun n622 => ldI .i64 (a5.add 1) w621 fun n623 => ldI .i64 (a5.add 2) w621 fun n624 => ldI .i64 (a5.add 3) w621 fun n625 => ldS (a5.add 4) w621 fun s626 => ldS (a5.add 5) w621 fun s627 => ldS (a5.add 6) w621 fun s628 => stP a3 (.int .i64 n622) w621 fun w629 => stP (a3.add 1) (.int .i64 n623) w629 fun w630 => stP (a3.add 2) (.int .i64 n624) w630 fun w631 => stP (a3.add 3) (.int .i64 n625) w631 fun w632 => stP (a3.add 4) (.slice s626.a s626.l s626.c) w632 fun w633 => stP (a3.add 5) (.slice s627.a s627.l s627.c) w633 fun w634 => stP (a3.add 6) (.slice s628.a s628.l s628.c) w634 fun w635 => ldI .i64 a3 w635 fun n636 => ldI .i64 (a3.add 1) w635 fun n637 => ldI .i64 (a3.add 2) w635 fun n638 => ldI .i64 (a3.add 3) w635 fun n639 => ldS (a3.add 4) w635 fun s640 => ldS (a3.add 5) w635 fun s641 => ldS (a3.add 6) w635 fun s642 => K n636 n637 n638 n639 s640 s641 s642 w635)))) ∧ (newP #[.bool false, .int .i64 (-5)] 58 w611 fun a643 w644 => w644.cell? (a1.add 6) = some (.slice s609.a s609.l s609.c) ∧ w644.cell? (a1.add 6) = some (.slice s608.a s608.l s608.c) ∧ (apP Try.prog #[26, 26] 26 [.slice (some a610) 0 0, .slice s608.a s608.l s608.c] w644 fun s646 w645 => w645.cell? (a1.add 6) = some (.slice s609.a s609.l s609.c) ∧ (apP Try.prog #[26, 26] 26 [.slice s646.a s646.l s646.c, .slice (some a643) 1 1] w645 fun s648 w647 => w647.cell? (a1.add 6) = some (.slice s609.a s609.l s609.c) ∧ (slP s648.a s648.l s648.c none (some (s609.l : Int)) 2 fun p649 l650 c651 => stP (a5.add 6) (.slice p649 l650 c651) w647 fun w652 => ldI .i64 a5 w652 fun n653 => ldI .i64 (a5.add 1) w652 fun n654 => ldI .i64 (a5.add 2) w652 fun n655 => ldI .i64 (a5.add 3) w652 fun n656 => ldS (a5.add 4) w652 fun s657 => ldS (a5.add 5) w652 fun s658 => ldS (a5.add 6) w652 fun s659 => stP a3 (.int .i64 n653) w652 fun w660 => stP (a3.add 1) (.int .i64 n654) w660 fun w661 => stP (a3.add 2) (.int .i64 n655) w661 fun w662 => stP (a3.add 3) (.int .i64 n656) w662 fun w663 => stP (a3.add 4) (.slice s657.a s657.l s657.c) w663 fun w664 => stP (a3.add 5) (.slice s658.a s658.l s658.c) w664 fun w665 => stP (a3.add 6) (.slice s659.a s659.l s659.c) w665 fun w666 => ldI .i64 a3 w666 fun n667 => ldI .i64 (a3.add 1) w666 fun n668 => ldI .i64 (a3.add 2) w666 fun n669 => ldI .i64 (a3.add 3) w666 fun n670 => ldS (a3.add 4) w666 fun s671 => ldS (a3.add 5) w666 fun s672 => ldS (a3.add 6) w666 fun s673 => K n667 n668 n669 n670 s671 s672 s673 w666)))))) ∧ (newP #[.bool false, .int .i64 (-5)] 58 w607.drew fun a674 w675 => w675.cell? (a1.add 6) = some (.slice s609.a s609.l s609.c) ∧ w675.cell? (a1.add 6) = some (.slice s608.a s608.l s608.c) ∧ (newP #[] 58 w675 fun a676 w677 => w677.cell? (a1.add 6) = some (.slice s609.a s609.l s609.c) ∧ w677.cell? (a1.add 6) = some (.slice s608.a s608.l s608.c) ∧ (apP Try.prog #[26, 26] 26 [.slice (some a676) 0 0, .slice s608.a s608.l s608.c] w677 fun s679 w678 => w678.cell? (a1.add 6) = some (.slice s609.a s609.l s609.c) ∧ (apP Try.prog #[26, 26] 26 [.slice s679.a s679.l s679.c, .slice (some a674) 1 1] w678 fun s681 w680 => w680.cell? (a1.add 6) = some (.slice s609.a s609.l s609.c) ∧ (slP s681.a s681.l s681.c none (some (s609.l : Int)) 2 fun p682 l683 c684 => stP (a5.add 6) (.slice p682 l683 c684) w680 fun w685 => ldI .i64 a5 w685 fun n686 => ldI .i64 (a5.add 1) w685 fun n687 => ldI .i64 (a5.add 2) w685 fun n688 => ldI .i64 (a5.add 3) w685 fun n689 => ldS (a5.add 4) w685 fun s690 => ldS (a5.add 5) w685 fun s691 => ldS (a5.add 6) w685 fun s692 => stP a3 (.int .i64 n686) w685 fun w693 => stP (a3.add 1) (.int .i64 n687) w693 fun w694 => stP (a3.add 2) (.int .i64 n688) w694 fun w695 => stP (a3.add 3) (.int .i64 n689) w695 fun w696 => stP (a3.add 4) (.slice s690.a s690.l s690.c) w696 fun w697 => stP (a3.add 5) (.slice s691.a s691.l s691.c) w697 fun w698 => stP (a3.add 6) (.slice s692.a s692.l s692.c) w698 fun w699 => ldI .i64 a3 w699 fun n700 => ldI .i64 (a3.add 1) w699 fun n701 => ldI .i64 (a3.add 2) w699 fun n702 => ldI .i64 (a3.add 3) w699 fun n703 => ldS (a3.add 4) w699 fun s704 => ldS (a3.add 5) w699 fun s705 => ldS (a3.add 6) w699 fun s706 => K n700 n701 n702 n703 s704 s705 s706 w699)))))))))))))))) ∧ (newP #[.int .i64 (-3), .int .i64 0] 60 w16.drew fun a707 w708 => w708.cell? (a1.add 4) = some (.slice s18.a s18.l s18.c) ∧ w708.cell? (a1.add 4) = some (.slice s17.a s17.l s17.c) ∧ (newP #[] 60 w708 fun a709 w710 => w710.cell? (a1.add 4) = some (.slice s18.a s18.l s18.c) ∧ w710.cell? (a1.add 4) = some (.slice s17.a s17.l s17.c) ∧ (apP Try.prog #[22, 22] 22 [.slice (some a709) 0 0, .slice s17.a s17.l s17.c] w710 fun s712 w711 => w711.cell? (a1.add 4) = some (.slice s18.a s18.l s18.c) ∧ (apP Try.prog #[22, 22] 22 [.slice s712.a s712.l s712.c, .slice (some a707) 1 1] w711 fun s714 w713 => w713.cell? (a1.add 4) = some (.slice s18.a s18.l s18.c) ∧ (slP s714.a s714.l s714.c none (some (s18.l : Int)) 2 fun p715 l716 c717 => stP (a5.add 4) (.slice p715 l716 c717) w713 fun w718 => ldS (a1.add 5) w718.drew fun s719 => ldS (a1.add 5) w718.drew fun s720 => (newP #[] 2 w718.drew fun a721 w722 => w722.cell? (a1.add 5) = some (.slice s720.a s720.l s720.c) ∧ w722.cell? (a1.add 5) = some (.slice s719.a s719.l s719.c) ∧ ((apP Try.prog #[25, 25] 25 [.slice (some a721) 0 0, .slice s719.a s719.l s719.c] w722 fun s724 w723 => w723.cell? (a1.add 5) = some (.slice s720.a s720.l s720.c) ∧ (newP #[.int .i64 (-4)] 2 w723 fun a725 w726 => w726.cell? (a1.add 5) = some (.slice s720.a s720.l s720.c) ∧ (apP Try.prog #[25, 25] 25 [.slice s724.a s724.l s724.c, .slice (some a725) 1 1] w726 fun s728 w727 => w727.cell? (a1.add 5) = some (.slice s720.a s720.l s720.c) ∧ (slP s728.a s728.l s728.c none (some (s720.l : Int)) 1 fun p729 l730 c731 => stP (a5.add 5) (.slice p729 l730 c731) w727 fun w732 => ldS (a1.add 6) w732.drew fun s733 => ldS (a1.add 6) w732.drew fun s734 => (newP #[] 58 w732.drew fun a735 w736 => w736.cell? (a1.add 6) = some (.slice s734.a s734.l s734.c) ∧ w736.cell? (a1.add 6) = some (.slice s733.a s733.l s733.c) ∧ ((apP Try.prog #[26, 26] 26 [.slice (some a735) 0 0, .slice s733.a s733.l s733.c] w736 fun s738 w737 => w737.cell? (a1.add 6) = some (.slice s734.a s734.l s734.c) ∧ (newP #[.bool false, .int .i64 (-5)] 58 w737 fun a739 w740 => w740.cell? (a1.add 6) = some (.slice s734.a s734.l s734.c) ∧ (apP Try.prog #[26, 26] 26 [.slice s738.a s738.l s738.c, .slice (some a739) 1 1] w740 fun s742 w741 => w741.cell? (a1.add 6) = some (.slice s734.a s734.l s734.c) ∧ (slP s742.a s742.l s742.c none (some (s734.l : Int)) 2 fun p743 l744 c745 => stP (a5.add 6) (.slice p743 l744 c745) w741 fun w746 => ldI .i64 a5 w746 fun n747 => ldI .i64 (a5.add 1) w746 fun n748 => ldI .i64 (a5.add 2) w746 fun n749 => ldI .i64 (a5.add 3) w746 fun n750 => ldS (a5.add 4) w746 fun s751 => ldS (a5.add 5) w746 fun s752 => ldS (a5.add 6) w746 fun s753 => stP a3 (.int .i64 n747) w746 fun w754 => stP (a3.add 1) (.int .i64 n748) w754 fun w755 => stP (a3.add 2) (.int .i64 n749) w755 fun w756 => stP (a3.add 3) (.int .i64 n750) w756 fun w757 => stP (a3.add 4) (.slice s751.a s751.l s751.c) w757 fun w758 => stP (a3.add 5) (.slice s752.a s752.l s752.c) w758 fun w759 => stP (a3.add 6) (.slice s753.a s753.l s753.c) w759 fun w760 => ldI .i64 a3 w760 fun n761 => ldI .i64 (a3.add 1) w760 fun n762 => ldI .i64 (a3.add 2) w760 fun n763 => ldI .i64 (a3.add 3) w760 fun n764 => ldS (a3.add 4) w760 fun s765 => ldS (a3.add 5) w760 fun s766 => ldS (a3.add 6) w760 fun s767 => K n761 n762 n763 n764 s765 s766 s767 w760)))) ∧ (newP #[.bool false, .int .i64 (-5)] 58 w736 fun a768 w769 => w769.cell? (a1.add 6) = some (.slice s734.a s734.l s734.c) ∧ w769.cell? (a1.add 6) = some (.slice s733.a s733.l s733.c) ∧ (apP Try.prog #[26, 26] 26 [.slice (some a735) 0 0, .slice s733.a s733.l s733.c] w769 fun s771 w770 => w770.cell? (a1.add 6) = some (.slice s734.a s734.l s734.c) ∧ (apP Try.prog #[26, 26] 26 [.slice s771.a s771.l s771.c, .slice (some a768) 1 1] w770 fun s773 w772 => w772.cell? (a1.add 6) = some (.slice s734.a s734.l s734.c) ∧ (slP s773.a s773.l s773.c none (some (s734.l : Int)) 2 fun p774 l775 c776 => stP (a5.add 6) (.slice p774 l775 c776) w772 fun w777 => ldI .i64 a5 w777 fun n778 => ldI .i64 (a5.add 1) w777 fun n779 => ldI .i64 (a5.add 2) w777 fun n780 => ldI .i64 (a5.add 3) w777 fun n781 => ldS (a5.add 4) w777 fun s782 => ldS (a5.add 5) w777 fun s783 => ldS (a5.add 6) w777 fun s784 => stP a3 (.int .i64 n778) w777 fun w785 => stP (a3.add 1) (.int .i64 n779) w785 fun w786 => stP (a3.add 2) (.int .i64 n780) w786 fun w787 => stP (a3.add 3) (.int .i64 n781) w787 fun w788 => stP (a3.add 4) (.slice s782.a s782.l s782.c) w788 fun w789 => stP (a3.add 5) (.slice s783.a s783.l s783.c) w789 fun w790 => stP (a3.add 6) (.slice s784.a s784.l s784.c) w790 fun w791 => ldI .i64 a3 w791 fun n792 => ldI .i64 (a3.add 1) w791 fun n793 => ldI .i64 (a3.add 2) w791 fun n794 => ldI .i64 (a3.add 3) w791 fun n795 => ldS (a3.add 4) w791 fun s796 => ldS (a3.add 5) w791 fun s797 => ldS (a3.add 6) w791 fun s798 => K n792 n793 n794 n795 s796 s797 s798 w791)))))) ∧ (newP #[.bool false, .int .i64 (-5)] 58 w732.drew fun a799 w800 => w800.cell? (a1.add 6) = some (.slice s734.a s734.l s734.c) ∧ w800.cell? (a1.add 6) = some (.slice s733.a s733.l s733.c) ∧ (newP #[] 58 w800 fun a801 w802 => w802.cell? (a1.add 6) = some (.slice s734.a s734.l s734.c) ∧ w802.cell? (a1.add 6) = some (.slice s733.a s733.l s733.c) ∧ (apP Try.prog #[26, 26] 26 [.slice (some a801) 0 0, .slice s733.a s733.l s733.c] w802 fun s804 w803 => w803.cell? (a1.add 6) = some (.slice s734.a s734.l s734.c) ∧ (apP Try.prog #[26, 26] 26 [.slice s804.a s804.l s804.c, .slice (some a799) 1 1] w803 fun s806 w805 => w805.cell? (a1.add 6) = some (.slice s734.a s734.l s734.c) ∧ (slP s806.a s806.l s806.c none (some (s734.l : Int)) 2 fun p807 l808 c809 => stP (a5.add 6) (.slice p807 l808 c809) w805 fun w810 => ldI .i64 a5 w810 fun n811 => ldI .i64 (a5.add 1) w810 fun n812 => ldI .i64 (a5.add 2) w810 fun n813 => ldI .i64 (a5.add 3) w810 fun n814 => ldS (a5.add 4) w810 fun s815 => ldS (a5.add 5) w810 fun s816 => ldS (a5.add 6) w810 fun s817 => stP a3 (.int .i64 n811) w810 fun w818 => stP (a3.add 1) (.int .i64 n812) w818 fun w819 => stP (a3.add 2) (.int .i64 n813) w819 fun w820 => stP (a3.add 3) (.int .i64 n814) w820 fun w821 => stP (a3.add 4) (.slice s815.a s815.l s815.c) w821 fun w822 => stP (a3.add 5) (.slice s816.a s816.l s816.c) w822 fun w823 => stP (a3.add 6) (.slice s817.a s817.l s817.c) w823 fun w824 => ldI .i64 a3 w824 fun n825 => ldI .i64 (a3.add 1) w824 fun n826 => ldI .i64 (a3.add 2) w824 fun n827 => ldI .i64 (a3.add 3) w824 fun n828 => ldS (a3.add 4) w824 fun s829 => ldS (a3.add 5) w824 fun s830 => ldS (a3.add 6) w824 fun s831 => K n825 n826 n827 n828 s829 s830 s831 w824))))))))) ∧ (newP #[.int .i64 (-4)] 2 w722 fun a832 w833 => w833.cell? (a1.add 5) = some (.slice s720.a s720.l s720.c) ∧ w833.cell? (a1.add 5) = some (.slice s719.a s719.l s719.c) ∧ (apP Try.prog #[25, 25] 25 [.slice (some a721) 0 0, .slice s719.a s719.l s719.c] w833 fun s835 w834 => w834.cell? (a1.add 5) = some (.slice s720.a s720.l s720.c) ∧ (apP Try.prog #[25, 25] 25 [.slice s835.a s835.l s835.c, .slice (some a832) 1 1] w834 fun s837 w836 => w836.cell? (a1.add 5) = some (.slice s720.a s720.l s720.c) ∧ (slP s837.a s837.l s837.c none (some (s720.l : Int)) 1 fun p838 l839 c840 => stP (a5.add 5) (.slice p838 l839 c840) w836 fun w841 => ldS (a1.add 6) w841.drew fun s842 => ldS (a1.add 6) w841.drew fun s843 => (newP #[] 58 w841.drew fun a844 w845 => w845.cell? (a1.add 6) = some (.slice s843.a s843.l s843.c) ∧ w845.cell? (a1.add 6) = some (.slice s842.a s842.l s842.c) ∧ ((apP Try.prog #[26, 26] 26 [.slice (some a844) 0 0, .slice s842.a s842.l s842.c] w845 fun s847 w846 => w846.cell? (a1.add 6) = some (.slice s843.a s843.l s843.c) ∧ (newP #[.bool false, .int .i64 (-5)] 58 w846 fun a848 w849 => w849.cell? (a1.add 6) = some (.slice s843.a s843.l s843.c) ∧ (apP Try.prog #[26, 26] 26 [.slice s847.a s847.l s847.c, .slice (some a848) 1 1] w849 fun s851 w850 => w850.cell? (a1.add 6) = some (.slice s843.a s843.l s843.c) ∧ (slP s851.a s851.l s851.c none (some (s843.l : Int)) 2 fun p852 l853 c854 => stP (a5.add 6) (.slice p852 l853 c854) w850 fun w855 => ldI .i64 a5 w855 fun n856 => ldI .i64 (a5.add 1) w855 fun n857 => ldI .i64 (a5.add 2) w855 fun n858 => ldI .i64 (a5.add 3) w855 fun n859 => ldS (a5.add 4) w855 fun s860 => ldS (a5.add 5) w855 fun s861 => ldS (a5.add 6) w855 fun s862 => stP a3 (.int .i64 n856) w855 fun w863 => stP (a3.add 1) (.int .i64 n857) w863 fun w864 => stP (a3.add 2) (.int .i64 n858) w864 fun w865 => stP (a3.add 3) (.int .i64 n859) w865 fun w866 => stP (a3.add 4) (.slice s860.a s860.l s860.c) w866 fun w867 => stP (a3.add 5) (.slice s861.a s861.l s861.c) w867 fun w868 => stP (a3.add 6) (.slice s862.a s862.l s862.c) w868 fun w869 => ldI .i64 a3 w869 fun n870 => ldI .i64 (a3.add 1) w869 fun n871 => ldI .i64 (a3.add 2) w869 fun n872 => ldI .i64 (a3.add 3) w869 fun n873 => ldS (a3.add 4) w869 fun s874 => ldS (a3.add 5) w869 fun s875 => ldS (a3.add 6) w869 fun s876 => K n870 n871 n872 n873 s874 s875 s876 w869)))) ∧ (newP #[.bool false, .int .i64 (-5)] 58 w845 fun a877 w878 => w878.cell? (a1.add 6) = some (.slice s843.a s843.l s843.c) ∧ w878.cell? (a1.add 6) = some (.slice s842.a s842.l s842.c) ∧ (apP Try.prog #[26, 26] 26 [.slice (some a844) 0 0, .slice s842.a s842.l s842.c] w878 fun s880 w879 => w879.cell? (a1.add 6) = some (.slice s843.a s843.l s843.c) ∧ (apP Try.prog #[26, 26] 26 [.slice s880.a s880.l s880.c, .slice (some a877) 1 1] w879 fun s882 w881 => w881.cell? (a1.add 6) = some (.slice s843.a s843.l s843.c) ∧ (slP s882.a s882.l s882.c none (some (s843.l : Int)) 2 fun p883 l884 c885 => stP (a5.add 6) (.slice p883 l884 c885) w881 fun w886 => ldI .i64 a5 w886 fun n887 => ldI .i64 (a5.add 1) w886 fun n888 => ldI .i64 (a5.add 2) w886 fun n889 => ldI .i64 (a5.add 3) w886 fun n890 => ldS (a5.add 4) w886 fun s891 => ldS (a5.add 5) w886 fun s892 => ldS (a5.add 6) w886 fun s893 => stP a3 (.int .i64 n887) w886 fun w894 => stP (a3.add 1) (.int .i64 n888) w894 fun w895 => stP (a3.add 2) (.int .i64 n889) w895 fun w896 => stP (a3.add 3) (.int .i64 n890) w896 fun w897 => stP (a3.add 4) (.slice s891.a s891.l s891.c) w897 fun w898 => stP (a3.add 5) (.slice s892.a s892.l s892.c) w898 fun w899 => stP (a3.add 6) (.slice s893.a s893.l s893.c) w899 fun w900 => ldI .i64 a3 w900 fun n901 => ldI .i64 (a3.add 1) w900 fun n902 => ldI .i64 (a3.add 2) w900 fun n903 => ldI .i64 (a3.add 3) w900 fun n904 => ldS (a3.add 4) w900 fun s905 => ldS (a3.add 5) w900 fun s906 => ldS (a3.add 6) w900 fun s907 => K n901 n902 n903 n904 s905 s906 s907 w900)))))) ∧ (newP #[.bool false, .int .i64 (-5)] 58 w841.drew fun a908 w909 => w909.cell? (a1.add 6) = some (.slice s843.a s843.l s843.c) ∧ w909.cell? (a1.add 6) = some (.slice s842.a s842.l s842.c) ∧ (newP #[] 58 w909 fun a910 w911 => w911.cell? (a1.add 6) = some (.slice s843.a s843.l s843.c) ∧ w911.cell? (a1.add 6) = some (.slice s842.a s842.l s842.c) ∧ (apP Try.prog #[26, 26] 26 [.slice (some a910) 0 0, .slice s842.a s842.l s842.c] w911 fun s913 w912 => w912.cell? (a1.add 6) = some (.slice s843.a s843.l s843.c) ∧ (apP Try.prog #[26, 26] 26 [.slice s913.a s913.l s913.c, .slice (some a908) 1 1] w912 fun s915 w914 => w914.cell? (a1.add 6) = some (.slice s843.a s843.l s843.c) ∧ (slP s915.a s915.l s915.c none (some (s843.l : Int)) 2 fun p916 l917 c918 => stP (a5.add 6) (.slice p916 l917 c918) w914 fun w919 => ldI .i64 a5 w919 fun n920 => ldI .i64 (a5.add 1) w919 fun n921 => ldI .i64 (a5.add 2) w919 fun n922 => ldI .i64 (a5.add 3) w919 fun n923 => ldS (a5.add 4) w919 fun s924 => ldS (a5.add 5) w919 fun s925 => ldS (a5.add 6) w919 fun s926 => stP a3 (.int .i64 n920) w919 fun w927 => stP (a3.add 1) (.int .i64 n921) w927 fun w928 => stP (a3.add 2) (.int .i64 n922) w928 fun w929 => stP (a3.add 3) (.int .i64 n923) w929 fun w930 => stP (a3.add 4) (.slice s924.a s924.l s924.c) w930 fun w931 => stP (a3.add 5) (.slice s925.a s925.l s925.c) w931 fun w932 => stP (a3.add 6) (.slice s926.a s926.l s926.c) w932 fun w933 => ldI .i64 a3 w933 fun n934 => ldI .i64 (a3.add 1) w933 fun n935 => ldI .i64 (a3.add 2) w933 fun n936 => ldI .i64 (a3.add 3) w933 fun n937 => ldS (a3.add 4) w933 fun s938 => ldS (a3.add 5) w933 fun s939 => ldS (a3.add 6) w933 fun s940 => K n934 n935 n936 n937 s938 s939 s940 w933))))))))))) ∧ (newP #[.int .i64 (-4)] 2 w718.drew fun a941 w942 => w942.cell? (a1.add 5) = some (.slice s720.a s720.l s720.c) ∧ w942.cell? (a1.add 5) = some (.slice s719.a s719.l s719.c) ∧ (newP #[] 2 w942 fun a943 w944 => w944.cell? (a1.add 5) = some (.slice s720.a s720.l s720.c) ∧ w944.cell? (a1.add 5) = some (.slice s719.a s719.l s719.c) ∧ (apP Try.prog #[25, 25] 25 [.slice (some a943) 0 0, .slice s719.a s719.l s719.c] w944 fun s946 w945 => w945.cell? (a1.add 5) = some (.slice s720.a s720.l s720.c) ∧ (apP Try.prog #[25, 25] 25 [.slice s946.a s946.l s946.c, .slice (some a941) 1 1] w945 fun s948 w947 => w947.cell? (a1.add 5) = some (.slice s720.a s720.l s720.c) ∧ (slP s948.a s948.l s948.c none (some (s720.l : Int)) 1 fun p949 l950 c951 => stP (a5.add 5) (.slice p949 l950 c951) w947 fun w952 => ldS (a1.add 6) w952.drew fun s953 => ldS (a1.add 6) w952.drew fun s954 => (newP #[] 58 w952.drew fun a955 w956 => w956.cell? (a1.add 6) = some (.slice s954.a s954.l s954.c) ∧ w956.cell? (a1.add 6) = some (.slice s953.a s953.l s953.c) ∧ ((apP Try.prog #[26, 26] 26 [.slice (some a955) 0 0, .slice s953.a s953.l s953.c] w956 fun s958 w957 => w957.cell? (a1.add 6) = some (.slice s954.a s954.l s954.c) ∧ (newP #[.bool false, .int .i64 (-5)] 58 w957 fun a959 w960 => w960.cell? (a1.add 6) = some (.slice s954.a s954.l s954.c) ∧ (apP Try.prog #[26, 26] 26 [.slice s958.a s958.l s958.c, .slice (some a959) 1 1] w960 fun s962 w961 => w961.cell? (a1.add 6) = some (.slice s954.a s954.l s954.c) ∧ (slP s962.a s962.l s962.c none (some (s954.l : Int)) 2 fun p963 l964 c965 => stP (a5.add 6) (.slice p963 l964 c965) w961 fun w966 => ldI .i64 a5 w966 fun n967 => ldI .i64 (a5.add 1) w966 fun n968 => ldI .i64 (a5.add 2) w966 fun n969 => ldI .i64 (a5.add 3) w966 fun n970 => ldS (a5.add 4) w966 fun s971 => ldS (a5.add 5) w966 fun s972 => ldS (a5.add 6) w966 fun s973 => stP a3 (.int .i64 n967) w966 fun w974 => stP (a3.add 1) (.int .i64 n968) w974 fun w975 => stP (a3.add 2) (.int .i64 n969) w975 fun w976 => stP (a3.add 3) (.int .i64 n970) w976 fun w977 => stP (a3.add 4) (.slice s971.a s971.l s971.c) w977 fun w978 => stP (a3.add 5) (.slice s972.a s972.l s972.c) w978 fun w979 => stP (a3.add 6) (.slice s973.a s973.l s973.c) w979 fun w980 => ldI .i64 a3 w980 fun n981 => ldI .i64 (a3.add 1) w980 fun n982 => ldI .i64 (a3.add 2) w980 fun n983 => ldI .i64 (a3.add 3) w980 fun n984 => ldS (a3.add 4) w980 fun s985 => ldS (a3.add 5) w980 fun s986 => ldS (a3.add 6) w980 fun s987 => K n981 n982 n983 n984 s985 s986 s987 w980)))) ∧ (newP #[.bool false, .int .i64 (-5)] 58 w956 fun a988 w989 => w989.cell? (a1.add 6) = some (.slice s954.a s954.l s954.c) ∧ w989.cell? (a1.add 6) = some (.slice s953.a s953.l s953.c) ∧ (apP Try.prog #[26, 26] 26 [.slice (some a955) 0 0, .slice s953.a s953.l s953.c] w989 fun s991 w990 => w990.cell? (a1.add 6) = some (.slice s954.a s954.l s954.c) ∧ (apP Try.prog #[26, 26] 26 [.slice s991.a s991.l s991.c, .slice (some a988) 1 1] w990 fun s993 w992 => w992.cell? (a1.add 6) = some (.slice s954.a s954.l s954.c) ∧ (slP s993.a s993.l s993.c none (some (s954.l : Int)) 2 fun p994 l995 c996 => stP (a5.add 6) (.slice p994 l995 c996) w992 fun w997 => ldI .i64 a5 w997 fun n998 => ldI .i64 (a5.add 1) w997 fun n999 => ldI .i64 (a5.add 2) w997 fun n1000 => ldI .i64 (a5.add 3) w997 fun n1001 => ldS (a5.add 4) w997 fun s1002 => ldS (a5.add 5) w997 fun s1003 => ldS (a5.add 6) w997 fun s1004 => stP a3 (.int .i64 n998) w997 fun w1005 => stP (a3.add 1) (.int .i64 n999) w1005 fun w1006 => stP (a3.add 2) (.int .i64 n1000) w1006 fun w1007 => stP (a3.add 3) (.int .i64 n1001) w1007 fun w1008 => stP (a3.add 4) (.slice s1002.a s1002.l s1002.c) w1008 fun w1009 => stP (a3.add 5) (.slice s1003.a s1003.l s1003.c) w1009 fun w1010 => stP (a3.add 6) (.slice s1004.a s1004.l s1004.c) w1010 fun w1011 => ldI .i64 a3 w1011 fun n1012 => ldI .i64 (a3.add 1) w1011 fun n1013 => ldI .i64 (a3.add 2) w1011 fun n1014 => ldI .i64 (a3.add 3) w1011 fun n1015 => ldS (a3.add 4) w1011 fun s1016 => ldS (a3.add 5) w1011 fun s1017 => ldS (a3.add 6) w1011 fun s1018 => K n1012 n1013 n1014 n1015 s1016 s1017 s1018 w1011)))))) ∧ (newP #[.bool false, .int .i64 (-5)] 58 w952.drew fun a1019 w1020 => w1020.cell? (a1.add 6) = some (.slice s954.a s954.l s954.c) ∧ w1020.cell? (a1.add 6) = some (.slice s953.a s953.l s953.c) ∧ (newP #[] 58 w1020 fun a1021 w1022 => w1022.cell? (a1.add 6) = some (.slice s954.a s954.l s954.c) ∧ w1022.cell? (a1.add 6) = some (.slice s953.a s953.l s953.c) ∧ (apP Try.prog #[26, 26] 26 [.slice (some a1021) 0 0, .slice s953.a s953.l s953.c] w1022 fun s1024 w1023 => w1023.cell? (a1.add 6) = some (.slice s954.a s954.l s954.c) ∧ (apP Try.prog #[26, 26] 26 [.slice s1024.a s1024.l s1024.c, .slice (some a1019) 1 1] w1023 fun s1026 w1025 => w1025.cell? (a1.add 6) = some (.slice s954.a s954.l s954.c) ∧ (slP s1026.a s1026.l s1026.c none (some (s954.l : Int)) 2 fun p1027 l1028 c1029 => stP (a5.add 6) (.slice p1027 l1028 c1029) w1025 fun w1030 => ldI .i64 a5 w1030 fun n1031 => ldI .i64 (a5.add 1) w1030 fun n1032 => ldI .i64 (a5.add 2) w1030 fun n1033 => ldI .i64 (a5.add 3) w1030 fun n1034 => ldS (a5.add 4) w1030 fun s1035 => ldS (a5.add 5) w1030 fun s1036 => ldS (a5.add 6) w1030 fun s1037 => stP a3 (.int .i64 n1031) w1030 fun w1038 => stP (a3.add 1) (.int .i64 n1032) w1038 fun w1039 => stP (a3.add 2) (.int .i64 n1033) w1039 fun w1040 => stP (a3.add 3) (.int .i64 n1034) w1040 fun w1041 => stP (a3.add 4) (.slice s1035.a s1035.l s1035.c) w1041 fun w1042 => stP (a3.add 5) (.slice s1036.a s1036.l s1036.c) w1042 fun w1043 => stP (a3.add 6) (.slice s1037.a s1037.l s1037.c) w1043 fun w1044 => ldI .i64 a3 w1044 fun n1045 => ldI .i64 (a3.add 1) w1044 fun n1046 => ldI .i64 (a3.add 2) w1044 fun n1047 => ldI .i64 (a3.add 3) w1044 fun n1048 => ldS (a3.add 4) w1044 fun s1049 => ldS (a3.add 5) w1044 fun s1050 => ldS (a3.add 6) w1044 fun s1051 => K n1045 n1046 n1047 n1048 s1049 s1050 s1051 w1044)))))))))))))))

def c_preludelaw05_given (c_0_0 : Int) (c_0_1 : Int) (c_0_2 : Int) (c_0_3 : Int) (c_0_4 : Slc) (c_0_5 : Slc) (c_0_6 : Slc) (w : World) (K : Int → Int → Int → Int → Slc → Slc → Slc → World → Prop) : Prop := Calls Try.prog 9 #[.agg #[.int .i64 c_0_0, .int .i64 c_0_1, .int .i64 c_0_2, .int .i64 c_0_3, .slice c_0_4.a c_0_4.l c_0_4.c, .slice c_0_5.a c_0_5.l c_0_5.c, .slice c_0_6.a c_0_6.l c_0_6.c]] w (onRet (fun v w' => ∃ (y0 : Int), ∃ (y1 : Int), ∃ (y2 : Int), ∃ (y3 : Int), ∃ (y4 : Slc), ∃ (y5 : Slc), ∃ (y6 : Slc), v = .agg #[.int .i64 y0, .int .i64 y1, .int .i64 y2, .int .i64 y3, .slice y4.a y4.l y4.c, .slice y5.a y5.l y5.c, .slice y6.a y6.l y6.c] ∧ K y0 y1 y2 y3 y4 y5 y6 w'))

theorem sim_preludelaw05_given {c_0_0 : Int} {c_0_1 : Int} {c_0_2 : Int} {c_0_3 : Int} {c_0_4 : Slc} {c_0_5 : Slc} {c_0_6 : Slc} {w : World} {K : Int → Int → Int → Int → Slc → Slc → Slc → World → Prop} (h : sh_preludelaw05_given c_0_0 c_0_1 c_0_2 c_0_3 c_0_4 c_0_5 c_0_6 w K) : c_preludelaw05_given c_0_0 c_0_1 c_0_2 c_0_3 c_0_4 c_0_5 c_0_6 w K := by
  have e : sh_preludelaw05_given c_0_0 c_0_1 c_0_2 c_0_3 c_0_4 c_0_5 c_0_6 w K = shF Try.prog 9 ⟨[(3, (.one 1 (.one 2 (.one 3 (.one 5 (.one 8 (.one 9 (.one 10 (.one 11 (.alt 0 6 ((.alt 4 6 (.of [6, 7, 12, 13, 14, 15]) (.of [4, 7, 12, 13, 14, 15]))) (.of [0, 4, 7, 12, 13, 14, 15]))))))))))), (4, (.one 1 (.one 2 (.one 6 (.one 7 (.one 8 (.alt 0 4 ((.alt 3 4 (.of [4, 5, 9, 10, 11]) (.of [3, 5, 9, 10, 11]))) (.of [0, 3, 5, 9, 10, 11])))))))), (5, (.one 1 (.one 2 (.one 4 (.one 7 (.one 8 (.one 9 (.alt 0 5 ((.alt 3 5 (.of [5, 6, 10, 11, 12]) (.of [3, 6, 10, 11, 12]))) (.of [0, 3, 6, 10, 11, 12])))))))))], [], []⟩ [.agg #[.int .i64 c_0_0, .int .i64 c_0_1, .int .i64 c_0_2, .int .i64 c_0_3, .slice c_0_4.a c_0_4.l c_0_4.c, .slice c_0_5.a c_0_5.l c_0_5.c, .slice c_0_6.a c_0_6.l c_0_6.c]] w (fun v w' => decA [(.int .i64), (.int .i64), (.int .i64), (.int .i64), .sl, .sl, .sl] v fun s => (fun (y0 : Int) (y1 : Int) (y2 : Int) (y3 : Int) (y4 : Slc) (y5 : Slc) (y6 : Slc) => K y0 y1 y2 y3 y4 y5 y6 w') s.1 s.2.1 s.2.2.1 s.2.2.2.1 s.2.2.2.2.1 s.2.2.2.2.2.1 s.2.2.2.2.2.2.1) := by kernel_rfl
  exact Calls.mono (calls_of _ e h) (onRet_mono (fun _ _ h => by obtain ⟨s, h1, h2⟩ := decA_spec h; exact ⟨s.1, s.2.1, s.2.2.1, s.2.2.2.1, s.2.2.2.2.1, s.2.2.2.2.2.1, s.2.2.2.2.2.2.1, h1, h2⟩))

-- 77 prelude/lang.within; callees []
def sh_lang_within (n_0 : Int) (most_1 : Int) (w : World) (K : Bool → World → Prop) : Prop :=
  iteB (decide ((n_0 : Int) ≥ 0))
  (K (decide ((n_0 : Int) ≤ most_1)) w)
  (K false w)

def c_lang_within (n_0 : Int) (most_1 : Int) (w : World) (K : Bool → World → Prop) : Prop := Calls Try.prog 77 #[.int .i64 n_0, .int .i64 most_1] w (onRet (fun v w' => ∃ (y0 : Bool), v = .bool y0 ∧ K y0 w'))

theorem sim_lang_within {n_0 : Int} {most_1 : Int} {w : World} {K : Bool → World → Prop} (h : sh_lang_within n_0 most_1 w K) : c_lang_within n_0 most_1 w K := by
  have e : sh_lang_within n_0 most_1 w K = shF Try.prog 77 ⟨[], [], []⟩ [.int .i64 n_0, .int .i64 most_1] w (fun v w' => decV .b v fun y0 => K y0 w') := by kernel_rfl
  exact Calls.mono (calls_of _ e h) (onRet_mono (fun _ _ h => decV_spec h))

-- 76 prelude/lang.sizes; callees ['lang_within']
def sh_lang_sizes (c_lang_within : Int → Int → World → (Bool → World → Prop) → Prop) (p_0_0 : Int) (p_0_1 : Int) (p_0_2 : Int) (p_0_3 : Int) (p_0_4 : Slc) (w : World) (K : Int → World → Prop) : Prop :=
  newP #[.int .i64 p_0_0, .int .i64 p_0_1, .int .i64 p_0_2, .int .i64 p_0_3, .slice p_0_4.a p_0_4.l p_0_4.c] 24 w fun a1 w2 => ldI .i64 a1 w2 fun n3 => c_lang_within n3 16 w2 fun r4 w5 => iteB r4
  (ldI .i64 (a1.add 1) w5 fun n6 => c_lang_within n6 16 w5 fun r7 w8 => iteB r7
  (ldI .i64 (a1.add 2) w8 fun n9 => c_lang_within n9 16 w8 fun r10 w11 => iteB r10
  (ldI .i64 (a1.add 3) w11 fun n12 => c_lang_within n12 16 w11 fun r13 w14 => iteB (!r13)
  (K 30 w14)
  (ldS (a1.add 4) w14 fun s15 => iteB (decide (((s15.l : Int) : Int) > 256))
  (K 30 w14)
  (K 0 w14)))
  (K 30 w11))
  (K 30 w8))
  (K 30 w5)

def c_lang_sizes (p_0_0 : Int) (p_0_1 : Int) (p_0_2 : Int) (p_0_3 : Int) (p_0_4 : Slc) (w : World) (K : Int → World → Prop) : Prop := Calls Try.prog 76 #[.agg #[.int .i64 p_0_0, .int .i64 p_0_1, .int .i64 p_0_2, .int .i64 p_0_3, .slice p_0_4.a p_0_4.l p_0_4.c]] w (onRet (fun v w' => ∃ (y0 : Int), v = .int .i64 y0 ∧ K y0 w'))

theorem sim_lang_sizes {p_0_0 : Int} {p_0_1 : Int} {p_0_2 : Int} {p_0_3 : Int} {p_0_4 : Slc} {w : World} {K : Int → World → Prop} (h : sh_lang_sizes c_lang_within p_0_0 p_0_1 p_0_2 p_0_3 p_0_4 w K) : c_lang_sizes p_0_0 p_0_1 p_0_2 p_0_3 p_0_4 w K := by
  have e : sh_lang_sizes c_lang_within p_0_0 p_0_1 p_0_2 p_0_3 p_0_4 w K = shF Try.prog 76 ⟨[], [], []⟩ [.agg #[.int .i64 p_0_0, .int .i64 p_0_1, .int .i64 p_0_2, .int .i64 p_0_3, .slice p_0_4.a p_0_4.l p_0_4.c]] w (fun v w' => decV (.int .i64) v fun y0 => K y0 w') := by kernel_rfl
  exact Calls.mono (calls_of _ e h) (onRet_mono (fun _ _ h => decV_spec h))

-- 78 prelude/lang.argument; callees []
def sh_lang_argument (p_0_0 : Int) (p_0_1 : Int) (p_0_2 : Int) (p_0_3 : Int) (p_0_4 : Slc) (at_1 : Int) (w : World) (K : Int → World → Prop) : Prop :=
  newP #[.int .i64 p_0_0, .int .i64 p_0_1, .int .i64 p_0_2, .int .i64 p_0_3, .slice p_0_4.a p_0_4.l p_0_4.c] 24 w fun a1 w2 => ldS (a1.add 4) w2 fun s3 => idxP s3.a s3.l at_1 2 fun a4 => ldI .i64 a4 w2 fun n5 => ldI .i64 (a4.add 1) w2 fun n6 => newP #[.int .i64 0, .int .i64 0] 60 w2 fun a7 w8 => stP a7 (.int .i64 n5) w8 fun w9 => stP (a7.add 1) (.int .i64 n6) w9 fun w10 => ldI .i64 a7 w10 fun n11 => iteB ((n11 : Int) == 1)
  (K 0 w10)
  (iteB ((n11 : Int) == 30)
  (ldI .i64 (a7.add 1) w10 fun n12 => iteB (decide ((n12 : Int) ≤ at_1))
  (K 33 w10)
  (ldI .i64 (a7.add 1) w10 fun n13 => ldS (a1.add 4) w10 fun s14 => iteB (decide ((n13 : Int) > (s14.l : Int)))
  (K 33 w10)
  (K 0 w10)))
  (iteB ((n11 : Int) == 31)
  (ldI .i64 (a7.add 1) w10 fun n15 => iteB (decide ((n15 : Int) ≤ at_1))
  (K 33 w10)
  (ldI .i64 (a7.add 1) w10 fun n16 => ldS (a1.add 4) w10 fun s17 => iteB (decide ((n16 : Int) > (s17.l : Int)))
  (K 33 w10)
  (K 0 w10)))
  (iteB ((n11 : Int) == 4)
  (ldI .i64 (a1.add 3) w10 fun n18 => ldI .i64 (a7.add 1) w10 fun n19 => iteB (decide ((n19 : Int) < 0))
  (K 32 w10)
  (ldI .i64 (a7.add 1) w10 fun n20 => iteB (decide ((n20 : Int) > (IntKind.i64.wrap (n18 - 1))))
  (K 32 w10)
  (K 0 w10)))
  (iteB ((n11 : Int) == 5)
  (ldI .i64 (a1.add 3) w10 fun n21 => ldI .i64 (a7.add 1) w10 fun n22 => iteB (decide ((n22 : Int) < 0))
  (K 32 w10)
  (ldI .i64 (a7.add 1) w10 fun n23 => iteB (decide ((n23 : Int) > (IntKind.i64.wrap (n21 - 1))))
  (K 32 w10)
  (K 0 w10)))
  (iteB ((n11 : Int) == 6)
  (ldI .i64 a1 w10 fun n24 => ldI .i64 (a7.add 1) w10 fun n25 => iteB (decide ((n25 : Int) < 0))
  (K 32 w10)
  (ldI .i64 (a7.add 1) w10 fun n26 => iteB (decide ((n26 : Int) > (IntKind.i64.wrap (n24 - 1))))
  (K 32 w10)
  (K 0 w10)))
  (iteB ((n11 : Int) == 7)
  (ldI .i64 (a1.add 1) w10 fun n27 => ldI .i64 (a7.add 1) w10 fun n28 => iteB (decide ((n28 : Int) < 0))
  (K 32 w10)
  (ldI .i64 (a7.add 1) w10 fun n29 => iteB (decide ((n29 : Int) > (IntKind.i64.wrap (n27 - 1))))
  (K 32 w10)
  (K 0 w10)))
  (iteB ((n11 : Int) == 8)
  (ldI .i64 (a1.add 1) w10 fun n30 => ldI .i64 (a7.add 1) w10 fun n31 => iteB (decide ((n31 : Int) < 0))
  (K 32 w10)
  (ldI .i64 (a7.add 1) w10 fun n32 => iteB (decide ((n32 : Int) > (IntKind.i64.wrap (n30 - 1))))
  (K 32 w10)
  (K 0 w10)))
  (iteB ((n11 : Int) == 32)
  (ldI .i64 (a1.add 2) w10 fun n33 => ldI .i64 (a7.add 1) w10 fun n34 => iteB (decide ((n34 : Int) < 0))
  (K 32 w10)
  (ldI .i64 (a7.add 1) w10 fun n35 => iteB (decide ((n35 : Int) > (IntKind.i64.wrap (n33 - 1))))
  (K 32 w10)
  (K 0 w10)))
  (iteB ((n11 : Int) == 33)
  (ldI .i64 (a1.add 2) w10 fun n36 => ldI .i64 (a7.add 1) w10 fun n37 => iteB (decide ((n37 : Int) < 0))
  (K 32 w10)
  (ldI .i64 (a7.add 1) w10 fun n38 => iteB (decide ((n38 : Int) > (IntKind.i64.wrap (n36 - 1))))
  (K 32 w10)
  (K 0 w10)))
  (ldI .i64 (a7.add 1) w10 fun n39 => iteB (decide ((n39 : Int) < 0))
  (K 32 w10)
  (ldI .i64 (a7.add 1) w10 fun n40 => iteB (decide ((n40 : Int) > 0))
  (K 32 w10)
  (K 0 w10))))))))))))

def c_lang_argument (p_0_0 : Int) (p_0_1 : Int) (p_0_2 : Int) (p_0_3 : Int) (p_0_4 : Slc) (at_1 : Int) (w : World) (K : Int → World → Prop) : Prop := Calls Try.prog 78 #[.agg #[.int .i64 p_0_0, .int .i64 p_0_1, .int .i64 p_0_2, .int .i64 p_0_3, .slice p_0_4.a p_0_4.l p_0_4.c], .int .i64 at_1] w (onRet (fun v w' => ∃ (y0 : Int), v = .int .i64 y0 ∧ K y0 w'))

theorem sim_lang_argument {p_0_0 : Int} {p_0_1 : Int} {p_0_2 : Int} {p_0_3 : Int} {p_0_4 : Slc} {at_1 : Int} {w : World} {K : Int → World → Prop} (h : sh_lang_argument p_0_0 p_0_1 p_0_2 p_0_3 p_0_4 at_1 w K) : c_lang_argument p_0_0 p_0_1 p_0_2 p_0_3 p_0_4 at_1 w K := by
  have e : sh_lang_argument p_0_0 p_0_1 p_0_2 p_0_3 p_0_4 at_1 w K = shF Try.prog 78 ⟨[], [], []⟩ [.agg #[.int .i64 p_0_0, .int .i64 p_0_1, .int .i64 p_0_2, .int .i64 p_0_3, .slice p_0_4.a p_0_4.l p_0_4.c], .int .i64 at_1] w (fun v w' => decV (.int .i64) v fun y0 => K y0 w') := by kernel_rfl
  exact Calls.mono (calls_of _ e h) (onRet_mono (fun _ _ h => decV_spec h))

-- 79 prelude/lang.moves; callees []
def sh_lang_moves (op_0 : Int) (w : World) (K : Int → Int → World → Prop) : Prop :=
  iteB ((op_0 : Int) == 34)
  (K (IntKind.i64.wrap ((IntKind.i64.wrap (0 + 1)) + 1)) 0 w)
  (iteB ((op_0 : Int) == 2)
  (K (IntKind.i64.wrap (0 + 1)) 0 w)
  (iteB ((op_0 : Int) == 5)
  (K (IntKind.i64.wrap (0 + 1)) 0 w)
  (iteB ((op_0 : Int) == 31)
  (K (IntKind.i64.wrap (0 + 1)) 0 w)
  (iteB ((op_0 : Int) == 32)
  (K (IntKind.i64.wrap (0 + 1)) 0 w)
  (iteB ((op_0 : Int) == 35)
  (K (IntKind.i64.wrap (0 + 1)) 0 w)
  (iteB ((op_0 : Int) == 36)
  (K (IntKind.i64.wrap (0 + 1)) 0 w)
  (iteB ((op_0 : Int) == 3)
  (K (IntKind.i64.wrap (0 + 1)) (IntKind.i64.wrap ((IntKind.i64.wrap (0 + 1)) + 1)) w)
  (iteB ((op_0 : Int) == 9)
  (K (IntKind.i64.wrap (0 + 1)) (IntKind.i64.wrap (0 + 1)) w)
  (iteB ((op_0 : Int) == 20)
  (K (IntKind.i64.wrap (0 + 1)) (IntKind.i64.wrap (0 + 1)) w)
  (iteB ((op_0 : Int) == 21)
  (K (IntKind.i64.wrap (0 + 1)) (IntKind.i64.wrap (0 + 1)) w)
  (iteB ((op_0 : Int) == 1)
  (K 0 (IntKind.i64.wrap (0 + 1)) w)
  (iteB ((op_0 : Int) == 4)
  (K 0 (IntKind.i64.wrap (0 + 1)) w)
  (iteB ((op_0 : Int) == 6)
  (K 0 (IntKind.i64.wrap (0 + 1)) w)
  (iteB ((op_0 : Int) == 7)
  (K 0 (IntKind.i64.wrap (0 + 1)) w)
  (iteB ((op_0 : Int) == 8)
  (K 0 (IntKind.i64.wrap (0 + 1)) w)
  (iteB ((op_0 : Int) == 0)
  (K 0 0 w)
  (iteB ((op_0 : Int) == 30)
  (K 0 0 w)
  (iteB ((op_0 : Int) == 33)
  (K 0 0 w)
  (K 2 1 w)))))))))))))))))))

def c_lang_moves (op_0 : Int) (w : World) (K : Int → Int → World → Prop) : Prop := Calls Try.prog 79 #[.int .i64 op_0] w (onRet (fun v w' => ∃ (y0 : Int), ∃ (y1 : Int), v = .tuple #[.int .i64 y0, .int .i64 y1] ∧ K y0 y1 w'))

theorem sim_lang_moves {op_0 : Int} {w : World} {K : Int → Int → World → Prop} (h : sh_lang_moves op_0 w K) : c_lang_moves op_0 w K := by
  have e : sh_lang_moves op_0 w K = shF Try.prog 79 ⟨[], [], []⟩ [.int .i64 op_0] w (fun v w' => decT [(false, [(.int .i64)]), (false, [(.int .i64)])] v fun s => (fun (y0 : Int) (y1 : Int) => K y0 y1 w') s.1 s.2.1) := by kernel_rfl
  exact Calls.mono (calls_of _ e h) (onRet_mono (fun _ _ h => by obtain ⟨s, h1, h2⟩ := decT_spec h; exact ⟨s.1, s.2.1, h1, h2⟩))

-- 43 prelude/lang.ways; callees []
def sh_lang_ways (in_0_0 : Int) (in_0_1 : Int) (at_1 : Int) (w : World) (K : Slc → World → Prop) : Prop :=
  newP #[.int .i64 in_0_0, .int .i64 in_0_1] 60 w fun a1 w2 => ldI .i64 a1 w2 fun n3 => iteB ((n3 : Int) == 0)
  (K ⟨none, 0, 0⟩ w2)
  (iteB ((n3 : Int) == 36)
  (K ⟨none, 0, 0⟩ w2)
  (iteB ((n3 : Int) == 30)
  (ldI .i64 (a1.add 1) w2 fun n4 => newP #[.int .i64 n4] 3 w2 fun a5 w6 => K ⟨(some a5), 1, 1⟩ w6)
  (iteB ((n3 : Int) == 31)
  (ldI .i64 (a1.add 1) w2 fun n7 => newP #[.int .i64 n7, .int .i64 (IntKind.i64.wrap (at_1 + 1))] 3 w2 fun a8 w9 => K ⟨(some a8), 2, 2⟩ w9)
  (newP #[.int .i64 (IntKind.i64.wrap (at_1 + 1))] 3 w2 fun a10 w11 => K ⟨(some a10), 1, 1⟩ w11))))

def c_lang_ways (in_0_0 : Int) (in_0_1 : Int) (at_1 : Int) (w : World) (K : Slc → World → Prop) : Prop := Calls Try.prog 43 #[.agg #[.int .i64 in_0_0, .int .i64 in_0_1], .int .i64 at_1] w (onRet (fun v w' => ∃ (y0 : Slc), v = .slice y0.a y0.l y0.c ∧ K y0 w'))

theorem sim_lang_ways {in_0_0 : Int} {in_0_1 : Int} {at_1 : Int} {w : World} {K : Slc → World → Prop} (h : sh_lang_ways in_0_0 in_0_1 at_1 w K) : c_lang_ways in_0_0 in_0_1 at_1 w K := by
  have e : sh_lang_ways in_0_0 in_0_1 at_1 w K = shF Try.prog 43 ⟨[], [], []⟩ [.agg #[.int .i64 in_0_0, .int .i64 in_0_1], .int .i64 at_1] w (fun v w' => decV .sl v fun y0 => K y0 w') := by kernel_rfl
  exact Calls.mono (calls_of _ e h) (onRet_mono (fun _ _ h => decV_spec h))

-- 44 prelude/lang.look; callees ['lang_sizes', 'lang_within', 'lang_argument', 'lang_moves', 'lang_ways']
def sh_lang_look (c_lang_sizes : Int → Int → Int → Int → Slc → World → (Int → World → Prop) → Prop) (c_lang_within : Int → Int → World → (Bool → World → Prop) → Prop) (c_lang_argument : Int → Int → Int → Int → Slc → Int → World → (Int → World → Prop) → Prop) (c_lang_moves : Int → World → (Int → Int → World → Prop) → Prop) (c_lang_ways : Int → Int → Int → World → (Slc → World → Prop) → Prop) (x_0_0 : Int) (x_0_1 : Int) (x_0_2 : Int) (x_0_3 : Int) (x_0_4 : Slc) (w : World) (K : Slc → Int → World → Prop) : Prop :=
  newP #[.int .i64 x_0_0, .int .i64 x_0_1, .int .i64 x_0_2, .int .i64 x_0_3, .slice x_0_4.a x_0_4.l x_0_4.c] 24 w fun a1 w2 => ldI .i64 a1 w2 fun n3 => ldI .i64 (a1.add 1) w2 fun n4 => ldI .i64 (a1.add 2) w2 fun n5 => ldI .i64 (a1.add 3) w2 fun n6 => ldS (a1.add 4) w2 fun s7 => c_lang_sizes n3 n4 n5 n6 s7 w2 fun r8 w9 => iteB ((r8 : Int) != 0)
  (K ⟨none, 0, 0⟩ r8 w9)
  (ldS (a1.add 4) w9 fun s10 => loopP (σ := Int × Unit) (fun st12 next11 w13 => (fun (x14 : Int) => iteB (decide ((x14 : Int) < (s10.l : Int)))
  (idxP s10.a s10.l x14 2 fun a15 => ldI .i64 a15 w13 fun n16 => ldI .i64 (a15.add 1) w13 fun n17 => newP #[.int .i64 0, .int .i64 0] 60 w13 fun a18 w19 => stP a18 (.int .i64 n16) w19 fun w20 => stP (a18.add 1) (.int .i64 n17) w20 fun w21 => ldI .i64 a18 w21 fun n22 => c_lang_within n22 36 w21 fun r23 w24 => iteB (!r23)
  (K ⟨none, 0, 0⟩ 31 w24)
  (ldI .i64 a1 w24 fun n25 => ldI .i64 (a1.add 1) w24 fun n26 => ldI .i64 (a1.add 2) w24 fun n27 => ldI .i64 (a1.add 3) w24 fun n28 => ldS (a1.add 4) w24 fun s29 => c_lang_argument n25 n26 n27 n28 s29 x14 w24 fun r30 w31 => iteB ((r30 : Int) != 0)
  (K ⟨none, 0, 0⟩ r30 w31)
  (next11 ((IntKind.i64.wrap (x14 + 1)), ()) w31)))
  (ldS (a1.add 4) w13 fun s32 => mkP Try.prog 29 (.int .i64 (IntKind.i64.wrap ((s32.l : Int) + 1))) (.int .i64 (IntKind.i64.wrap ((s32.l : Int) + 1))) w13 fun s33 w34 => loopP (σ := Int × Unit) (fun st36 next35 w37 => (fun (x38 : Int) => iteB (decide ((x38 : Int) < (s33.l : Int)))
  (idxP s33.a s33.l x38 1 fun a39 => stP a39 (.int .i64 (-1)) w37 fun w40 => next35 ((IntKind.i64.wrap (x38 + 1)), ()) w40)
  (idxP s33.a s33.l 0 1 fun a41 => stP a41 (.int .i64 0) w37 fun w42 => ldS (a1.add 4) w42 fun s43 => loopP (σ := Bool × Int × Unit) (fun st45 next44 w46 => (fun (x47 : Bool) (x48 : Int) => iteB (decide ((x48 : Int) < (s43.l : Int)))
  (idxP s43.a s43.l x48 2 fun a49 => ldI .i64 a49 w46 fun n50 => ldI .i64 (a49.add 1) w46 fun n51 => newP #[.int .i64 0, .int .i64 0] 60 w46 fun a52 w53 => stP a52 (.int .i64 n50) w53 fun w54 => stP (a52.add 1) (.int .i64 n51) w54 fun w55 => idxP s33.a s33.l x48 1 fun a56 => ldI .i64 a56 w55 fun n57 => iteB (decide ((n57 : Int) < 0))
  (next44 (x47, (IntKind.i64.wrap (x48 + 1)), ()) w55)
  (ldI .i64 a52 w55 fun n58 => c_lang_moves n58 w55 fun r59 r60 w61 => iteB (decide ((n57 : Int) < r59))
  (K ⟨none, 0, 0⟩ 34 w61)
  (iteB (decide (((IntKind.i64.wrap ((IntKind.i64.wrap (n57 - r59)) + r60)) : Int) > 32))
  (K ⟨none, 0, 0⟩ 34 w61)
  (ldI .i64 a52 w61 fun n62 => ldI .i64 (a52.add 1) w61 fun n63 => c_lang_ways n62 n63 x48 w61 fun r64 w65 => loopP (σ := Bool × Int × Unit) (fun st67 next66 w68 => (fun (x69 : Bool) (x70 : Int) => iteB (decide ((x70 : Int) < (r64.l : Int)))
  (idxP r64.a r64.l x70 1 fun a71 => ldI .i64 a71 w68 fun n72 => idxP s33.a s33.l n72 1 fun a73 => ldI .i64 a73 w68 fun n74 => iteB (decide ((n74 : Int) ≥ 0))
  (idxP s33.a s33.l n72 1 fun a75 => ldI .i64 a75 w68 fun n76 => iteB ((n76 : Int) != (IntKind.i64.wrap ((IntKind.i64.wrap (n57 - r59)) + r60)))
  (K ⟨none, 0, 0⟩ 34 w68)
  (idxP s33.a s33.l n72 1 fun a77 => stP a77 (.int .i64 (IntKind.i64.wrap ((IntKind.i64.wrap (n57 - r59)) + r60))) w68 fun w78 => next66 (x69, (IntKind.i64.wrap (x70 + 1)), ()) w78))
  (idxP s33.a s33.l n72 1 fun a79 => stP a79 (.int .i64 (IntKind.i64.wrap ((IntKind.i64.wrap (n57 - r59)) + r60))) w68 fun w80 => next66 (x69, (IntKind.i64.wrap (x70 + 1)), ()) w80))
  (next44 (x69, (IntKind.i64.wrap (x48 + 1)), ()) w68)) st67.1 st67.2.1) (x47, 0, ()) w65))))
  (iteB x47
  (K ⟨none, 0, 0⟩ 34 w46)
  (K s33 0 w46))) st45.1 st45.2.1) (false, 0, ()) w42)) st36.1) (0, ()) w34)) st12.1) (0, ()) w9)

def c_lang_look (x_0_0 : Int) (x_0_1 : Int) (x_0_2 : Int) (x_0_3 : Int) (x_0_4 : Slc) (w : World) (K : Slc → Int → World → Prop) : Prop := Calls Try.prog 44 #[.agg #[.int .i64 x_0_0, .int .i64 x_0_1, .int .i64 x_0_2, .int .i64 x_0_3, .slice x_0_4.a x_0_4.l x_0_4.c]] w (onRet (fun v w' => ∃ (y0 : Slc), ∃ (y1 : Int), v = .tuple #[.slice y0.a y0.l y0.c, .int .i64 y1] ∧ K y0 y1 w'))

theorem sim_lang_look {x_0_0 : Int} {x_0_1 : Int} {x_0_2 : Int} {x_0_3 : Int} {x_0_4 : Slc} {w : World} {K : Slc → Int → World → Prop} (h : sh_lang_look c_lang_sizes c_lang_within c_lang_argument c_lang_moves c_lang_ways x_0_0 x_0_1 x_0_2 x_0_3 x_0_4 w K) : c_lang_look x_0_0 x_0_1 x_0_2 x_0_3 x_0_4 w K := by
  have e : sh_lang_look c_lang_sizes c_lang_within c_lang_argument c_lang_moves c_lang_ways x_0_0 x_0_1 x_0_2 x_0_3 x_0_4 w K = shF Try.prog 44 ⟨[], [(5, [(26, (.int .i64))], [1, 24, 25]), (15, [(49, (.int .i64))], [1, 8, 48]), (22, [(10, .b), (61, (.int .i64))], [8, 59, 60]), (30, [(10, .b), (93, (.int .i64))], [8, 13, 14, 15, 59, 60, 61, 91, 92])], []⟩ [.agg #[.int .i64 x_0_0, .int .i64 x_0_1, .int .i64 x_0_2, .int .i64 x_0_3, .slice x_0_4.a x_0_4.l x_0_4.c]] w (fun v w' => decT [(false, [.sl]), (false, [(.int .i64)])] v fun s => (fun (y0 : Slc) (y1 : Int) => K y0 y1 w') s.1 s.2.1) := by kernel_rfl
  exact Calls.mono (calls_of _ e h) (onRet_mono (fun _ _ h => by obtain ⟨s, h1, h2⟩ := decT_spec h; exact ⟨s.1, s.2.1, h1, h2⟩))

-- 26 prelude/lang.Verify; callees ['lang_look']
def sh_lang_Verify (c_lang_look : Int → Int → Int → Int → Slc → World → (Slc → Int → World → Prop) → Prop) (p_0_0 : Int) (p_0_1 : Int) (p_0_2 : Int) (p_0_3 : Int) (p_0_4 : Slc) (w : World) (K : Int → World → Prop) : Prop :=
  newP #[.int .i64 p_0_0, .int .i64 p_0_1, .int .i64 p_0_2, .int .i64 p_0_3, .slice p_0_4.a p_0_4.l p_0_4.c] 24 w fun a1 w2 => ldI .i64 a1 w2 fun n3 => ldI .i64 (a1.add 1) w2 fun n4 => ldI .i64 (a1.add 2) w2 fun n5 => ldI .i64 (a1.add 3) w2 fun n6 => ldS (a1.add 4) w2 fun s7 => c_lang_look n3 n4 n5 n6 s7 w2 fun r8 r9 w10 => K r9 w10

def c_lang_Verify (p_0_0 : Int) (p_0_1 : Int) (p_0_2 : Int) (p_0_3 : Int) (p_0_4 : Slc) (w : World) (K : Int → World → Prop) : Prop := Calls Try.prog 26 #[.agg #[.int .i64 p_0_0, .int .i64 p_0_1, .int .i64 p_0_2, .int .i64 p_0_3, .slice p_0_4.a p_0_4.l p_0_4.c]] w (onRet (fun v w' => ∃ (y0 : Int), v = .int .i64 y0 ∧ K y0 w'))

theorem sim_lang_Verify {p_0_0 : Int} {p_0_1 : Int} {p_0_2 : Int} {p_0_3 : Int} {p_0_4 : Slc} {w : World} {K : Int → World → Prop} (h : sh_lang_Verify c_lang_look p_0_0 p_0_1 p_0_2 p_0_3 p_0_4 w K) : c_lang_Verify p_0_0 p_0_1 p_0_2 p_0_3 p_0_4 w K := by
  have e : sh_lang_Verify c_lang_look p_0_0 p_0_1 p_0_2 p_0_3 p_0_4 w K = shF Try.prog 26 ⟨[], [], []⟩ [.agg #[.int .i64 p_0_0, .int .i64 p_0_1, .int .i64 p_0_2, .int .i64 p_0_3, .slice p_0_4.a p_0_4.l p_0_4.c]] w (fun v w' => decV (.int .i64) v fun y0 => K y0 w') := by kernel_rfl
  exact Calls.mono (calls_of _ e h) (onRet_mono (fun _ _ h => decV_spec h))

-- 27 slices.Clone[[]prelude/api.Instr,prelude/api.Instr]; callees []
def sh_slices_Clone_api_Instr_api_Instr (s_0 : Slc) (w : World) (K : Slc → World → Prop) : Prop :=
  iteB ((s_0.a).isNone)
  (K ⟨none, 0, 0⟩ w)
  (newP #[] 60 w fun a1 w2 => apP Try.prog #[22, 22] 22 [.slice (some a1) 0 0, .slice s_0.a s_0.l s_0.c] w2 fun s4 w3 => K s4 w3)

def c_slices_Clone_api_Instr_api_Instr (s_0 : Slc) (w : World) (K : Slc → World → Prop) : Prop := Calls Try.prog 27 #[.slice s_0.a s_0.l s_0.c] w (onRet (fun v w' => ∃ (y0 : Slc), v = .slice y0.a y0.l y0.c ∧ K y0 w'))

theorem sim_slices_Clone_api_Instr_api_Instr {s_0 : Slc} {w : World} {K : Slc → World → Prop} (h : sh_slices_Clone_api_Instr_api_Instr s_0 w K) : c_slices_Clone_api_Instr_api_Instr s_0 w K := by
  have e : sh_slices_Clone_api_Instr_api_Instr s_0 w K = shF Try.prog 27 ⟨[], [], []⟩ [.slice s_0.a s_0.l s_0.c] w (fun v w' => decV .sl v fun y0 => K y0 w') := by kernel_rfl
  exact Calls.mono (calls_of _ e h) (onRet_mono (fun _ _ h => decV_spec h))

-- 28 slices.Clone[[]int64,int64]; callees []
def sh_slices_Clone_int64_int64 (s_0 : Slc) (w : World) (K : Slc → World → Prop) : Prop :=
  iteB ((s_0.a).isNone)
  (K ⟨none, 0, 0⟩ w)
  (newP #[] 2 w fun a1 w2 => apP Try.prog #[25, 25] 25 [.slice (some a1) 0 0, .slice s_0.a s_0.l s_0.c] w2 fun s4 w3 => K s4 w3)

def c_slices_Clone_int64_int64 (s_0 : Slc) (w : World) (K : Slc → World → Prop) : Prop := Calls Try.prog 28 #[.slice s_0.a s_0.l s_0.c] w (onRet (fun v w' => ∃ (y0 : Slc), v = .slice y0.a y0.l y0.c ∧ K y0 w'))

theorem sim_slices_Clone_int64_int64 {s_0 : Slc} {w : World} {K : Slc → World → Prop} (h : sh_slices_Clone_int64_int64 s_0 w K) : c_slices_Clone_int64_int64 s_0 w K := by
  have e : sh_slices_Clone_int64_int64 s_0 w K = shF Try.prog 28 ⟨[], [], []⟩ [.slice s_0.a s_0.l s_0.c] w (fun v w' => decV .sl v fun y0 => K y0 w') := by kernel_rfl
  exact Calls.mono (calls_of _ e h) (onRet_mono (fun _ _ h => decV_spec h))

-- 29 slices.Clone[[]prelude/api.Cell,prelude/api.Cell]; callees []
def sh_slices_Clone_api_Cell_api_Cell (s_0 : Slc) (w : World) (K : Slc → World → Prop) : Prop :=
  iteB ((s_0.a).isNone)
  (K ⟨none, 0, 0⟩ w)
  (newP #[] 58 w fun a1 w2 => apP Try.prog #[26, 26] 26 [.slice (some a1) 0 0, .slice s_0.a s_0.l s_0.c] w2 fun s4 w3 => K s4 w3)

def c_slices_Clone_api_Cell_api_Cell (s_0 : Slc) (w : World) (K : Slc → World → Prop) : Prop := Calls Try.prog 29 #[.slice s_0.a s_0.l s_0.c] w (onRet (fun v w' => ∃ (y0 : Slc), v = .slice y0.a y0.l y0.c ∧ K y0 w'))

theorem sim_slices_Clone_api_Cell_api_Cell {s_0 : Slc} {w : World} {K : Slc → World → Prop} (h : sh_slices_Clone_api_Cell_api_Cell s_0 w K) : c_slices_Clone_api_Cell_api_Cell s_0 w K := by
  have e : sh_slices_Clone_api_Cell_api_Cell s_0 w K = shF Try.prog 29 ⟨[], [], []⟩ [.slice s_0.a s_0.l s_0.c] w (fun v w' => decV .sl v fun y0 => K y0 w') := by kernel_rfl
  exact Calls.mono (calls_of _ e h) (onRet_mono (fun _ _ h => decV_spec h))

-- 45 prelude/vm.plain; callees []
def sh_vm_plain (f_0 : Value) (w : World) (K : Fnv → World → Prop) : Prop :=
  newP f_0.cells 95 w fun a1 w2 => K ⟨.func 80, #[], #[.pointer (some a1)]⟩ w2

def c_vm_plain (f_0 : Value) (w : World) (K : Fnv → World → Prop) : Prop := Calls Try.prog 45 #[f_0] w (onRet (fun v w' => ∃ (y0 : Fnv), v = .func y0.f y0.fs y0.cs ∧ K y0 w'))

theorem sim_vm_plain {f_0 : Value} {w : World} {K : Fnv → World → Prop} (h : sh_vm_plain f_0 w K) : c_vm_plain f_0 w K := by
  have e : sh_vm_plain f_0 w K = shF Try.prog 45 ⟨[], [], []⟩ [f_0] w (fun v w' => decV .fn v fun y0 => K y0 w') := by kernel_rfl
  exact Calls.mono (calls_of _ e h) (onRet_mono (fun _ _ h => decV_spec h))

-- 49 prelude/vm.divides; callees []
def sh_vm_divides (f_0 : Value) (w : World) (K : Fnv → World → Prop) : Prop :=
  newP f_0.cells 95 w fun a1 w2 => K ⟨.func 81, #[], #[.pointer (some a1)]⟩ w2

def c_vm_divides (f_0 : Value) (w : World) (K : Fnv → World → Prop) : Prop := Calls Try.prog 49 #[f_0] w (onRet (fun v w' => ∃ (y0 : Fnv), v = .func y0.f y0.fs y0.cs ∧ K y0 w'))

theorem sim_vm_divides {f_0 : Value} {w : World} {K : Fnv → World → Prop} (h : sh_vm_divides f_0 w K) : c_vm_divides f_0 w K := by
  have e : sh_vm_divides f_0 w K = shF Try.prog 49 ⟨[], [], []⟩ [f_0] w (fun v w' => decV .fn v fun y0 => K y0 w') := by kernel_rfl
  exact Calls.mono (calls_of _ e h) (onRet_mono (fun _ _ h => decV_spec h))

-- 55 prelude/vm.shifts; callees []
def sh_vm_shifts (f_0 : Value) (w : World) (K : Fnv → World → Prop) : Prop :=
  newP f_0.cells 95 w fun a1 w2 => K ⟨.func 82, #[], #[.pointer (some a1)]⟩ w2

def c_vm_shifts (f_0 : Value) (w : World) (K : Fnv → World → Prop) : Prop := Calls Try.prog 55 #[f_0] w (onRet (fun v w' => ∃ (y0 : Fnv), v = .func y0.f y0.fs y0.cs ∧ K y0 w'))

theorem sim_vm_shifts {f_0 : Value} {w : World} {K : Fnv → World → Prop} (h : sh_vm_shifts f_0 w K) : c_vm_shifts f_0 w K := by
  have e : sh_vm_shifts f_0 w K = shF Try.prog 55 ⟨[], [], []⟩ [f_0] w (fun v w' => decV .fn v fun y0 => K y0 w') := by kernel_rfl
  exact Calls.mono (calls_of _ e h) (onRet_mono (fun _ _ h => decV_spec h))

-- 58 prelude/vm.asks; callees []
def sh_vm_asks (f_0 : Value) (w : World) (K : Fnv → World → Prop) : Prop :=
  newP f_0.cells 97 w fun a1 w2 => K ⟨.func 83, #[], #[.pointer (some a1)]⟩ w2

def c_vm_asks (f_0 : Value) (w : World) (K : Fnv → World → Prop) : Prop := Calls Try.prog 58 #[f_0] w (onRet (fun v w' => ∃ (y0 : Fnv), v = .func y0.f y0.fs y0.cs ∧ K y0 w'))

theorem sim_vm_asks {f_0 : Value} {w : World} {K : Fnv → World → Prop} (h : sh_vm_asks f_0 w K) : c_vm_asks f_0 w K := by
  have e : sh_vm_asks f_0 w K = shF Try.prog 58 ⟨[], [], []⟩ [f_0] w (fun v w' => decV .fn v fun y0 => K y0 w') := by kernel_rfl
  exact Calls.mono (calls_of _ e h) (onRet_mono (fun _ _ h => decV_spec h))

-- 30 prelude/vm.pairs; callees ['vm_plain', 'vm_divides', 'vm_shifts', 'vm_asks']
def sh_vm_pairs (c_vm_plain : Value → World → (Fnv → World → Prop) → Prop) (c_vm_divides : Value → World → (Fnv → World → Prop) → Prop) (c_vm_shifts : Value → World → (Fnv → World → Prop) → Prop) (c_vm_asks : Value → World → (Fnv → World → Prop) → Prop) (w : World) (K : Value → Value → Value → Value → Value → Value → Value → Value → Value → Value → Value → Value → Value → Value → Value → Value → Value → Value → Value → Value → Value → Value → Value → Value → Value → Value → Value → Value → Value → Value → Value → Value → Value → Value → Value → Value → Value → World → Prop) : Prop :=
  newP #[.nilFunc, .nilFunc, .nilFunc, .nilFunc, .nilFunc, .nilFunc, .nilFunc, .nilFunc, .nilFunc, .nilFunc, .nilFunc, .nilFunc, .nilFunc, .nilFunc, .nilFunc, .nilFunc, .nilFunc, .nilFunc, .nilFunc, .nilFunc, .nilFunc, .nilFunc, .nilFunc, .nilFunc, .nilFunc, .nilFunc, .nilFunc, .nilFunc, .nilFunc, .nilFunc, .nilFunc, .nilFunc, .nilFunc, .nilFunc, .nilFunc, .nilFunc, .nilFunc] 77 w fun a1 w2 => c_vm_plain (.func (.func 46) #[] #[]) w2 fun r3 w4 => c_vm_plain (.func (.func 47) #[] #[]) w4 fun r5 w6 => c_vm_plain (.func (.func 48) #[] #[]) w6 fun r7 w8 => c_vm_divides (.func (.func 50) #[] #[]) w8 fun r9 w10 => c_vm_divides (.func (.func 51) #[] #[]) w10 fun r11 w12 => c_vm_plain (.func (.func 52) #[] #[]) w12 fun r13 w14 => c_vm_plain (.func (.func 53) #[] #[]) w14 fun r15 w16 => c_vm_plain (.func (.func 54) #[] #[]) w16 fun r17 w18 => c_vm_shifts (.func (.func 56) #[] #[]) w18 fun r19 w20 => c_vm_shifts (.func (.func 57) #[] #[]) w20 fun r21 w22 => c_vm_asks (.func (.func 59) #[] #[]) w22 fun r23 w24 => c_vm_asks (.func (.func 60) #[] #[]) w24 fun r25 w26 => c_vm_asks (.func (.func 61) #[] #[]) w26 fun r27 w28 => c_vm_asks (.func (.func 62) #[] #[]) w28 fun r29 w30 => c_vm_asks (.func (.func 63) #[] #[]) w30 fun r31 w32 => c_vm_asks (.func (.func 64) #[] #[]) w32 fun r33 w34 => c_vm_plain (.func (.func 65) #[] #[]) w34 fun r35 w36 => c_vm_plain (.func (.func 66) #[] #[]) w36 fun r37 w38 => stP a1 .nilFunc w38 fun w39 => stP (a1.add 1) .nilFunc w39 fun w40 => stP (a1.add 2) .nilFunc w40 fun w41 => stP (a1.add 3) .nilFunc w41 fun w42 => stP (a1.add 4) .nilFunc w42 fun w43 => stP (a1.add 5) .nilFunc w43 fun w44 => stP (a1.add 6) .nilFunc w44 fun w45 => stP (a1.add 7) .nilFunc w45 fun w46 => stP (a1.add 8) .nilFunc w46 fun w47 => stP (a1.add 9) .nilFunc w47 fun w48 => stP (a1.add 10) (.func r3.f r3.fs r3.cs) w48 fun w49 => stP (a1.add 11) (.func r5.f r5.fs r5.cs) w49 fun w50 => stP (a1.add 12) (.func r7.f r7.fs r7.cs) w50 fun w51 => stP (a1.add 13) (.func r9.f r9.fs r9.cs) w51 fun w52 => stP (a1.add 14) (.func r11.f r11.fs r11.cs) w52 fun w53 => stP (a1.add 15) (.func r13.f r13.fs r13.cs) w53 fun w54 => stP (a1.add 16) (.func r15.f r15.fs r15.cs) w54 fun w55 => stP (a1.add 17) (.func r17.f r17.fs r17.cs) w55 fun w56 => stP (a1.add 18) (.func r19.f r19.fs r19.cs) w56 fun w57 => stP (a1.add 19) (.func r21.f r21.fs r21.cs) w57 fun w58 => stP (a1.add 20) .nilFunc w58 fun w59 => stP (a1.add 21) .nilFunc w59 fun w60 => stP (a1.add 22) (.func r23.f r23.fs r23.cs) w60 fun w61 => stP (a1.add 23) (.func r25.f r25.fs r25.cs) w61 fun w62 => stP (a1.add 24) (.func r27.f r27.fs r27.cs) w62 fun w63 => stP (a1.add 25) (.func r29.f r29.fs r29.cs) w63 fun w64 => stP (a1.add 26) (.func r31.f r31.fs r31.cs) w64 fun w65 => stP (a1.add 27) (.func r33.f r33.fs r33.cs) w65 fun w66 => stP (a1.add 28) (.func r35.f r35.fs r35.cs) w66 fun w67 => stP (a1.add 29) (.func r37.f r37.fs r37.cs) w67 fun w68 => stP (a1.add 30) .nilFunc w68 fun w69 => stP (a1.add 31) .nilFunc w69 fun w70 => stP (a1.add 32) .nilFunc w70 fun w71 => stP (a1.add 33) .nilFunc w71 fun w72 => stP (a1.add 34) .nilFunc w72 fun w73 => stP (a1.add 35) .nilFunc w73 fun w74 => stP (a1.add 36) .nilFunc w74 fun w75 => ldV a1 w75 fun v76 => ldV (a1.add 1) w75 fun v77 => ldV (a1.add 2) w75 fun v78 => ldV (a1.add 3) w75 fun v79 => ldV (a1.add 4) w75 fun v80 => ldV (a1.add 5) w75 fun v81 => ldV (a1.add 6) w75 fun v82 => ldV (a1.add 7) w75 fun v83 => ldV (a1.add 8) w75 fun v84 => ldV (a1.add 9) w75 fun v85 => ldV (a1.add 10) w75 fun v86 => ldV (a1.add 11) w75 fun v87 => ldV (a1.add 12) w75 fun v88 => ldV (a1.add 13) w75 fun v89 => ldV (a1.add 14) w75 fun v90 => ldV (a1.add 15) w75 fun v91 => ldV (a1.add 16) w75 fun v92 => ldV (a1.add 17) w75 fun v93 => ldV (a1.add 18) w75 fun v94 => ldV (a1.add 19) w75 fun v95 => ldV (a1.add 20) w75 fun v96 => ldV (a1.add 21) w75 fun v97 => ldV (a1.add 22) w75 fun v98 => ldV (a1.add 23) w75 fun v99 => ldV (a1.add 24) w75 fun v100 => ldV (a1.add 25) w75 fun v101 => ldV (a1.add 26) w75 fun v102 => ldV (a1.add 27) w75 fun v103 => ldV (a1.add 28) w75 fun v104 => ldV (a1.add 29) w75 fun v105 => ldV (a1.add 30) w75 fun v106 => ldV (a1.add 31) w75 fun v107 => ldV (a1.add 32) w75 fun v108 => ldV (a1.add 33) w75 fun v109 => ldV (a1.add 34) w75 fun v110 => ldV (a1.add 35) w75 fun v111 => ldV (a1.add 36) w75 fun v112 => K v76 v77 v78 v79 v80 v81 v82 v83 v84 v85 v86 v87 v88 v89 v90 v91 v92 v93 v94 v95 v96 v97 v98 v99 v100 v101 v102 v103 v104 v105 v106 v107 v108 v109 v110 v111 v112 w75

def c_vm_pairs (w : World) (K : Value → Value → Value → Value → Value → Value → Value → Value → Value → Value → Value → Value → Value → Value → Value → Value → Value → Value → Value → Value → Value → Value → Value → Value → Value → Value → Value → Value → Value → Value → Value → Value → Value → Value → Value → Value → Value → World → Prop) : Prop := Calls Try.prog 30 #[] w (onRet (fun v w' => ∃ (y0 : Value), ∃ (y1 : Value), ∃ (y2 : Value), ∃ (y3 : Value), ∃ (y4 : Value), ∃ (y5 : Value), ∃ (y6 : Value), ∃ (y7 : Value), ∃ (y8 : Value), ∃ (y9 : Value), ∃ (y10 : Value), ∃ (y11 : Value), ∃ (y12 : Value), ∃ (y13 : Value), ∃ (y14 : Value), ∃ (y15 : Value), ∃ (y16 : Value), ∃ (y17 : Value), ∃ (y18 : Value), ∃ (y19 : Value), ∃ (y20 : Value), ∃ (y21 : Value), ∃ (y22 : Value), ∃ (y23 : Value), ∃ (y24 : Value), ∃ (y25 : Value), ∃ (y26 : Value), ∃ (y27 : Value), ∃ (y28 : Value), ∃ (y29 : Value), ∃ (y30 : Value), ∃ (y31 : Value), ∃ (y32 : Value), ∃ (y33 : Value), ∃ (y34 : Value), ∃ (y35 : Value), ∃ (y36 : Value), v = .agg #[y0, y1, y2, y3, y4, y5, y6, y7, y8, y9, y10, y11, y12, y13, y14, y15, y16, y17, y18, y19, y20, y21, y22, y23, y24, y25, y26, y27, y28, y29, y30, y31, y32, y33, y34, y35, y36] ∧ K y0 y1 y2 y3 y4 y5 y6 y7 y8 y9 y10 y11 y12 y13 y14 y15 y16 y17 y18 y19 y20 y21 y22 y23 y24 y25 y26 y27 y28 y29 y30 y31 y32 y33 y34 y35 y36 w'))

theorem sim_vm_pairs {w : World} {K : Value → Value → Value → Value → Value → Value → Value → Value → Value → Value → Value → Value → Value → Value → Value → Value → Value → Value → Value → Value → Value → Value → Value → Value → Value → Value → Value → Value → Value → Value → Value → Value → Value → Value → Value → Value → Value → World → Prop} (h : sh_vm_pairs c_vm_plain c_vm_divides c_vm_shifts c_vm_asks w K) : c_vm_pairs  w K := by
  have e : sh_vm_pairs c_vm_plain c_vm_divides c_vm_shifts c_vm_asks w K = shF Try.prog 30 ⟨[], [], []⟩ [] w (fun v w' => decA [.any, .any, .any, .any, .any, .any, .any, .any, .any, .any, .any, .any, .any, .any, .any, .any, .any, .any, .any, .any, .any, .any, .any, .any, .any, .any, .any, .any, .any, .any, .any, .any, .any, .any, .any, .any, .any] v fun s => (fun (y0 : Value) (y1 : Value) (y2 : Value) (y3 : Value) (y4 : Value) (y5 : Value) (y6 : Value) (y7 : Value) (y8 : Value) (y9 : Value) (y10 : Value) (y11 : Value) (y12 : Value) (y13 : Value) (y14 : Value) (y15 : Value) (y16 : Value) (y17 : Value) (y18 : Value) (y19 : Value) (y20 : Value) (y21 : Value) (y22 : Value) (y23 : Value) (y24 : Value) (y25 : Value) (y26 : Value) (y27 : Value) (y28 : Value) (y29 : Value) (y30 : Value) (y31 : Value) (y32 : Value) (y33 : Value) (y34 : Value) (y35 : Value) (y36 : Value) => K y0 y1 y2 y3 y4 y5 y6 y7 y8 y9 y10 y11 y12 y13 y14 y15 y16 y17 y18 y19 y20 y21 y22 y23 y24 y25 y26 y27 y28 y29 y30 y31 y32 y33 y34 y35 y36 w') s.1 s.2.1 s.2.2.1 s.2.2.2.1 s.2.2.2.2.1 s.2.2.2.2.2.1 s.2.2.2.2.2.2.1 s.2.2.2.2.2.2.2.1 s.2.2.2.2.2.2.2.2.1 s.2.2.2.2.2.2.2.2.2.1 s.2.2.2.2.2.2.2.2.2.2.1 s.2.2.2.2.2.2.2.2.2.2.2.1 s.2.2.2.2.2.2.2.2.2.2.2.2.1 s.2.2.2.2.2.2.2.2.2.2.2.2.2.1 s.2.2.2.2.2.2.2.2.2.2.2.2.2.2.1 s.2.2.2.2.2.2.2.2.2.2.2.2.2.2.2.1 s.2.2.2.2.2.2.2.2.2.2.2.2.2.2.2.2.1 s.2.2.2.2.2.2.2.2.2.2.2.2.2.2.2.2.2.1 s.2.2.2.2.2.2.2.2.2.2.2.2.2.2.2.2.2.2.1 s.2.2.2.2.2.2.2.2.2.2.2.2.2.2.2.2.2.2.2.1 s.2.2.2.2.2.2.2.2.2.2.2.2.2.2.2.2.2.2.2.2.1 s.2.2.2.2.2.2.2.2.2.2.2.2.2.2.2.2.2.2.2.2.2.1 s.2.2.2.2.2.2.2.2.2.2.2.2.2.2.2.2.2.2.2.2.2.2.1 s.2.2.2.2.2.2.2.2.2.2.2.2.2.2.2.2.2.2.2.2.2.2.2.1 s.2.2.2.2.2.2.2.2.2.2.2.2.2.2.2.2.2.2.2.2.2.2.2.2.1 s.2.2.2.2.2.2.2.2.2.2.2.2.2.2.2.2.2.2.2.2.2.2.2.2.2.1 s.2.2.2.2.2.2.2.2.2.2.2.2.2.2.2.2.2.2.2.2.2.2.2.2.2.2.1 s.2.2.2.2.2.2.2.2.2.2.2.2.2.2.2.2.2.2.2.2.2.2.2.2.2.2.2.1 s.2.2.2.2.2.2.2.2.2.2.2.2.2.2.2.2.2.2.2.2.2.2.2.2.2.2.2.2.1 s.2.2.2.2.2.2.2.2.2.2.2.2.2.2.2.2.2.2.2.2.2.2.2.2.2.2.2.2.2.1 s.2.2.2.2.2.2.2.2.2.2.2.2.2.2.2.2.2.2.2.2.2.2.2.2.2.2.2.2.2.2.1 s.2.2.2.2.2.2.2.2.2.2.2.2.2.2.2.2.2.2.2.2.2.2.2.2.2.2.2.2.2.2.2.1 s.2.2.2.2.2.2.2.2.2.2.2.2.2.2.2.2.2.2.2.2.2.2.2.2.2.2.2.2.2.2.2.2.1 s.2.2.2.2.2.2.2.2.2.2.2.2.2.2.2.2.2.2.2.2.2.2.2.2.2.2.2.2.2.2.2.2.2.1 s.2.2.2.2.2.2.2.2.2.2.2.2.2.2.2.2.2.2.2.2.2.2.2.2.2.2.2.2.2.2.2.2.2.2.1 s.2.2.2.2.2.2.2.2.2.2.2.2.2.2.2.2.2.2.2.2.2.2.2.2.2.2.2.2.2.2.2.2.2.2.2.1 s.2.2.2.2.2.2.2.2.2.2.2.2.2.2.2.2.2.2.2.2.2.2.2.2.2.2.2.2.2.2.2.2.2.2.2.2.1) := by kernel_rfl
  exact Calls.mono (calls_of _ e h) (onRet_mono (fun _ _ h => by obtain ⟨s, h1, h2⟩ := decA_spec h; exact ⟨s.1, s.2.1, s.2.2.1, s.2.2.2.1, s.2.2.2.2.1, s.2.2.2.2.2.1, s.2.2.2.2.2.2.1, s.2.2.2.2.2.2.2.1, s.2.2.2.2.2.2.2.2.1, s.2.2.2.2.2.2.2.2.2.1, s.2.2.2.2.2.2.2.2.2.2.1, s.2.2.2.2.2.2.2.2.2.2.2.1, s.2.2.2.2.2.2.2.2.2.2.2.2.1, s.2.2.2.2.2.2.2.2.2.2.2.2.2.1, s.2.2.2.2.2.2.2.2.2.2.2.2.2.2.1, s.2.2.2.2.2.2.2.2.2.2.2.2.2.2.2.1, s.2.2.2.2.2.2.2.2.2.2.2.2.2.2.2.2.1, s.2.2.2.2.2.2.2.2.2.2.2.2.2.2.2.2.2.1, s.2.2.2.2.2.2.2.2.2.2.2.2.2.2.2.2.2.2.1, s.2.2.2.2.2.2.2.2.2.2.2.2.2.2.2.2.2.2.2.1, s.2.2.2.2.2.2.2.2.2.2.2.2.2.2.2.2.2.2.2.2.1, s.2.2.2.2.2.2.2.2.2.2.2.2.2.2.2.2.2.2.2.2.2.1, s.2.2.2.2.2.2.2.2.2.2.2.2.2.2.2.2.2.2.2.2.2.2.1, s.2.2.2.2.2.2.2.2.2.2.2.2.2.2.2.2.2.2.2.2.2.2.2.1, s.2.2.2.2.2.2.2.2.2.2.2.2.2.2.2.2.2.2.2.2.2.2.2.2.1, s.2.2.2.2.2.2.2.2.2.2.2.2.2.2.2.2.2.2.2.2.2.2.2.2.2.1, s.2.2.2.2.2.2.2.2.2.2.2.2.2.2.2.2.2.2.2.2.2.2.2.2.2.2.1, s.2.2.2.2.2.2.2.2.2.2.2.2.2.2.2.2.2.2.2.2.2.2.2.2.2.2.2.1, s.2.2.2.2.2.2.2.2.2.2.2.2.2.2.2.2.2.2.2.2.2.2.2.2.2.2.2.2.1, s.2.2.2.2.2.2.2.2.2.2.2.2.2.2.2.2.2.2.2.2.2.2.2.2.2.2.2.2.2.1, s.2.2.2.2.2.2.2.2.2.2.2.2.2.2.2.2.2.2.2.2.2.2.2.2.2.2.2.2.2.2.1, s.2.2.2.2.2.2.2.2.2.2.2.2.2.2.2.2.2.2.2.2.2.2.2.2.2.2.2.2.2.2.2.1, s.2.2.2.2.2.2.2.2.2.2.2.2.2.2.2.2.2.2.2.2.2.2.2.2.2.2.2.2.2.2.2.2.1, s.2.2.2.2.2.2.2.2.2.2.2.2.2.2.2.2.2.2.2.2.2.2.2.2.2.2.2.2.2.2.2.2.2.1, s.2.2.2.2.2.2.2.2.2.2.2.2.2.2.2.2.2.2.2.2.2.2.2.2.2.2.2.2.2.2.2.2.2.2.1, s.2.2.2.2.2.2.2.2.2.2.2.2.2.2.2.2.2.2.2.2.2.2.2.2.2.2.2.2.2.2.2.2.2.2.2.1, s.2.2.2.2.2.2.2.2.2.2.2.2.2.2.2.2.2.2.2.2.2.2.2.2.2.2.2.2.2.2.2.2.2.2.2.2.1, h1, h2⟩))

-- 10 prelude/vm.New; callees ['lang_Verify', 'slices_Clone_api_Instr_api_Instr', 'slices_Clone_int64_int64', 'slices_Clone_api_Cell_api_Cell', 'vm_pairs']
def sh_vm_New (c_lang_Verify : Int → Int → Int → Int → Slc → World → (Int → World → Prop) → Prop) (c_slices_Clone_api_Instr_api_Instr : Slc → World → (Slc → World → Prop) → Prop) (c_slices_Clone_int64_int64 : Slc → World → (Slc → World → Prop) → Prop) (c_slices_Clone_api_Cell_api_Cell : Slc → World → (Slc → World → Prop) → Prop) (c_vm_pairs : World → (Value → Value → Value → Value → Value → Value → Value → Value → Value → Value → Value → Value → Value → Value → Value → Value → Value → Value → Value → Value → Value → Value → Value → Value → Value → Value → Value → Value → Value → Value → Value → Value → Value → Value → Value → Value → Value → World → Prop) → Prop) (p_0_0 : Int) (p_0_1 : Int) (p_0_2 : Int) (p_0_3 : Int) (p_0_4 : Slc) (args_1 : Slc) (reads_2 : Slc) (w : World) (K : Option Addr → Int → World → Prop) : Prop :=
  newP #[.int .i64 p_0_0, .int .i64 p_0_1, .int .i64 p_0_2, .int .i64 p_0_3, .slice p_0_4.a p_0_4.l p_0_4.c] 24 w fun a1 w2 => ldI .i64 a1 w2 fun n3 => ldI .i64 (a1.add 1) w2 fun n4 => ldI .i64 (a1.add 2) w2 fun n5 => ldI .i64 (a1.add 3) w2 fun n6 => ldS (a1.add 4) w2 fun s7 => c_lang_Verify n3 n4 n5 n6 s7 w2 fun r8 w9 => iteB ((r8 : Int) != 0)
  (K none r8 w9)
  (ldI .i64 a1 w9 fun n10 => iteB (((args_1.l : Int) : Int) != n10)
  (K none 50 w9)
  (ldI .i64 (a1.add 1) w9 fun n11 => iteB (((reads_2.l : Int) : Int) != n11)
  (K none 50 w9)
  (ldS (a1.add 4) w9 fun s12 => c_slices_Clone_api_Instr_api_Instr s12 w9 fun r13 w14 => stP (a1.add 4) (.slice r13.a r13.l r13.c) w14 fun w15 => ldI .i64 a1 w15.drew fun n16 => ldI .i64 (a1.add 1) w15.drew fun n17 => ldI .i64 (a1.add 2) w15.drew fun n18 => ldI .i64 (a1.add 3) w15.drew fun n19 => ldS (a1.add 4) w15.drew fun s20 => c_slices_Clone_int64_int64 args_1 w15.drew fun r21 w22 => (w22.cell? a1 = some (.int .i64 n16) ∧ w22.cell? (a1.add 1) = some (.int .i64 n17) ∧ w22.cell? (a1.add 2) = some (.int .i64 n18) ∧ w22.cell? (a1.add 3) = some (.int .i64 n19) ∧ w22.cell? (a1.add 4) = some (.slice s20.a s20.l s20.c) ∧ True) ∧ (c_slices_Clone_api_Cell_api_Cell reads_2 w22 fun r23 w24 => (w24.cell? a1 = some (.int .i64 n16) ∧ w24.cell? (a1.add 1) = some (.int .i64 n17) ∧ w24.cell? (a1.add 2) = some (.int .i64 n18) ∧ w24.cell? (a1.add 3) = some (.int .i64 n19) ∧ w24.cell? (a1.add 4) = some (.slice s20.a s20.l s20.c) ∧ True) ∧ (c_vm_pairs  w24 fun r25 r26 r27 r28 r29 r30 r31 r32 r33 r34 r35 r36 r37 r38 r39 r40 r41 r42 r43 r44 r45 r46 r47 r48 r49 r50 r51 r52 r53 r54 r55 r56 r57 r58 r59 r60 r61 w62 => (w62.cell? a1 = some (.int .i64 n16) ∧ w62.cell? (a1.add 1) = some (.int .i64 n17) ∧ w62.cell? (a1.add 2) = some (.int .i64 n18) ∧ w62.cell? (a1.add 3) = some (.int .i64 n19) ∧ w62.cell? (a1.add 4) = some (.slice s20.a s20.l s20.c) ∧ True) ∧ (newP #[.int .i64 n16, .int .i64 n17, .int .i64 n18, .int .i64 n19, .slice s20.a s20.l s20.c, .slice r21.a r21.l r21.c, .slice r23.a r23.l r23.c, r25, r26, r27, r28, r29, r30, r31, r32, r33, r34, r35, r36, r37, r38, r39, r40, r41, r42, r43, r44, r45, r46, r47, r48, r49, r50, r51, r52, r53, r54, r55, r56, r57, r58, r59, r60, r61, .slice none 0 0, .slice none 0 0, .slice none 0 0, .slice none 0 0, .int .i64 0, .int .i64 0, .bool false, .int .i64 0, .int .i64 0] 80 w62 fun a63 w64 => ldI .i64 (a1.add 3) w64 fun n65 => mkP Try.prog 25 (.int .i64 n65) (.int .i64 n65) w64 fun s66 w67 => nnP (some a63) fun a68 => stP (a68.add 45) (.slice s66.a s66.l s66.c) w67 fun w69 => ldI .i64 (a1.add 2) w69 fun n70 => mkP Try.prog 46 (.int .i64 n70) (.int .i64 n70) w69 fun s71 w72 => nnP (some a63) fun a73 => stP (a73.add 47) (.slice s71.a s71.l s71.c) w72 fun w74 => ldS (a1.add 4) w74 fun s75 => nnP (some a63) fun a76 => stP (a76.add 50) (.bool (((s75.l : Int) : Int) == 0)) w74 fun w77 => K (some a63) 0 w77))))))

def c_vm_New (p_0_0 : Int) (p_0_1 : Int) (p_0_2 : Int) (p_0_3 : Int) (p_0_4 : Slc) (args_1 : Slc) (reads_2 : Slc) (w : World) (K : Option Addr → Int → World → Prop) : Prop := Calls Try.prog 10 #[.agg #[.int .i64 p_0_0, .int .i64 p_0_1, .int .i64 p_0_2, .int .i64 p_0_3, .slice p_0_4.a p_0_4.l p_0_4.c], .slice args_1.a args_1.l args_1.c, .slice reads_2.a reads_2.l reads_2.c] w (onRet (fun v w' => ∃ (y0 : Option Addr), ∃ (y1 : Int), v = .tuple #[.pointer y0, .int .i64 y1] ∧ K y0 y1 w'))

theorem sim_vm_New {p_0_0 : Int} {p_0_1 : Int} {p_0_2 : Int} {p_0_3 : Int} {p_0_4 : Slc} {args_1 : Slc} {reads_2 : Slc} {w : World} {K : Option Addr → Int → World → Prop} (h : sh_vm_New c_lang_Verify c_slices_Clone_api_Instr_api_Instr c_slices_Clone_int64_int64 c_slices_Clone_api_Cell_api_Cell c_vm_pairs p_0_0 p_0_1 p_0_2 p_0_3 p_0_4 args_1 reads_2 w K) : c_vm_New p_0_0 p_0_1 p_0_2 p_0_3 p_0_4 args_1 reads_2 w K := by
  have e : sh_vm_New c_lang_Verify c_slices_Clone_api_Instr_api_Instr c_slices_Clone_int64_int64 c_slices_Clone_api_Cell_api_Cell c_vm_pairs p_0_0 p_0_1 p_0_2 p_0_3 p_0_4 args_1 reads_2 w K = shF Try.prog 10 ⟨[(7, .of [0, 1, 3, 2, 4, 5, 6, 7, 8])], [], []⟩ [.agg #[.int .i64 p_0_0, .int .i64 p_0_1, .int .i64 p_0_2, .int .i64 p_0_3, .slice p_0_4.a p_0_4.l p_0_4.c], .slice args_1.a args_1.l args_1.c, .slice reads_2.a reads_2.l reads_2.c] w (fun v w' => decT [(false, [.ptr]), (false, [(.int .i64)])] v fun s => (fun (y0 : Option Addr) (y1 : Int) => K y0 y1 w') s.1 s.2.1) := by kernel_rfl
  exact Calls.mono (calls_of _ e h) (onRet_mono (fun _ _ h => by obtain ⟨s, h1, h2⟩ := decT_spec h; exact ⟨s.1, s.2.1, h1, h2⟩))

-- 84 prelude/preluderef03.limits; callees []
def sh_preluderef03_limits (p_0_0 : Int) (p_0_1 : Int) (p_0_2 : Int) (p_0_3 : Int) (p_0_4 : Slc) (w : World) (K : Bool → World → Prop) : Prop :=
  newP #[.int .i64 p_0_0, .int .i64 p_0_1, .int .i64 p_0_2, .int .i64 p_0_3, .slice p_0_4.a p_0_4.l p_0_4.c] 24 w fun a1 w2 => ldI .i64 a1 w2 fun n3 => iteB (decide ((n3 : Int) < 0))
  (K false w2)
  (ldI .i64 a1 w2 fun n4 => iteB (decide ((n4 : Int) > 16))
  (K false w2)
  (ldI .i64 (a1.add 1) w2 fun n5 => iteB (decide ((n5 : Int) < 0))
  (K false w2)
  (ldI .i64 (a1.add 1) w2 fun n6 => iteB (decide ((n6 : Int) > 16))
  (K false w2)
  (ldI .i64 (a1.add 2) w2 fun n7 => iteB (decide ((n7 : Int) < 0))
  (K false w2)
  (ldI .i64 (a1.add 2) w2 fun n8 => iteB (decide ((n8 : Int) > 16))
  (K false w2)
  (ldI .i64 (a1.add 3) w2 fun n9 => iteB (decide ((n9 : Int) ≥ 0))
  (ldI .i64 (a1.add 3) w2 fun n10 => iteB (decide ((n10 : Int) ≤ 16))
  (ldS (a1.add 4) w2 fun s11 => K (decide (((s11.l : Int) : Int) ≤ 256)) w2)
  (K false w2))
  (K false w2)))))))

def c_preluderef03_limits (p_0_0 : Int) (p_0_1 : Int) (p_0_2 : Int) (p_0_3 : Int) (p_0_4 : Slc) (w : World) (K : Bool → World → Prop) : Prop := Calls Try.prog 84 #[.agg #[.int .i64 p_0_0, .int .i64 p_0_1, .int .i64 p_0_2, .int .i64 p_0_3, .slice p_0_4.a p_0_4.l p_0_4.c]] w (onRet (fun v w' => ∃ (y0 : Bool), v = .bool y0 ∧ K y0 w'))

theorem sim_preluderef03_limits {p_0_0 : Int} {p_0_1 : Int} {p_0_2 : Int} {p_0_3 : Int} {p_0_4 : Slc} {w : World} {K : Bool → World → Prop} (h : sh_preluderef03_limits p_0_0 p_0_1 p_0_2 p_0_3 p_0_4 w K) : c_preluderef03_limits p_0_0 p_0_1 p_0_2 p_0_3 p_0_4 w K := by
  have e : sh_preluderef03_limits p_0_0 p_0_1 p_0_2 p_0_3 p_0_4 w K = shF Try.prog 84 ⟨[], [], []⟩ [.agg #[.int .i64 p_0_0, .int .i64 p_0_1, .int .i64 p_0_2, .int .i64 p_0_3, .slice p_0_4.a p_0_4.l p_0_4.c]] w (fun v w' => decV .b v fun y0 => K y0 w') := by kernel_rfl
  exact Calls.mono (calls_of _ e h) (onRet_mono (fun _ _ h => decV_spec h))

-- 89 prelude/preluderef03.names; callees []
def sh_preluderef03_names (w : World) (K : ByteArray → ByteArray → ByteArray → ByteArray → ByteArray → ByteArray → ByteArray → ByteArray → ByteArray → ByteArray → ByteArray → ByteArray → ByteArray → ByteArray → ByteArray → ByteArray → ByteArray → ByteArray → ByteArray → ByteArray → ByteArray → ByteArray → ByteArray → ByteArray → ByteArray → ByteArray → ByteArray → ByteArray → ByteArray → ByteArray → ByteArray → ByteArray → ByteArray → ByteArray → ByteArray → ByteArray → ByteArray → World → Prop) : Prop :=
  newP #[.string ByteArray.empty, .string ByteArray.empty, .string ByteArray.empty, .string ByteArray.empty, .string ByteArray.empty, .string ByteArray.empty, .string ByteArray.empty, .string ByteArray.empty, .string ByteArray.empty, .string ByteArray.empty, .string ByteArray.empty, .string ByteArray.empty, .string ByteArray.empty, .string ByteArray.empty, .string ByteArray.empty, .string ByteArray.empty, .string ByteArray.empty, .string ByteArray.empty, .string ByteArray.empty, .string ByteArray.empty, .string ByteArray.empty, .string ByteArray.empty, .string ByteArray.empty, .string ByteArray.empty, .string ByteArray.empty, .string ByteArray.empty, .string ByteArray.empty, .string ByteArray.empty, .string ByteArray.empty, .string ByteArray.empty, .string ByteArray.empty, .string ByteArray.empty, .string ByteArray.empty, .string ByteArray.empty, .string ByteArray.empty, .string ByteArray.empty, .string ByteArray.empty] 118 w fun a1 w2 => stP a1 (.string (ByteArray.mk #[115, 116, 111, 112])) w2 fun w3 => stP (a1.add 1) (.string (ByteArray.mk #[112, 117, 115, 104])) w3 fun w4 => stP (a1.add 2) (.string (ByteArray.mk #[112, 111, 112])) w4 fun w5 => stP (a1.add 3) (.string (ByteArray.mk #[100, 117, 112])) w5 fun w6 => stP (a1.add 4) (.string (ByteArray.mk #[108, 111, 97, 100])) w6 fun w7 => stP (a1.add 5) (.string (ByteArray.mk #[115, 97, 118, 101])) w7 fun w8 => stP (a1.add 6) (.string (ByteArray.mk #[97, 114, 103])) w8 fun w9 => stP (a1.add 7) (.string (ByteArray.mk #[103, 101, 116])) w9 fun w10 => stP (a1.add 8) (.string (ByteArray.mk #[104, 97, 115])) w10 fun w11 => stP (a1.add 9) (.string (ByteArray.mk #[103, 101, 116, 120])) w11 fun w12 => stP (a1.add 10) (.string (ByteArray.mk #[97, 100, 100])) w12 fun w13 => stP (a1.add 11) (.string (ByteArray.mk #[115, 117, 98])) w13 fun w14 => stP (a1.add 12) (.string (ByteArray.mk #[109, 117, 108])) w14 fun w15 => stP (a1.add 13) (.string (ByteArray.mk #[100, 105, 118])) w15 fun w16 => stP (a1.add 14) (.string (ByteArray.mk #[109, 111, 100])) w16 fun w17 => stP (a1.add 15) (.string (ByteArray.mk #[97, 110, 100])) w17 fun w18 => stP (a1.add 16) (.string (ByteArray.mk #[111, 114])) w18 fun w19 => stP (a1.add 17) (.string (ByteArray.mk #[120, 111, 114])) w19 fun w20 => stP (a1.add 18) (.string (ByteArray.mk #[115, 104, 108])) w20 fun w21 => stP (a1.add 19) (.string (ByteArray.mk #[115, 104, 114])) w21 fun w22 => stP (a1.add 20) (.string (ByteArray.mk #[110, 101, 103])) w22 fun w23 => stP (a1.add 21) (.string (ByteArray.mk #[110, 111, 116])) w23 fun w24 => stP (a1.add 22) (.string (ByteArray.mk #[101, 113])) w24 fun w25 => stP (a1.add 23) (.string (ByteArray.mk #[110, 101])) w25 fun w26 => stP (a1.add 24) (.string (ByteArray.mk #[108, 116])) w26 fun w27 => stP (a1.add 25) (.string (ByteArray.mk #[108, 101])) w27 fun w28 => stP (a1.add 26) (.string (ByteArray.mk #[103, 116])) w28 fun w29 => stP (a1.add 27) (.string (ByteArray.mk #[103, 101])) w29 fun w30 => stP (a1.add 28) (.string (ByteArray.mk #[109, 105, 110])) w30 fun w31 => stP (a1.add 29) (.string (ByteArray.mk #[109, 97, 120])) w31 fun w32 => stP (a1.add 30) (.string (ByteArray.mk #[106, 117, 109, 112])) w32 fun w33 => stP (a1.add 31) (.string (ByteArray.mk #[122, 101, 114, 111])) w33 fun w34 => stP (a1.add 32) (.string (ByteArray.mk #[112, 117, 116])) w34 fun w35 => stP (a1.add 33) (.string (ByteArray.mk #[100, 101, 108])) w35 fun w36 => stP (a1.add 34) (.string (ByteArray.mk #[112, 117, 116, 120])) w36 fun w37 => stP (a1.add 35) (.string (ByteArray.mk #[111, 117, 116])) w37 fun w38 => stP (a1.add 36) (.string (ByteArray.mk #[97, 98, 111, 114, 116])) w38 fun w39 => ldStr a1 w39 fun s40 => ldStr (a1.add 1) w39 fun s41 => ldStr (a1.add 2) w39 fun s42 => ldStr (a1.add 3) w39 fun s43 => ldStr (a1.add 4) w39 fun s44 => ldStr (a1.add 5) w39 fun s45 => ldStr (a1.add 6) w39 fun s46 => ldStr (a1.add 7) w39 fun s47 => ldStr (a1.add 8) w39 fun s48 => ldStr (a1.add 9) w39 fun s49 => ldStr (a1.add 10) w39 fun s50 => ldStr (a1.add 11) w39 fun s51 => ldStr (a1.add 12) w39 fun s52 => ldStr (a1.add 13) w39 fun s53 => ldStr (a1.add 14) w39 fun s54 => ldStr (a1.add 15) w39 fun s55 => ldStr (a1.add 16) w39 fun s56 => ldStr (a1.add 17) w39 fun s57 => ldStr (a1.add 18) w39 fun s58 => ldStr (a1.add 19) w39 fun s59 => ldStr (a1.add 20) w39 fun s60 => ldStr (a1.add 21) w39 fun s61 => ldStr (a1.add 22) w39 fun s62 => ldStr (a1.add 23) w39 fun s63 => ldStr (a1.add 24) w39 fun s64 => ldStr (a1.add 25) w39 fun s65 => ldStr (a1.add 26) w39 fun s66 => ldStr (a1.add 27) w39 fun s67 => ldStr (a1.add 28) w39 fun s68 => ldStr (a1.add 29) w39 fun s69 => ldStr (a1.add 30) w39 fun s70 => ldStr (a1.add 31) w39 fun s71 => ldStr (a1.add 32) w39 fun s72 => ldStr (a1.add 33) w39 fun s73 => ldStr (a1.add 34) w39 fun s74 => ldStr (a1.add 35) w39 fun s75 => ldStr (a1.add 36) w39 fun s76 => K s40 s41 s42 s43 s44 s45 s46 s47 s48 s49 s50 s51 s52 s53 s54 s55 s56 s57 s58 s59 s60 s61 s62 s63 s64 s65 s66 s67 s68 s69 s70 s71 s72 s73 s74 s75 s76 w39

def c_preluderef03_names (w : World) (K : ByteArray → ByteArray → ByteArray → ByteArray → ByteArray → ByteArray → ByteArray → ByteArray → ByteArray → ByteArray → ByteArray → ByteArray → ByteArray → ByteArray → ByteArray → ByteArray → ByteArray → ByteArray → ByteArray → ByteArray → ByteArray → ByteArray → ByteArray → ByteArray → ByteArray → ByteArray → ByteArray → ByteArray → ByteArray → ByteArray → ByteArray → ByteArray → ByteArray → ByteArray → ByteArray → ByteArray → ByteArray → World → Prop) : Prop := Calls Try.prog 89 #[] w (onRet (fun v w' => ∃ (y0 : ByteArray), ∃ (y1 : ByteArray), ∃ (y2 : ByteArray), ∃ (y3 : ByteArray), ∃ (y4 : ByteArray), ∃ (y5 : ByteArray), ∃ (y6 : ByteArray), ∃ (y7 : ByteArray), ∃ (y8 : ByteArray), ∃ (y9 : ByteArray), ∃ (y10 : ByteArray), ∃ (y11 : ByteArray), ∃ (y12 : ByteArray), ∃ (y13 : ByteArray), ∃ (y14 : ByteArray), ∃ (y15 : ByteArray), ∃ (y16 : ByteArray), ∃ (y17 : ByteArray), ∃ (y18 : ByteArray), ∃ (y19 : ByteArray), ∃ (y20 : ByteArray), ∃ (y21 : ByteArray), ∃ (y22 : ByteArray), ∃ (y23 : ByteArray), ∃ (y24 : ByteArray), ∃ (y25 : ByteArray), ∃ (y26 : ByteArray), ∃ (y27 : ByteArray), ∃ (y28 : ByteArray), ∃ (y29 : ByteArray), ∃ (y30 : ByteArray), ∃ (y31 : ByteArray), ∃ (y32 : ByteArray), ∃ (y33 : ByteArray), ∃ (y34 : ByteArray), ∃ (y35 : ByteArray), ∃ (y36 : ByteArray), v = .agg #[.string y0, .string y1, .string y2, .string y3, .string y4, .string y5, .string y6, .string y7, .string y8, .string y9, .string y10, .string y11, .string y12, .string y13, .string y14, .string y15, .string y16, .string y17, .string y18, .string y19, .string y20, .string y21, .string y22, .string y23, .string y24, .string y25, .string y26, .string y27, .string y28, .string y29, .string y30, .string y31, .string y32, .string y33, .string y34, .string y35, .string y36] ∧ K y0 y1 y2 y3 y4 y5 y6 y7 y8 y9 y10 y11 y12 y13 y14 y15 y16 y17 y18 y19 y20 y21 y22 y23 y24 y25 y26 y27 y28 y29 y30 y31 y32 y33 y34 y35 y36 w'))

theorem sim_preluderef03_names {w : World} {K : ByteArray → ByteArray → ByteArray → ByteArray → ByteArray → ByteArray → ByteArray → ByteArray → ByteArray → ByteArray → ByteArray → ByteArray → ByteArray → ByteArray → ByteArray → ByteArray → ByteArray → ByteArray → ByteArray → ByteArray → ByteArray → ByteArray → ByteArray → ByteArray → ByteArray → ByteArray → ByteArray → ByteArray → ByteArray → ByteArray → ByteArray → ByteArray → ByteArray → ByteArray → ByteArray → ByteArray → ByteArray → World → Prop} (h : sh_preluderef03_names w K) : c_preluderef03_names  w K := by
  have e : sh_preluderef03_names w K = shF Try.prog 89 ⟨[], [], []⟩ [] w (fun v w' => decA [.str, .str, .str, .str, .str, .str, .str, .str, .str, .str, .str, .str, .str, .str, .str, .str, .str, .str, .str, .str, .str, .str, .str, .str, .str, .str, .str, .str, .str, .str, .str, .str, .str, .str, .str, .str, .str] v fun s => (fun (y0 : ByteArray) (y1 : ByteArray) (y2 : ByteArray) (y3 : ByteArray) (y4 : ByteArray) (y5 : ByteArray) (y6 : ByteArray) (y7 : ByteArray) (y8 : ByteArray) (y9 : ByteArray) (y10 : ByteArray) (y11 : ByteArray) (y12 : ByteArray) (y13 : ByteArray) (y14 : ByteArray) (y15 : ByteArray) (y16 : ByteArray) (y17 : ByteArray) (y18 : ByteArray) (y19 : ByteArray) (y20 : ByteArray) (y21 : ByteArray) (y22 : ByteArray) (y23 : ByteArray) (y24 : ByteArray) (y25 : ByteArray) (y26 : ByteArray) (y27 : ByteArray) (y28 : ByteArray) (y29 : ByteArray) (y30 : ByteArray) (y31 : ByteArray) (y32 : ByteArray) (y33 : ByteArray) (y34 : ByteArray) (y35 : ByteArray) (y36 : ByteArray) => K y0 y1 y2 y3 y4 y5 y6 y7 y8 y9 y10 y11 y12 y13 y14 y15 y16 y17 y18 y19 y20 y21 y22 y23 y24 y25 y26 y27 y28 y29 y30 y31 y32 y33 y34 y35 y36 w') s.1 s.2.1 s.2.2.1 s.2.2.2.1 s.2.2.2.2.1 s.2.2.2.2.2.1 s.2.2.2.2.2.2.1 s.2.2.2.2.2.2.2.1 s.2.2.2.2.2.2.2.2.1 s.2.2.2.2.2.2.2.2.2.1 s.2.2.2.2.2.2.2.2.2.2.1 s.2.2.2.2.2.2.2.2.2.2.2.1 s.2.2.2.2.2.2.2.2.2.2.2.2.1 s.2.2.2.2.2.2.2.2.2.2.2.2.2.1 s.2.2.2.2.2.2.2.2.2.2.2.2.2.2.1 s.2.2.2.2.2.2.2.2.2.2.2.2.2.2.2.1 s.2.2.2.2.2.2.2.2.2.2.2.2.2.2.2.2.1 s.2.2.2.2.2.2.2.2.2.2.2.2.2.2.2.2.2.1 s.2.2.2.2.2.2.2.2.2.2.2.2.2.2.2.2.2.2.1 s.2.2.2.2.2.2.2.2.2.2.2.2.2.2.2.2.2.2.2.1 s.2.2.2.2.2.2.2.2.2.2.2.2.2.2.2.2.2.2.2.2.1 s.2.2.2.2.2.2.2.2.2.2.2.2.2.2.2.2.2.2.2.2.2.1 s.2.2.2.2.2.2.2.2.2.2.2.2.2.2.2.2.2.2.2.2.2.2.1 s.2.2.2.2.2.2.2.2.2.2.2.2.2.2.2.2.2.2.2.2.2.2.2.1 s.2.2.2.2.2.2.2.2.2.2.2.2.2.2.2.2.2.2.2.2.2.2.2.2.1 s.2.2.2.2.2.2.2.2.2.2.2.2.2.2.2.2.2.2.2.2.2.2.2.2.2.1 s.2.2.2.2.2.2.2.2.2.2.2.2.2.2.2.2.2.2.2.2.2.2.2.2.2.2.1 s.2.2.2.2.2.2.2.2.2.2.2.2.2.2.2.2.2.2.2.2.2.2.2.2.2.2.2.1 s.2.2.2.2.2.2.2.2.2.2.2.2.2.2.2.2.2.2.2.2.2.2.2.2.2.2.2.2.1 s.2.2.2.2.2.2.2.2.2.2.2.2.2.2.2.2.2.2.2.2.2.2.2.2.2.2.2.2.2.1 s.2.2.2.2.2.2.2.2.2.2.2.2.2.2.2.2.2.2.2.2.2.2.2.2.2.2.2.2.2.2.1 s.2.2.2.2.2.2.2.2.2.2.2.2.2.2.2.2.2.2.2.2.2.2.2.2.2.2.2.2.2.2.2.1 s.2.2.2.2.2.2.2.2.2.2.2.2.2.2.2.2.2.2.2.2.2.2.2.2.2.2.2.2.2.2.2.2.1 s.2.2.2.2.2.2.2.2.2.2.2.2.2.2.2.2.2.2.2.2.2.2.2.2.2.2.2.2.2.2.2.2.2.1 s.2.2.2.2.2.2.2.2.2.2.2.2.2.2.2.2.2.2.2.2.2.2.2.2.2.2.2.2.2.2.2.2.2.2.1 s.2.2.2.2.2.2.2.2.2.2.2.2.2.2.2.2.2.2.2.2.2.2.2.2.2.2.2.2.2.2.2.2.2.2.2.1 s.2.2.2.2.2.2.2.2.2.2.2.2.2.2.2.2.2.2.2.2.2.2.2.2.2.2.2.2.2.2.2.2.2.2.2.2.1) := by kernel_rfl
  exact Calls.mono (calls_of _ e h) (onRet_mono (fun _ _ h => by obtain ⟨s, h1, h2⟩ := decA_spec h; exact ⟨s.1, s.2.1, s.2.2.1, s.2.2.2.1, s.2.2.2.2.1, s.2.2.2.2.2.1, s.2.2.2.2.2.2.1, s.2.2.2.2.2.2.2.1, s.2.2.2.2.2.2.2.2.1, s.2.2.2.2.2.2.2.2.2.1, s.2.2.2.2.2.2.2.2.2.2.1, s.2.2.2.2.2.2.2.2.2.2.2.1, s.2.2.2.2.2.2.2.2.2.2.2.2.1, s.2.2.2.2.2.2.2.2.2.2.2.2.2.1, s.2.2.2.2.2.2.2.2.2.2.2.2.2.2.1, s.2.2.2.2.2.2.2.2.2.2.2.2.2.2.2.1, s.2.2.2.2.2.2.2.2.2.2.2.2.2.2.2.2.1, s.2.2.2.2.2.2.2.2.2.2.2.2.2.2.2.2.2.1, s.2.2.2.2.2.2.2.2.2.2.2.2.2.2.2.2.2.2.1, s.2.2.2.2.2.2.2.2.2.2.2.2.2.2.2.2.2.2.2.1, s.2.2.2.2.2.2.2.2.2.2.2.2.2.2.2.2.2.2.2.2.1, s.2.2.2.2.2.2.2.2.2.2.2.2.2.2.2.2.2.2.2.2.2.1, s.2.2.2.2.2.2.2.2.2.2.2.2.2.2.2.2.2.2.2.2.2.2.1, s.2.2.2.2.2.2.2.2.2.2.2.2.2.2.2.2.2.2.2.2.2.2.2.1, s.2.2.2.2.2.2.2.2.2.2.2.2.2.2.2.2.2.2.2.2.2.2.2.2.1, s.2.2.2.2.2.2.2.2.2.2.2.2.2.2.2.2.2.2.2.2.2.2.2.2.2.1, s.2.2.2.2.2.2.2.2.2.2.2.2.2.2.2.2.2.2.2.2.2.2.2.2.2.2.1, s.2.2.2.2.2.2.2.2.2.2.2.2.2.2.2.2.2.2.2.2.2.2.2.2.2.2.2.1, s.2.2.2.2.2.2.2.2.2.2.2.2.2.2.2.2.2.2.2.2.2.2.2.2.2.2.2.2.1, s.2.2.2.2.2.2.2.2.2.2.2.2.2.2.2.2.2.2.2.2.2.2.2.2.2.2.2.2.2.1, s.2.2.2.2.2.2.2.2.2.2.2.2.2.2.2.2.2.2.2.2.2.2.2.2.2.2.2.2.2.2.1, s.2.2.2.2.2.2.2.2.2.2.2.2.2.2.2.2.2.2.2.2.2.2.2.2.2.2.2.2.2.2.2.1, s.2.2.2.2.2.2.2.2.2.2.2.2.2.2.2.2.2.2.2.2.2.2.2.2.2.2.2.2.2.2.2.2.1, s.2.2.2.2.2.2.2.2.2.2.2.2.2.2.2.2.2.2.2.2.2.2.2.2.2.2.2.2.2.2.2.2.2.1, s.2.2.2.2.2.2.2.2.2.2.2.2.2.2.2.2.2.2.2.2.2.2.2.2.2.2.2.2.2.2.2.2.2.2.1, s.2.2.2.2.2.2.2.2.2.2.2.2.2.2.2.2.2.2.2.2.2.2.2.2.2.2.2.2.2.2.2.2.2.2.2.1, s.2.2.2.2.2.2.2.2.2.2.2.2.2.2.2.2.2.2.2.2.2.2.2.2.2.2.2.2.2.2.2.2.2.2.2.2.1, h1, h2⟩))

-- 68 prelude/preluderef03.Spell; callees ['preluderef03_names']
def sh_preluderef03_Spell (c_preluderef03_names : World → (ByteArray → ByteArray → ByteArray → ByteArray → ByteArray → ByteArray → ByteArray → ByteArray → ByteArray → ByteArray → ByteArray → ByteArray → ByteArray → ByteArray → ByteArray → ByteArray → ByteArray → ByteArray → ByteArray → ByteArray → ByteArray → ByteArray → ByteArray → ByteArray → ByteArray → ByteArray → ByteArray → ByteArray → ByteArray → ByteArray → ByteArray → ByteArray → ByteArray → ByteArray → ByteArray → ByteArray → ByteArray → World → Prop) → Prop) (op_0 : Int) (w : World) (K : ByteArray → World → Prop) : Prop :=
  iteB (decide ((op_0 : Int) < 0))
  (K (ByteArray.mk #[]) w)
  (iteB (decide ((op_0 : Int) ≥ 37))
  (K (ByteArray.mk #[]) w)
  (c_preluderef03_names  w fun r1 r2 r3 r4 r5 r6 r7 r8 r9 r10 r11 r12 r13 r14 r15 r16 r17 r18 r19 r20 r21 r22 r23 r24 r25 r26 r27 r28 r29 r30 r31 r32 r33 r34 r35 r36 r37 w38 => newP #[.string ByteArray.empty, .string ByteArray.empty, .string ByteArray.empty, .string ByteArray.empty, .string ByteArray.empty, .string ByteArray.empty, .string ByteArray.empty, .string ByteArray.empty, .string ByteArray.empty, .string ByteArray.empty, .string ByteArray.empty, .string ByteArray.empty, .string ByteArray.empty, .string ByteArray.empty, .string ByteArray.empty, .string ByteArray.empty, .string ByteArray.empty, .string ByteArray.empty, .string ByteArray.empty, .string ByteArray.empty, .string ByteArray.empty, .string ByteArray.empty, .string ByteArray.empty, .string ByteArray.empty, .string ByteArray.empty, .string ByteArray.empty, .string ByteArray.empty, .string ByteArray.empty, .string ByteArray.empty, .string ByteArray.empty, .string ByteArray.empty, .string ByteArray.empty, .string ByteArray.empty, .string ByteArray.empty, .string ByteArray.empty, .string ByteArray.empty, .string ByteArray.empty] 118 w38 fun a39 w40 => stP a39 (.string r1) w40 fun w41 => stP (a39.add 1) (.string r2) w41 fun w42 => stP (a39.add 2) (.string r3) w42 fun w43 => stP (a39.add 3) (.string r4) w43 fun w44 => stP (a39.add 4) (.string r5) w44 fun w45 => stP (a39.add 5) (.string r6) w45 fun w46 => stP (a39.add 6) (.string r7) w46 fun w47 => stP (a39.add 7) (.string r8) w47 fun w48 => stP (a39.add 8) (.string r9) w48 fun w49 => stP (a39.add 9) (.string r10) w49 fun w50 => stP (a39.add 10) (.string r11) w50 fun w51 => stP (a39.add 11) (.string r12) w51 fun w52 => stP (a39.add 12) (.string r13) w52 fun w53 => stP (a39.add 13) (.string r14) w53 fun w54 => stP (a39.add 14) (.string r15) w54 fun w55 => stP (a39.add 15) (.string r16) w55 fun w56 => stP (a39.add 16) (.string r17) w56 fun w57 => stP (a39.add 17) (.string r18) w57 fun w58 => stP (a39.add 18) (.string r19) w58 fun w59 => stP (a39.add 19) (.string r20) w59 fun w60 => stP (a39.add 20) (.string r21) w60 fun w61 => stP (a39.add 21) (.string r22) w61 fun w62 => stP (a39.add 22) (.string r23) w62 fun w63 => stP (a39.add 23) (.string r24) w63 fun w64 => stP (a39.add 24) (.string r25) w64 fun w65 => stP (a39.add 25) (.string r26) w65 fun w66 => stP (a39.add 26) (.string r27) w66 fun w67 => stP (a39.add 27) (.string r28) w67 fun w68 => stP (a39.add 28) (.string r29) w68 fun w69 => stP (a39.add 29) (.string r30) w69 fun w70 => stP (a39.add 30) (.string r31) w70 fun w71 => stP (a39.add 31) (.string r32) w71 fun w72 => stP (a39.add 32) (.string r33) w72 fun w73 => stP (a39.add 33) (.string r34) w73 fun w74 => stP (a39.add 34) (.string r35) w74 fun w75 => stP (a39.add 35) (.string r36) w75 fun w76 => stP (a39.add 36) (.string r37) w76 fun w77 => arrP 37 op_0 (ldStr (a39.add (Int.toNat op_0 * 1)) w77 fun s78 => K s78 w77)))

def c_preluderef03_Spell (op_0 : Int) (w : World) (K : ByteArray → World → Prop) : Prop := Calls Try.prog 68 #[.int .i64 op_0] w (onRet (fun v w' => ∃ (y0 : ByteArray), v = .string y0 ∧ K y0 w'))

theorem sim_preluderef03_Spell {op_0 : Int} {w : World} {K : ByteArray → World → Prop} (h : sh_preluderef03_Spell c_preluderef03_names op_0 w K) : c_preluderef03_Spell op_0 w K := by
  have e : sh_preluderef03_Spell c_preluderef03_names op_0 w K = shF Try.prog 68 ⟨[], [], []⟩ [.int .i64 op_0] w (fun v w' => decV .str v fun y0 => K y0 w') := by kernel_rfl
  exact Calls.mono (calls_of _ e h) (onRet_mono (fun _ _ h => decV_spec h))

-- 85 prelude/preluderef03.is; callees ['preluderef03_Spell']
def sh_preluderef03_is (c_preluderef03_Spell : Int → World → (ByteArray → World → Prop) → Prop) (op_0 : Int) (a_1 : ByteArray) (b_2 : ByteArray) (c_3 : ByteArray) (d_4 : ByteArray) (w : World) (K : Bool → World → Prop) : Prop :=
  c_preluderef03_Spell op_0 w fun r1 w2 => iteB (!((r1).toList == (ByteArray.mk #[]).toList))
  (iteB ((r1).toList == (a_1).toList)
  (K true w2)
  (iteB ((r1).toList == (b_2).toList)
  (K true w2)
  (iteB ((r1).toList == (c_3).toList)
  (K true w2)
  (K ((r1).toList == (d_4).toList) w2))))
  (K false w2)

def c_preluderef03_is (op_0 : Int) (a_1 : ByteArray) (b_2 : ByteArray) (c_3 : ByteArray) (d_4 : ByteArray) (w : World) (K : Bool → World → Prop) : Prop := Calls Try.prog 85 #[.int .i64 op_0, .string a_1, .string b_2, .string c_3, .string d_4] w (onRet (fun v w' => ∃ (y0 : Bool), v = .bool y0 ∧ K y0 w'))

theorem sim_preluderef03_is {op_0 : Int} {a_1 : ByteArray} {b_2 : ByteArray} {c_3 : ByteArray} {d_4 : ByteArray} {w : World} {K : Bool → World → Prop} (h : sh_preluderef03_is c_preluderef03_Spell op_0 a_1 b_2 c_3 d_4 w K) : c_preluderef03_is op_0 a_1 b_2 c_3 d_4 w K := by
  have e : sh_preluderef03_is c_preluderef03_Spell op_0 a_1 b_2 c_3 d_4 w K = shF Try.prog 85 ⟨[], [], []⟩ [.int .i64 op_0, .string a_1, .string b_2, .string c_3, .string d_4] w (fun v w' => decV .b v fun y0 => K y0 w') := by kernel_rfl
  exact Calls.mono (calls_of _ e h) (onRet_mono (fun _ _ h => decV_spec h))

-- 86 prelude/preluderef03.argument; callees ['preluderef03_Spell']
def sh_preluderef03_argument (c_preluderef03_Spell : Int → World → (ByteArray → World → Prop) → Prop) (p_0_0 : Int) (p_0_1 : Int) (p_0_2 : Int) (p_0_3 : Int) (p_0_4 : Slc) (x_1_0 : Int) (x_1_1 : Int) (w : World) (K : Bool → World → Prop) : Prop :=
  newP #[.int .i64 p_0_0, .int .i64 p_0_1, .int .i64 p_0_2, .int .i64 p_0_3, .slice p_0_4.a p_0_4.l p_0_4.c] 24 w fun a1 w2 => newP #[.int .i64 x_1_0, .int .i64 x_1_1] 60 w2 fun a3 w4 => ldI .i64 a3 w4 fun n5 => c_preluderef03_Spell n5 w4 fun r6 w7 => iteB ((r6).toList == (ByteArray.mk #[112, 117, 115, 104]).toList)
  (K true w7)
  (iteB ((r6).toList == (ByteArray.mk #[106, 117, 109, 112]).toList)
  (K true w7)
  (iteB ((r6).toList == (ByteArray.mk #[122, 101, 114, 111]).toList)
  (K true w7)
  (iteB ((r6).toList == (ByteArray.mk #[108, 111, 97, 100]).toList)
  (ldI .i64 (a1.add 3) w7 fun n8 => ldI .i64 (a3.add 1) w7 fun n9 => iteB (decide ((n9 : Int) ≥ 0))
  (ldI .i64 (a3.add 1) w7 fun n10 => K (decide ((n10 : Int) < n8)) w7)
  (K false w7))
  (iteB ((r6).toList == (ByteArray.mk #[115, 97, 118, 101]).toList)
  (ldI .i64 (a1.add 3) w7 fun n11 => ldI .i64 (a3.add 1) w7 fun n12 => iteB (decide ((n12 : Int) ≥ 0))
  (ldI .i64 (a3.add 1) w7 fun n13 => K (decide ((n13 : Int) < n11)) w7)
  (K false w7))
  (iteB ((r6).toList == (ByteArray.mk #[97, 114, 103]).toList)
  (ldI .i64 a1 w7 fun n14 => ldI .i64 (a3.add 1) w7 fun n15 => iteB (decide ((n15 : Int) ≥ 0))
  (ldI .i64 (a3.add 1) w7 fun n16 => K (decide ((n16 : Int) < n14)) w7)
  (K false w7))
  (iteB ((r6).toList == (ByteArray.mk #[103, 101, 116]).toList)
  (ldI .i64 (a1.add 1) w7 fun n17 => ldI .i64 (a3.add 1) w7 fun n18 => iteB (decide ((n18 : Int) ≥ 0))
  (ldI .i64 (a3.add 1) w7 fun n19 => K (decide ((n19 : Int) < n17)) w7)
  (K false w7))
  (iteB ((r6).toList == (ByteArray.mk #[104, 97, 115]).toList)
  (ldI .i64 (a1.add 1) w7 fun n20 => ldI .i64 (a3.add 1) w7 fun n21 => iteB (decide ((n21 : Int) ≥ 0))
  (ldI .i64 (a3.add 1) w7 fun n22 => K (decide ((n22 : Int) < n20)) w7)
  (K false w7))
  (iteB ((r6).toList == (ByteArray.mk #[112, 117, 116]).toList)
  (ldI .i64 (a1.add 2) w7 fun n23 => ldI .i64 (a3.add 1) w7 fun n24 => iteB (decide ((n24 : Int) ≥ 0))
  (ldI .i64 (a3.add 1) w7 fun n25 => K (decide ((n25 : Int) < n23)) w7)
  (K false w7))
  (iteB ((r6).toList == (ByteArray.mk #[100, 101, 108]).toList)
  (ldI .i64 (a1.add 2) w7 fun n26 => ldI .i64 (a3.add 1) w7 fun n27 => iteB (decide ((n27 : Int) ≥ 0))
  (ldI .i64 (a3.add 1) w7 fun n28 => K (decide ((n28 : Int) < n26)) w7)
  (K false w7))
  (ldI .i64 (a3.add 1) w7 fun n29 => K ((n29 : Int) == 0) w7))))))))))

def c_preluderef03_argument (p_0_0 : Int) (p_0_1 : Int) (p_0_2 : Int) (p_0_3 : Int) (p_0_4 : Slc) (x_1_0 : Int) (x_1_1 : Int) (w : World) (K : Bool → World → Prop) : Prop := Calls Try.prog 86 #[.agg #[.int .i64 p_0_0, .int .i64 p_0_1, .int .i64 p_0_2, .int .i64 p_0_3, .slice p_0_4.a p_0_4.l p_0_4.c], .agg #[.int .i64 x_1_0, .int .i64 x_1_1]] w (onRet (fun v w' => ∃ (y0 : Bool), v = .bool y0 ∧ K y0 w'))

theorem sim_preluderef03_argument {p_0_0 : Int} {p_0_1 : Int} {p_0_2 : Int} {p_0_3 : Int} {p_0_4 : Slc} {x_1_0 : Int} {x_1_1 : Int} {w : World} {K : Bool → World → Prop} (h : sh_preluderef03_argument c_preluderef03_Spell p_0_0 p_0_1 p_0_2 p_0_3 p_0_4 x_1_0 x_1_1 w K) : c_preluderef03_argument p_0_0 p_0_1 p_0_2 p_0_3 p_0_4 x_1_0 x_1_1 w K := by
  have e : sh_preluderef03_argument c_preluderef03_Spell p_0_0 p_0_1 p_0_2 p_0_3 p_0_4 x_1_0 x_1_1 w K = shF Try.prog 86 ⟨[], [], []⟩ [.agg #[.int .i64 p_0_0, .int .i64 p_0_1, .int .i64 p_0_2, .int .i64 p_0_3, .slice p_0_4.a p_0_4.l p_0_4.c], .agg #[.int .i64 x_1_0, .int .i64 x_1_1]] w (fun v w' => decV .b v fun y0 => K y0 w') := by kernel_rfl
  exact Calls.mono (calls_of _ e h) (onRet_mono (fun _ _ h => decV_spec h))

-- 87 prelude/preluderef03.Takes; callees ['preluderef03_Spell']
def sh_preluderef03_Takes (c_preluderef03_Spell : Int → World → (ByteArray → World → Prop) → Prop) (op_0 : Int) (w : World) (K : Int → Int → World → Prop) : Prop :=
  c_preluderef03_Spell op_0 w fun r1 w2 => iteB ((r1).toList == (ByteArray.mk #[115, 116, 111, 112]).toList)
  (K 0 0 w2)
  (iteB ((r1).toList == (ByteArray.mk #[100, 101, 108]).toList)
  (K 0 0 w2)
  (iteB ((r1).toList == (ByteArray.mk #[106, 117, 109, 112]).toList)
  (K 0 0 w2)
  (iteB ((r1).toList == (ByteArray.mk #[112, 117, 115, 104]).toList)
  (K 0 1 w2)
  (iteB ((r1).toList == (ByteArray.mk #[108, 111, 97, 100]).toList)
  (K 0 1 w2)
  (iteB ((r1).toList == (ByteArray.mk #[97, 114, 103]).toList)
  (K 0 1 w2)
  (iteB ((r1).toList == (ByteArray.mk #[103, 101, 116]).toList)
  (K 0 1 w2)
  (iteB ((r1).toList == (ByteArray.mk #[104, 97, 115]).toList)
  (K 0 1 w2)
  (iteB ((r1).toList == (ByteArray.mk #[112, 111, 112]).toList)
  (K 1 0 w2)
  (iteB ((r1).toList == (ByteArray.mk #[115, 97, 118, 101]).toList)
  (K 1 0 w2)
  (iteB ((r1).toList == (ByteArray.mk #[122, 101, 114, 111]).toList)
  (K 1 0 w2)
  (iteB ((r1).toList == (ByteArray.mk #[112, 117, 116]).toList)
  (K 1 0 w2)
  (iteB ((r1).toList == (ByteArray.mk #[111, 117, 116]).toList)
  (K 1 0 w2)
  (iteB ((r1).toList == (ByteArray.mk #[97, 98, 111, 114, 116]).toList)
  (K 1 0 w2)
  (iteB ((r1).toList == (ByteArray.mk #[103, 101, 116, 120]).toList)
  (K 1 1 w2)
  (iteB ((r1).toList == (ByteArray.mk #[110, 101, 103]).toList)
  (K 1 1 w2)
  (iteB ((r1).toList == (ByteArray.mk #[110, 111, 116]).toList)
  (K 1 1 w2)
  (iteB ((r1).toList == (ByteArray.mk #[100, 117, 112]).toList)
  (K 1 2 w2)
  (iteB ((r1).toList == (ByteArray.mk #[112, 117, 116, 120]).toList)
  (K 2 0 w2)
  (K 2 1 w2)))))))))))))))))))

def c_preluderef03_Takes (op_0 : Int) (w : World) (K : Int → Int → World → Prop) : Prop := Calls Try.prog 87 #[.int .i64 op_0] w (onRet (fun v w' => ∃ (y0 : Int), ∃ (y1 : Int), v = .tuple #[.int .i64 y0, .int .i64 y1] ∧ K y0 y1 w'))

theorem sim_preluderef03_Takes {op_0 : Int} {w : World} {K : Int → Int → World → Prop} (h : sh_preluderef03_Takes c_preluderef03_Spell op_0 w K) : c_preluderef03_Takes op_0 w K := by
  have e : sh_preluderef03_Takes c_preluderef03_Spell op_0 w K = shF Try.prog 87 ⟨[], [], []⟩ [.int .i64 op_0] w (fun v w' => decT [(false, [(.int .i64)]), (false, [(.int .i64)])] v fun s => (fun (y0 : Int) (y1 : Int) => K y0 y1 w') s.1 s.2.1) := by kernel_rfl
  exact Calls.mono (calls_of _ e h) (onRet_mono (fun _ _ h => by obtain ⟨s, h1, h2⟩ := decT_spec h; exact ⟨s.1, s.2.1, h1, h2⟩))

-- 88 prelude/preluderef03.Next; callees ['preluderef03_Spell']
def sh_preluderef03_Next (c_preluderef03_Spell : Int → World → (ByteArray → World → Prop) → Prop) (p_0_0 : Int) (p_0_1 : Int) (p_0_2 : Int) (p_0_3 : Int) (p_0_4 : Slc) (at_1 : Int) (w : World) (K : Slc → World → Prop) : Prop :=
  newP #[.int .i64 p_0_0, .int .i64 p_0_1, .int .i64 p_0_2, .int .i64 p_0_3, .slice p_0_4.a p_0_4.l p_0_4.c] 24 w fun a1 w2 => ldS (a1.add 4) w2 fun s3 => idxP s3.a s3.l at_1 2 fun a4 => ldI .i64 a4 w2 fun n5 => ldI .i64 (a4.add 1) w2 fun n6 => newP #[.int .i64 0, .int .i64 0] 60 w2 fun a7 w8 => stP a7 (.int .i64 n5) w8 fun w9 => stP (a7.add 1) (.int .i64 n6) w9 fun w10 => ldI .i64 a7 w10 fun n11 => c_preluderef03_Spell n11 w10 fun r12 w13 => iteB ((r12).toList == (ByteArray.mk #[115, 116, 111, 112]).toList)
  (K ⟨none, 0, 0⟩ w13)
  (iteB ((r12).toList == (ByteArray.mk #[97, 98, 111, 114, 116]).toList)
  (K ⟨none, 0, 0⟩ w13)
  (iteB ((r12).toList == (ByteArray.mk #[106, 117, 109, 112]).toList)
  (ldI .i64 (a7.add 1) w13 fun n14 => newP #[.int .i64 n14] 3 w13 fun a15 w16 => K ⟨(some a15), 1, 1⟩ w16)
  (iteB ((r12).toList == (ByteArray.mk #[122, 101, 114, 111]).toList)
  (ldI .i64 (a7.add 1) w13 fun n17 => newP #[.int .i64 (IntKind.i64.wrap (at_1 + 1)), .int .i64 n17] 3 w13 fun a18 w19 => K ⟨(some a18), 2, 2⟩ w19)
  (newP #[.int .i64 (IntKind.i64.wrap (at_1 + 1))] 3 w13 fun a20 w21 => K ⟨(some a20), 1, 1⟩ w21))))

def c_preluderef03_Next (p_0_0 : Int) (p_0_1 : Int) (p_0_2 : Int) (p_0_3 : Int) (p_0_4 : Slc) (at_1 : Int) (w : World) (K : Slc → World → Prop) : Prop := Calls Try.prog 88 #[.agg #[.int .i64 p_0_0, .int .i64 p_0_1, .int .i64 p_0_2, .int .i64 p_0_3, .slice p_0_4.a p_0_4.l p_0_4.c], .int .i64 at_1] w (onRet (fun v w' => ∃ (y0 : Slc), v = .slice y0.a y0.l y0.c ∧ K y0 w'))

theorem sim_preluderef03_Next {p_0_0 : Int} {p_0_1 : Int} {p_0_2 : Int} {p_0_3 : Int} {p_0_4 : Slc} {at_1 : Int} {w : World} {K : Slc → World → Prop} (h : sh_preluderef03_Next c_preluderef03_Spell p_0_0 p_0_1 p_0_2 p_0_3 p_0_4 at_1 w K) : c_preluderef03_Next p_0_0 p_0_1 p_0_2 p_0_3 p_0_4 at_1 w K := by
  have e : sh_preluderef03_Next c_preluderef03_Spell p_0_0 p_0_1 p_0_2 p_0_3 p_0_4 at_1 w K = shF Try.prog 88 ⟨[], [], []⟩ [.agg #[.int .i64 p_0_0, .int .i64 p_0_1, .int .i64 p_0_2, .int .i64 p_0_3, .slice p_0_4.a p_0_4.l p_0_4.c], .int .i64 at_1] w (fun v w' => decV .sl v fun y0 => K y0 w') := by kernel_rfl
  exact Calls.mono (calls_of _ e h) (onRet_mono (fun _ _ h => decV_spec h))

-- 67 prelude/preluderef03.Depths; callees ['preluderef03_limits', 'preluderef03_is', 'preluderef03_argument', 'preluderef03_Takes', 'preluderef03_Next']
def sh_preluderef03_Depths (c_preluderef03_limits : Int → Int → Int → Int → Slc → World → (Bool → World → Prop) → Prop) (c_preluderef03_is : Int → ByteArray → ByteArray → ByteArray → ByteArray → World → (Bool → World → Prop) → Prop) (c_preluderef03_argument : Int → Int → Int → Int → Slc → Int → Int → World → (Bool → World → Prop) → Prop) (c_preluderef03_Takes : Int → World → (Int → Int → World → Prop) → Prop) (c_preluderef03_Next : Int → Int → Int → Int → Slc → Int → World → (Slc → World → Prop) → Prop) (x_0_0 : Int) (x_0_1 : Int) (x_0_2 : Int) (x_0_3 : Int) (x_0_4 : Slc) (w : World) (K : Slc → Int → World → Prop) : Prop :=
  newP #[.int .i64 x_0_0, .int .i64 x_0_1, .int .i64 x_0_2, .int .i64 x_0_3, .slice x_0_4.a x_0_4.l x_0_4.c] 24 w fun a1 w2 => ldI .i64 a1 w2 fun n3 => ldI .i64 (a1.add 1) w2 fun n4 => ldI .i64 (a1.add 2) w2 fun n5 => ldI .i64 (a1.add 3) w2 fun n6 => ldS (a1.add 4) w2 fun s7 => c_preluderef03_limits n3 n4 n5 n6 s7 w2 fun r8 w9 => iteB (!r8)
  (K ⟨none, 0, 0⟩ 30 w9)
  (loopP (σ := Int × Unit) (fun st11 next10 w12 => (fun (x13 : Int) => ldS (a1.add 4) w12 fun s14 => iteB (decide ((x13 : Int) < (s14.l : Int)))
  (ldS (a1.add 4) w12 fun s15 => idxP s15.a s15.l x13 2 fun a16 => ldI .i64 a16 w12 fun n17 => ldI .i64 (a16.add 1) w12 fun n18 => newP #[.int .i64 0, .int .i64 0] 60 w12 fun a19 w20 => stP a19 (.int .i64 n17) w20 fun w21 => stP (a19.add 1) (.int .i64 n18) w21 fun w22 => ldI .i64 a19 w22 fun n23 => iteB (decide ((n23 : Int) < 0))
  (K ⟨none, 0, 0⟩ 31 w22)
  (ldI .i64 a19 w22 fun n24 => iteB (decide ((n24 : Int) ≥ 37))
  (K ⟨none, 0, 0⟩ 31 w22)
  (ldI .i64 a19 w22 fun n25 => c_preluderef03_is n25 (ByteArray.mk #[106, 117, 109, 112]) (ByteArray.mk #[122, 101, 114, 111]) (ByteArray.mk #[]) (ByteArray.mk #[]) w22 fun r26 w27 => iteB r26
  (ldI .i64 (a19.add 1) w27 fun n28 => iteB (decide ((n28 : Int) ≤ x13))
  (K ⟨none, 0, 0⟩ 33 w27)
  (ldI .i64 (a19.add 1) w27 fun n29 => ldS (a1.add 4) w27 fun s30 => iteB (decide ((n29 : Int) > (s30.l : Int)))
  (K ⟨none, 0, 0⟩ 33 w27)
  (ldI .i64 a1 w27 fun n31 => ldI .i64 (a1.add 1) w27 fun n32 => ldI .i64 (a1.add 2) w27 fun n33 => ldI .i64 (a1.add 3) w27 fun n34 => ldS (a1.add 4) w27 fun s35 => ldI .i64 a19 w27 fun n36 => ldI .i64 (a19.add 1) w27 fun n37 => c_preluderef03_argument n31 n32 n33 n34 s35 n36 n37 w27 fun r38 w39 => iteB (!r38)
  (K ⟨none, 0, 0⟩ 32 w39)
  (next10 ((IntKind.i64.wrap (x13 + 1)), ()) w39))))
  (ldI .i64 a1 w27 fun n40 => ldI .i64 (a1.add 1) w27 fun n41 => ldI .i64 (a1.add 2) w27 fun n42 => ldI .i64 (a1.add 3) w27 fun n43 => ldS (a1.add 4) w27 fun s44 => ldI .i64 a19 w27 fun n45 => ldI .i64 (a19.add 1) w27 fun n46 => c_preluderef03_argument n40 n41 n42 n43 s44 n45 n46 w27 fun r47 w48 => iteB (!r47)
  (K ⟨none, 0, 0⟩ 32 w48)
  (next10 ((IntKind.i64.wrap (x13 + 1)), ()) w48)))))
  (newP #[.int .i64 0] 3 w12 fun a49 w50 => loopP (σ := Slc × Int × Unit) (fun st52 next51 w53 => (fun (x54 : Slc) (x55 : Int) => ldS (a1.add 4) w53 fun s56 => iteB (decide ((x55 : Int) < (s56.l : Int)))
  (newP #[.int .i64 (-1)] 3 w53 fun a57 w58 => apP Try.prog #[29, 29] 29 [.slice x54.a x54.l x54.c, .slice (some a57) 1 1] w58 fun s60 w59 => next51 (s60, (IntKind.i64.wrap (x55 + 1)), ()) w59)
  (loopP (σ := Int × Unit) (fun st62 next61 w63 => (fun (x64 : Int) => ldS (a1.add 4) w63 fun s65 => iteB (decide ((x64 : Int) < (s65.l : Int)))
  (idxP x54.a x54.l x64 1 fun a66 => ldI .i64 a66 w63 fun n67 => iteB (decide ((n67 : Int) < 0))
  (next61 ((IntKind.i64.wrap (x64 + 1)), ()) w63)
  (ldS (a1.add 4) w63 fun s68 => idxP s68.a s68.l x64 2 fun a69 => ldI .i64 a69 w63 fun n70 => c_preluderef03_Takes n70 w63 fun r71 r72 w73 => idxP x54.a x54.l x64 1 fun a74 => ldI .i64 a74 w73 fun n75 => iteB (decide (((IntKind.i64.wrap (n75 - r71)) : Int) < 0))
  (K ⟨none, 0, 0⟩ 34 w73)
  (iteB (decide (((IntKind.i64.wrap ((IntKind.i64.wrap (n75 - r71)) + r72)) : Int) > 32))
  (K ⟨none, 0, 0⟩ 34 w73)
  (ldI .i64 a1 w73 fun n76 => ldI .i64 (a1.add 1) w73 fun n77 => ldI .i64 (a1.add 2) w73 fun n78 => ldI .i64 (a1.add 3) w73 fun n79 => ldS (a1.add 4) w73 fun s80 => c_preluderef03_Next n76 n77 n78 n79 s80 x64 w73 fun r81 w82 => loopP (σ := Int × Unit) (fun st84 next83 w85 => (fun (x86 : Int) => iteB (decide ((x86 : Int) < (r81.l : Int)))
  (idxP r81.a r81.l x86 1 fun a87 => ldI .i64 a87 w85 fun n88 => idxP x54.a x54.l n88 1 fun a89 => ldI .i64 a89 w85 fun n90 => iteB (decide ((n90 : Int) ≥ 0))
  (idxP r81.a r81.l x86 1 fun a91 => ldI .i64 a91 w85 fun n92 => idxP x54.a x54.l n92 1 fun a93 => ldI .i64 a93 w85 fun n94 => iteB ((n94 : Int) != (IntKind.i64.wrap ((IntKind.i64.wrap (n75 - r71)) + r72)))
  (K ⟨none, 0, 0⟩ 34 w85)
  (idxP r81.a r81.l x86 1 fun a95 => ldI .i64 a95 w85 fun n96 => idxP x54.a x54.l n96 1 fun a97 => stP a97 (.int .i64 (IntKind.i64.wrap ((IntKind.i64.wrap (n75 - r71)) + r72))) w85 fun w98 => next83 ((IntKind.i64.wrap (x86 + 1)), ()) w98))
  (idxP r81.a r81.l x86 1 fun a99 => ldI .i64 a99 w85 fun n100 => idxP x54.a x54.l n100 1 fun a101 => stP a101 (.int .i64 (IntKind.i64.wrap ((IntKind.i64.wrap (n75 - r71)) + r72))) w85 fun w102 => next83 ((IntKind.i64.wrap (x86 + 1)), ()) w102))
  (next61 ((IntKind.i64.wrap (x64 + 1)), ()) w85)) st84.1) (0, ()) w82))))
  (K x54 0 w63)) st62.1) (0, ()) w53)) st52.1 st52.2.1) (⟨(some a49), 1, 1⟩, 0, ()) w50)) st11.1) (0, ()) w9)

def c_preluderef03_Depths (x_0_0 : Int) (x_0_1 : Int) (x_0_2 : Int) (x_0_3 : Int) (x_0_4 : Slc) (w : World) (K : Slc → Int → World → Prop) : Prop := Calls Try.prog 67 #[.agg #[.int .i64 x_0_0, .int .i64 x_0_1, .int .i64 x_0_2, .int .i64 x_0_3, .slice x_0_4.a x_0_4.l x_0_4.c]] w (onRet (fun v w' => ∃ (y0 : Slc), ∃ (y1 : Int), v = .tuple #[.slice y0.a y0.l y0.c, .int .i64 y1] ∧ K y0 y1 w'))

theorem sim_preluderef03_Depths {x_0_0 : Int} {x_0_1 : Int} {x_0_2 : Int} {x_0_3 : Int} {x_0_4 : Slc} {w : World} {K : Slc → Int → World → Prop} (h : sh_preluderef03_Depths c_preluderef03_limits c_preluderef03_is c_preluderef03_argument c_preluderef03_Takes c_preluderef03_Next x_0_0 x_0_1 x_0_2 x_0_3 x_0_4 w K) : c_preluderef03_Depths x_0_0 x_0_1 x_0_2 x_0_3 x_0_4 w K := by
  have e : sh_preluderef03_Depths c_preluderef03_limits c_preluderef03_is c_preluderef03_argument c_preluderef03_Takes c_preluderef03_Next x_0_0 x_0_1 x_0_2 x_0_3 x_0_4 w K = shF Try.prog 67 ⟨[], [(4, [(4, (.int .i64))], [1]), (15, [(6, .sl), (7, (.int .i64))], [1]), (19, [(8, (.int .i64))], [1, 6]), (29, [(13, (.int .i64))], [1, 6, 8, 11, 12])], []⟩ [.agg #[.int .i64 x_0_0, .int .i64 x_0_1, .int .i64 x_0_2, .int .i64 x_0_3, .slice x_0_4.a x_0_4.l x_0_4.c]] w (fun v w' => decT [(false, [.sl]), (false, [(.int .i64)])] v fun s => (fun (y0 : Slc) (y1 : Int) => K y0 y1 w') s.1 s.2.1) := by kernel_rfl
  exact Calls.mono (calls_of _ e h) (onRet_mono (fun _ _ h => by obtain ⟨s, h1, h2⟩ := decT_spec h; exact ⟨s.1, s.2.1, h1, h2⟩))

-- 31 prelude/preluderef03.Verify; callees ['preluderef03_Depths']
def sh_preluderef03_Verify (c_preluderef03_Depths : Int → Int → Int → Int → Slc → World → (Slc → Int → World → Prop) → Prop) (p_0_0 : Int) (p_0_1 : Int) (p_0_2 : Int) (p_0_3 : Int) (p_0_4 : Slc) (w : World) (K : Int → World → Prop) : Prop :=
  newP #[.int .i64 p_0_0, .int .i64 p_0_1, .int .i64 p_0_2, .int .i64 p_0_3, .slice p_0_4.a p_0_4.l p_0_4.c] 24 w fun a1 w2 => ldI .i64 a1 w2 fun n3 => ldI .i64 (a1.add 1) w2 fun n4 => ldI .i64 (a1.add 2) w2 fun n5 => ldI .i64 (a1.add 3) w2 fun n6 => ldS (a1.add 4) w2 fun s7 => c_preluderef03_Depths n3 n4 n5 n6 s7 w2 fun r8 r9 w10 => K r9 w10

def c_preluderef03_Verify (p_0_0 : Int) (p_0_1 : Int) (p_0_2 : Int) (p_0_3 : Int) (p_0_4 : Slc) (w : World) (K : Int → World → Prop) : Prop := Calls Try.prog 31 #[.agg #[.int .i64 p_0_0, .int .i64 p_0_1, .int .i64 p_0_2, .int .i64 p_0_3, .slice p_0_4.a p_0_4.l p_0_4.c]] w (onRet (fun v w' => ∃ (y0 : Int), v = .int .i64 y0 ∧ K y0 w'))

theorem sim_preluderef03_Verify {p_0_0 : Int} {p_0_1 : Int} {p_0_2 : Int} {p_0_3 : Int} {p_0_4 : Slc} {w : World} {K : Int → World → Prop} (h : sh_preluderef03_Verify c_preluderef03_Depths p_0_0 p_0_1 p_0_2 p_0_3 p_0_4 w K) : c_preluderef03_Verify p_0_0 p_0_1 p_0_2 p_0_3 p_0_4 w K := by
  have e : sh_preluderef03_Verify c_preluderef03_Depths p_0_0 p_0_1 p_0_2 p_0_3 p_0_4 w K = shF Try.prog 31 ⟨[], [], []⟩ [.agg #[.int .i64 p_0_0, .int .i64 p_0_1, .int .i64 p_0_2, .int .i64 p_0_3, .slice p_0_4.a p_0_4.l p_0_4.c]] w (fun v w' => decV (.int .i64) v fun y0 => K y0 w') := by kernel_rfl
  exact Calls.mono (calls_of _ e h) (onRet_mono (fun _ _ h => decV_spec h))

-- 11 prelude/preluderef05.New; callees ['preluderef03_Verify']
def sh_preluderef05_New (c_preluderef03_Verify : Int → Int → Int → Int → Slc → World → (Int → World → Prop) → Prop) (p_0_0 : Int) (p_0_1 : Int) (p_0_2 : Int) (p_0_3 : Int) (p_0_4 : Slc) (args_1 : Slc) (reads_2 : Slc) (w : World) (K : Option Addr → Int → World → Prop) : Prop :=
  newP #[.int .i64 p_0_0, .int .i64 p_0_1, .int .i64 p_0_2, .int .i64 p_0_3, .slice p_0_4.a p_0_4.l p_0_4.c] 24 w fun a1 w2 => ldI .i64 a1 w2 fun n3 => ldI .i64 (a1.add 1) w2 fun n4 => ldI .i64 (a1.add 2) w2 fun n5 => ldI .i64 (a1.add 3) w2 fun n6 => ldS (a1.add 4) w2 fun s7 => c_preluderef03_Verify n3 n4 n5 n6 s7 w2 fun r8 w9 => iteB ((r8 : Int) != 0)
  (K none r8 w9)
  (ldI .i64 a1 w9 fun n10 => iteB (((args_1.l : Int) : Int) != n10)
  (K none 50 w9)
  (ldI .i64 (a1.add 1) w9 fun n11 => iteB (((reads_2.l : Int) : Int) != n11)
  (K none 50 w9)
  (ldI .i64 a1 w9 fun n12 => ldI .i64 (a1.add 1) w9 fun n13 => ldI .i64 (a1.add 2) w9 fun n14 => ldI .i64 (a1.add 3) w9 fun n15 => ldS (a1.add 4) w9 fun s16 => ldS (a1.add 4) w9 fun s17 => newP #[.int .i64 n12, .int .i64 n13, .int .i64 n14, .int .i64 n15, .slice s16.a s16.l s16.c, .slice args_1.a args_1.l args_1.c, .slice reads_2.a reads_2.l reads_2.c, .slice none 0 0, .slice none 0 0, .slice none 0 0, .slice none 0 0, .int .i64 0, .int .i64 0, .bool (((s17.l : Int) : Int) == 0), .int .i64 0, .int .i64 0] 83 w9 fun a18 w19 => ldI .i64 (a1.add 3) w19 fun n20 => mkP Try.prog 25 (.int .i64 n20) (.int .i64 n20) w19 fun s21 w22 => nnP (some a18) fun a23 => stP (a23.add 8) (.slice s21.a s21.l s21.c) w22 fun w24 => ldI .i64 (a1.add 2) w24 fun n25 => mkP Try.prog 46 (.int .i64 n25) (.int .i64 n25) w24 fun s26 w27 => nnP (some a18) fun a28 => stP (a28.add 10) (.slice s26.a s26.l s26.c) w27 fun w29 => K (some a18) 0 w29)))

def c_preluderef05_New (p_0_0 : Int) (p_0_1 : Int) (p_0_2 : Int) (p_0_3 : Int) (p_0_4 : Slc) (args_1 : Slc) (reads_2 : Slc) (w : World) (K : Option Addr → Int → World → Prop) : Prop := Calls Try.prog 11 #[.agg #[.int .i64 p_0_0, .int .i64 p_0_1, .int .i64 p_0_2, .int .i64 p_0_3, .slice p_0_4.a p_0_4.l p_0_4.c], .slice args_1.a args_1.l args_1.c, .slice reads_2.a reads_2.l reads_2.c] w (onRet (fun v w' => ∃ (y0 : Option Addr), ∃ (y1 : Int), v = .tuple #[.pointer y0, .int .i64 y1] ∧ K y0 y1 w'))

theorem sim_preluderef05_New {p_0_0 : Int} {p_0_1 : Int} {p_0_2 : Int} {p_0_3 : Int} {p_0_4 : Slc} {args_1 : Slc} {reads_2 : Slc} {w : World} {K : Option Addr → Int → World → Prop} (h : sh_preluderef05_New c_preluderef03_Verify p_0_0 p_0_1 p_0_2 p_0_3 p_0_4 args_1 reads_2 w K) : c_preluderef05_New p_0_0 p_0_1 p_0_2 p_0_3 p_0_4 args_1 reads_2 w K := by
  have e : sh_preluderef05_New c_preluderef03_Verify p_0_0 p_0_1 p_0_2 p_0_3 p_0_4 args_1 reads_2 w K = shF Try.prog 11 ⟨[], [], []⟩ [.agg #[.int .i64 p_0_0, .int .i64 p_0_1, .int .i64 p_0_2, .int .i64 p_0_3, .slice p_0_4.a p_0_4.l p_0_4.c], .slice args_1.a args_1.l args_1.c, .slice reads_2.a reads_2.l reads_2.c] w (fun v w' => decT [(false, [.ptr]), (false, [(.int .i64)])] v fun s => (fun (y0 : Option Addr) (y1 : Int) => K y0 y1 w') s.1 s.2.1) := by kernel_rfl
  exact Calls.mono (calls_of _ e h) (onRet_mono (fun _ _ h => by obtain ⟨s, h1, h2⟩ := decT_spec h; exact ⟨s.1, s.2.1, h1, h2⟩))

-- 32 prelude/preludelaw05.sameWords; callees []
def sh_preludelaw05_sameWords (a_0 : Slc) (b_1 : Slc) (w : World) (K : Bool → World → Prop) : Prop :=
  iteB (((a_0.l : Int) : Int) != (b_1.l : Int))
  (K false w)
  (loopP (σ := Int × Unit) (fun st2 next1 w3 => (fun (i_4 : Int) => iteB (decide ((i_4 : Int) < (a_0.l : Int)))
  (idxP a_0.a a_0.l i_4 1 fun a5 => ldI .i64 a5 w3.drew fun n6 => idxP b_1.a b_1.l i_4 1 fun a7 => ldI .i64 a7 w3.drew fun n8 => iteB ((n6 : Int) != n8)
  (K false w3.drew)
  (next1 ((IntKind.i64.wrap (i_4 + 1)), ()) w3.drew))
  (K true w3)) st2.1) (0, ()) w)

def c_preludelaw05_sameWords (a_0 : Slc) (b_1 : Slc) (w : World) (K : Bool → World → Prop) : Prop := Calls Try.prog 32 #[.slice a_0.a a_0.l a_0.c, .slice b_1.a b_1.l b_1.c] w (onRet (fun v w' => ∃ (y0 : Bool), v = .bool y0 ∧ K y0 w'))

theorem sim_preludelaw05_sameWords {a_0 : Slc} {b_1 : Slc} {w : World} {K : Bool → World → Prop} (h : sh_preludelaw05_sameWords a_0 b_1 w K) : c_preludelaw05_sameWords a_0 b_1 w K := by
  have e : sh_preludelaw05_sameWords a_0 b_1 w K = shF Try.prog 32 ⟨[(6, .of [0, 1, 2, 3, 4, 5, 6, 7, 8])], [(4, [(5, (.int .i64))], [0, 1])], []⟩ [.slice a_0.a a_0.l a_0.c, .slice b_1.a b_1.l b_1.c] w (fun v w' => decV .b v fun y0 => K y0 w') := by kernel_rfl
  exact Calls.mono (calls_of _ e h) (onRet_mono (fun _ _ h => decV_spec h))

-- 12 prelude/preludelaw05.kept; callees ['preludelaw05_sameWords']
def sh_preludelaw05_kept (c_preludelaw05_sameWords : Slc → Slc → World → (Bool → World → Prop) → Prop) (x_0_0 : Int) (x_0_1 : Int) (x_0_2 : Int) (x_0_3 : Int) (x_0_4 : Slc) (x_0_5 : Slc) (x_0_6 : Slc) (x_1_0 : Int) (x_1_1 : Int) (x_1_2 : Int) (x_1_3 : Int) (x_1_4 : Slc) (x_1_5 : Slc) (x_1_6 : Slc) (w : World) (K : Bool → World → Prop) : Prop :=
  newP #[.int .i64 x_0_0, .int .i64 x_0_1, .int .i64 x_0_2, .int .i64 x_0_3, .slice x_0_4.a x_0_4.l x_0_4.c, .slice x_0_5.a x_0_5.l x_0_5.c, .slice x_0_6.a x_0_6.l x_0_6.c] 28 w fun a1 w2 => newP #[.int .i64 x_1_0, .int .i64 x_1_1, .int .i64 x_1_2, .int .i64 x_1_3, .slice x_1_4.a x_1_4.l x_1_4.c, .slice x_1_5.a x_1_5.l x_1_5.c, .slice x_1_6.a x_1_6.l x_1_6.c] 28 w2 fun a3 w4 => ldS (a1.add 4) w4 fun s5 => ldS (a3.add 4) w4 fun s6 => iteB (((s5.l : Int) : Int) != (s6.l : Int))
  (K false w4)
  (ldS (a1.add 6) w4 fun s7 => ldS (a3.add 6) w4 fun s8 => iteB (((s7.l : Int) : Int) != (s8.l : Int))
  (K false w4)
  (ldS (a1.add 5) w4 fun s9 => ldS (a3.add 5) w4 fun s10 => c_preludelaw05_sameWords s9 s10 w4 fun r11 w12 => iteB (!r11)
  (K false w12)
  (loopP (σ := Int × Unit) (fun st14 next13 w15 => (fun (x16 : Int) => ldS (a3.add 4) w15 fun s17 => iteB (decide ((x16 : Int) < (s17.l : Int)))
  (ldS (a1.add 4) w15.drew fun s18 => idxP s18.a s18.l x16 2 fun a19 => ldI .i64 a19 w15.drew fun n20 => ldI .i64 (a19.add 1) w15.drew fun n21 => ldS (a3.add 4) w15.drew fun s22 => idxP s22.a s22.l x16 2 fun a23 => ldI .i64 a23 w15.drew fun n24 => ldI .i64 (a23.add 1) w15.drew fun n25 => (∃ (r26 : Bool), ∃ w27, (do eqGuard .neq 60 (.tmp 49) (.tmp 55) (.agg #[.int .i64 n20, .int .i64 n21]) (.agg #[.int .i64 n24, .int .i64 n25]); binOp .neq 60 (.agg #[.int .i64 n20, .int .i64 n21]) (.agg #[.int .i64 n24, .int .i64 n25])).run Try.prog w15.drew = .ok (.bool r26) w27 ∧ (iteB r26
  (K false w27)
  (next13 ((IntKind.i64.wrap (x16 + 1)), ()) w27))))
  (loopP (σ := Int × Unit) (fun st29 next28 w30 => (fun (x31 : Int) => ldS (a3.add 6) w30 fun s32 => iteB (decide ((x31 : Int) < (s32.l : Int)))
  (ldS (a1.add 6) w30.drew fun s33 => idxP s33.a s33.l x31 2 fun a34 => ldB a34 w30.drew fun t35 => ldI .i64 (a34.add 1) w30.drew fun n36 => ldS (a3.add 6) w30.drew fun s37 => idxP s37.a s37.l x31 2 fun a38 => ldB a38 w30.drew fun t39 => ldI .i64 (a38.add 1) w30.drew fun n40 => (∃ (r41 : Bool), ∃ w42, (do eqGuard .neq 58 (.tmp 68) (.tmp 73) (.agg #[.bool t35, .int .i64 n36]) (.agg #[.bool t39, .int .i64 n40]); binOp .neq 58 (.agg #[.bool t35, .int .i64 n36]) (.agg #[.bool t39, .int .i64 n40])).run Try.prog w30.drew = .ok (.bool r41) w42 ∧ (iteB r41
  (K false w42)
  (next28 ((IntKind.i64.wrap (x31 + 1)), ()) w42))))
  (ldS (a1.add 4) w30 fun s43 => ldS (a3.add 4) w30 fun s44 => slP s43.a s43.l s43.c none (some (IntKind.i64.wrap ((s44.l : Int) + 1))) 2 fun p45 l46 c47 => ldS (a1.add 5) w30 fun s48 => ldS (a3.add 5) w30 fun s49 => slP s48.a s48.l s48.c none (some (IntKind.i64.wrap ((s49.l : Int) + 1))) 1 fun p50 l51 c52 => ldS (a1.add 6) w30 fun s53 => ldS (a3.add 6) w30 fun s54 => slP s53.a s53.l s53.c none (some (IntKind.i64.wrap ((s54.l : Int) + 1))) 2 fun p55 l56 c57 => ldS (a3.add 4) w30 fun s58 => idxP p45 l46 (s58.l : Int) 2 fun a59 => ldI .i64 a59 w30 fun n60 => iteB ((n60 : Int) == (-3))
  (ldS (a3.add 5) w30 fun s61 => idxP p50 l51 (s61.l : Int) 1 fun a62 => ldI .i64 a62 w30 fun n63 => iteB ((n63 : Int) == (-4))
  (ldS (a3.add 6) w30 fun s64 => idxP p55 l56 (s64.l : Int) 2 fun a65 => ldI .i64 (a65.add 1) w30 fun n66 => K ((n66 : Int) == (-5)) w30)
  (K false w30))
  (K false w30))) st29.1) (0, ()) w15)) st14.1) (0, ()) w12)))

def c_preludelaw05_kept (x_0_0 : Int) (x_0_1 : Int) (x_0_2 : Int) (x_0_3 : Int) (x_0_4 : Slc) (x_0_5 : Slc) (x_0_6 : Slc) (x_1_0 : Int) (x_1_1 : Int) (x_1_2 : Int) (x_1_3 : Int) (x_1_4 : Slc) (x_1_5 : Slc) (x_1_6 : Slc) (w : World) (K : Bool → World → Prop) : Prop := Calls Try.prog 12 #[.agg #[.int .i64 x_0_0, .int .i64 x_0_1, .int .i64 x_0_2, .int .i64 x_0_3, .slice x_0_4.a x_0_4.l x_0_4.c, .slice x_0_5.a x_0_5.l x_0_5.c, .slice x_0_6.a x_0_6.l x_0_6.c], .agg #[.int .i64 x_1_0, .int .i64 x_1_1, .int .i64 x_1_2, .int .i64 x_1_3, .slice x_1_4.a x_1_4.l x_1_4.c, .slice x_1_5.a x_1_5.l x_1_5.c, .slice x_1_6.a x_1_6.l x_1_6.c]] w (onRet (fun v w' => ∃ (y0 : Bool), v = .bool y0 ∧ K y0 w'))

theorem sim_preludelaw05_kept {x_0_0 : Int} {x_0_1 : Int} {x_0_2 : Int} {x_0_3 : Int} {x_0_4 : Slc} {x_0_5 : Slc} {x_0_6 : Slc} {x_1_0 : Int} {x_1_1 : Int} {x_1_2 : Int} {x_1_3 : Int} {x_1_4 : Slc} {x_1_5 : Slc} {x_1_6 : Slc} {w : World} {K : Bool → World → Prop} (h : sh_preludelaw05_kept c_preludelaw05_sameWords x_0_0 x_0_1 x_0_2 x_0_3 x_0_4 x_0_5 x_0_6 x_1_0 x_1_1 x_1_2 x_1_3 x_1_4 x_1_5 x_1_6 w K) : c_preludelaw05_kept x_0_0 x_0_1 x_0_2 x_0_3 x_0_4 x_0_5 x_0_6 x_1_0 x_1_1 x_1_2 x_1_3 x_1_4 x_1_5 x_1_6 w K := by
  have e : sh_preludelaw05_kept c_preludelaw05_sameWords x_0_0 x_0_1 x_0_2 x_0_3 x_0_4 x_0_5 x_0_6 x_1_0 x_1_1 x_1_2 x_1_3 x_1_4 x_1_5 x_1_6 w K = shF Try.prog 12 ⟨[(6, .of [0, 1, 2, 3, 4, 5, 6, 7, 8, 9, 10, 11, 12]), (11, .of [0, 1, 2, 3, 4, 5, 6, 7, 8, 9, 10])], [(4, [(5, (.int .i64))], [2, 3]), (9, [(6, (.int .i64))], [2, 3])], []⟩ [.agg #[.int .i64 x_0_0, .int .i64 x_0_1, .int .i64 x_0_2, .int .i64 x_0_3, .slice x_0_4.a x_0_4.l x_0_4.c, .slice x_0_5.a x_0_5.l x_0_5.c, .slice x_0_6.a x_0_6.l x_0_6.c], .agg #[.int .i64 x_1_0, .int .i64 x_1_1, .int .i64 x_1_2, .int .i64 x_1_3, .slice x_1_4.a x_1_4.l x_1_4.c, .slice x_1_5.a x_1_5.l x_1_5.c, .slice x_1_6.a x_1_6.l x_1_6.c]] w (fun v w' => decV .b v fun y0 => K y0 w') := by kernel_rfl
  exact Calls.mono (calls_of _ e h) (onRet_mono (fun _ _ h => decV_spec h))

-- 13 prelude/preludelaw05.spoil; callees []
def sh_preludelaw05_spoil (d_0_0 : Int) (d_0_1 : Int) (d_0_2 : Int) (d_0_3 : Int) (d_0_4 : Slc) (d_0_5 : Slc) (d_0_6 : Slc) (w : World) (K : World → Prop) : Prop :=
  newP #[.int .i64 d_0_0, .int .i64 d_0_1, .int .i64 d_0_2, .int .i64 d_0_3, .slice d_0_4.a d_0_4.l d_0_4.c, .slice d_0_5.a d_0_5.l d_0_5.c, .slice d_0_6.a d_0_6.l d_0_6.c] 28 w fun a1 w2 => loopP (σ := Int × Unit) (fun st4 next3 w5 => (fun (i_6 : Int) => ldS (a1.add 4) w5 fun s7 => iteB (decide ((i_6 : Int) < (s7.l : Int)))
  (ldS (a1.add 4) w5 fun s8 => idxP s8.a s8.l i_6 2 fun a9 => stP a9 (.int .i64 36) w5 fun w10 => stP (a9.add 1) (.int .i64 0) w10 fun w11 => next3 ((IntKind.i64.wrap (i_6 + 1)), ()) w11)
  (loopP (σ := Int × Unit) (fun st13 next12 w14 => (fun (i_15 : Int) => ldS (a1.add 5) w14 fun s16 => iteB (decide ((i_15 : Int) < (s16.l : Int)))
  (ldS (a1.add 5) w14 fun s17 => idxP s17.a s17.l i_15 1 fun a18 => stP a18 (.int .i64 1234567) w14 fun w19 => next12 ((IntKind.i64.wrap (i_15 + 1)), ()) w19)
  (loopP (σ := Int × Unit) (fun st21 next20 w22 => (fun (i_23 : Int) => ldS (a1.add 6) w22 fun s24 => iteB (decide ((i_23 : Int) < (s24.l : Int)))
  (ldS (a1.add 6) w22 fun s25 => idxP s25.a s25.l i_23 2 fun a26 => stP a26 (.bool true) w22 fun w27 => stP (a26.add 1) (.int .i64 7654321) w27 fun w28 => next20 ((IntKind.i64.wrap (i_23 + 1)), ()) w28)
  (K w22)) st21.1) (0, ()) w14)) st13.1) (0, ()) w5)) st4.1) (0, ()) w2

def c_preludelaw05_spoil (d_0_0 : Int) (d_0_1 : Int) (d_0_2 : Int) (d_0_3 : Int) (d_0_4 : Slc) (d_0_5 : Slc) (d_0_6 : Slc) (w : World) (K : World → Prop) : Prop := Calls Try.prog 13 #[.agg #[.int .i64 d_0_0, .int .i64 d_0_1, .int .i64 d_0_2, .int .i64 d_0_3, .slice d_0_4.a d_0_4.l d_0_4.c, .slice d_0_5.a d_0_5.l d_0_5.c, .slice d_0_6.a d_0_6.l d_0_6.c]] w (onRet (fun v w' => v = .tuple #[] ∧ K w'))

theorem sim_preludelaw05_spoil {d_0_0 : Int} {d_0_1 : Int} {d_0_2 : Int} {d_0_3 : Int} {d_0_4 : Slc} {d_0_5 : Slc} {d_0_6 : Slc} {w : World} {K : World → Prop} (h : sh_preludelaw05_spoil d_0_0 d_0_1 d_0_2 d_0_3 d_0_4 d_0_5 d_0_6 w K) : c_preludelaw05_spoil d_0_0 d_0_1 d_0_2 d_0_3 d_0_4 d_0_5 d_0_6 w K := by
  have e : sh_preludelaw05_spoil d_0_0 d_0_1 d_0_2 d_0_3 d_0_4 d_0_5 d_0_6 w K = shF Try.prog 13 ⟨[], [(2, [(2, (.int .i64))], [1]), (6, [(3, (.int .i64))], [1]), (10, [(4, (.int .i64))], [1])], []⟩ [.agg #[.int .i64 d_0_0, .int .i64 d_0_1, .int .i64 d_0_2, .int .i64 d_0_3, .slice d_0_4.a d_0_4.l d_0_4.c, .slice d_0_5.a d_0_5.l d_0_5.c, .slice d_0_6.a d_0_6.l d_0_6.c]] w (fun v w' => decU v (K w')) := by kernel_rfl
  exact Calls.mono (calls_of _ e h) (onRet_mono (fun _ _ h => decU_spec h))

-- 42 (*prelude/vm.Machine).fail; callees []
def sh_vm_Machine_fail (m_0 : Option Addr) (e_1 : Int) (user_2 : Int) (w : World) (K : World → Prop) : Prop :=
  nnP m_0 fun a1 => stP (a1.add 50) (.bool true) w fun w2 => nnP m_0 fun a3 => stP (a3.add 51) (.int .i64 e_1) w2 fun w4 => nnP m_0 fun a5 => stP (a5.add 52) (.int .i64 user_2) w4 fun w6 => nnP m_0 fun a7 => stP (a7.add 44) (.slice none 0 0) w6 fun w8 => nnP m_0 fun a9 => stP (a9.add 46) (.slice none 0 0) w8 fun w10 => nnP m_0 fun a11 => ldI .i64 (a11.add 3) w10 fun n12 => mkP Try.prog 25 (.int .i64 n12) (.int .i64 n12) w10 fun s13 w14 => nnP m_0 fun a15 => stP (a15.add 45) (.slice s13.a s13.l s13.c) w14 fun w16 => nnP m_0 fun a17 => ldI .i64 (a17.add 2) w16 fun n18 => mkP Try.prog 46 (.int .i64 n18) (.int .i64 n18) w16 fun s19 w20 => nnP m_0 fun a21 => stP (a21.add 47) (.slice s19.a s19.l s19.c) w20 fun w22 => K w22

def c_vm_Machine_fail (m_0 : Option Addr) (e_1 : Int) (user_2 : Int) (w : World) (K : World → Prop) : Prop := Calls Try.prog 42 #[.pointer m_0, .int .i64 e_1, .int .i64 user_2] w (onRet (fun v w' => v = .tuple #[] ∧ K w'))

theorem sim_vm_Machine_fail {m_0 : Option Addr} {e_1 : Int} {user_2 : Int} {w : World} {K : World → Prop} (h : sh_vm_Machine_fail m_0 e_1 user_2 w K) : c_vm_Machine_fail m_0 e_1 user_2 w K := by
  have e : sh_vm_Machine_fail m_0 e_1 user_2 w K = shF Try.prog 42 ⟨[], [], []⟩ [.pointer m_0, .int .i64 e_1, .int .i64 user_2] w (fun v w' => decU v (K w')) := by kernel_rfl
  exact Calls.mono (calls_of _ e h) (onRet_mono (fun _ _ h => decU_spec h))

-- 39 (*prelude/vm.Machine).pop; callees []
def sh_vm_Machine_pop (m_0 : Option Addr) (w : World) (K : Int → World → Prop) : Prop :=
  nnP m_0 fun a1 => ldS (a1.add 44) w.drew fun s2 => nnP m_0 fun a3 => ldS (a3.add 44) w.drew fun s4 => idxP s2.a s2.l (IntKind.i64.wrap ((s4.l : Int) - 1)) 1 fun a5 => ldI .i64 a5 w.drew fun n6 => nnP m_0 fun a7 => ldS (a7.add 44) w.drew.drew fun s8 => nnP m_0 fun a9 => ldS (a9.add 44) w.drew.drew fun s10 => slP s8.a s8.l s8.c none (some (IntKind.i64.wrap ((s10.l : Int) - 1))) 1 fun p11 l12 c13 => nnP m_0 fun a14 => stP (a14.add 44) (.slice p11 l12 c13) w.drew.drew fun w15 => K n6 w15

def c_vm_Machine_pop (m_0 : Option Addr) (w : World) (K : Int → World → Prop) : Prop := Calls Try.prog 39 #[.pointer m_0] w (onRet (fun v w' => ∃ (y0 : Int), v = .int .i64 y0 ∧ K y0 w'))

theorem sim_vm_Machine_pop {m_0 : Option Addr} {w : World} {K : Int → World → Prop} (h : sh_vm_Machine_pop m_0 w K) : c_vm_Machine_pop m_0 w K := by
  have e : sh_vm_Machine_pop m_0 w K = shF Try.prog 39 ⟨[(1, .of [0, 1, 2, 3, 4, 5, 6, 7, 8, 9, 10, 11, 12]), (2, .of [0, 1, 2, 3, 4, 5, 6, 7, 8, 9, 10, 11, 12, 13, 14])], [], []⟩ [.pointer m_0] w (fun v w' => decV (.int .i64) v fun y0 => K y0 w') := by kernel_rfl
  exact Calls.mono (calls_of _ e h) (onRet_mono (fun _ _ h => decV_spec h))

-- 72 (*prelude/vm.Machine).write; callees []
def sh_vm_Machine_write (m_0 : Option Addr) (i_1 : Int) (p_2_0 : Int) (p_2_1 : Int) (w : World) (K : Int → World → Prop) : Prop :=
  newP #[.int .i64 p_2_0, .int .i64 p_2_1] 71 w fun a1 w2 => iteB (decide ((i_1 : Int) < 0))
  (K 203 w2)
  (nnP m_0 fun a3 => ldS (a3.add 47) w2 fun s4 => iteB (decide ((i_1 : Int) ≥ (s4.l : Int)))
  (K 203 w2)
  (nnP m_0 fun a5 => ldS (a5.add 47) w2.drew fun s6 => ldI .i64 a1 w2.drew fun n7 => ldI .i64 (a1.add 1) w2.drew fun n8 => idxP s6.a s6.l i_1 2 fun a9 => stP a9 (.int .i64 n7) w2.drew fun w10 => stP (a9.add 1) (.int .i64 n8) w10 fun w11 => K 0 w11))

def c_vm_Machine_write (m_0 : Option Addr) (i_1 : Int) (p_2_0 : Int) (p_2_1 : Int) (w : World) (K : Int → World → Prop) : Prop := Calls Try.prog 72 #[.pointer m_0, .int .i64 i_1, .agg #[.int .i64 p_2_0, .int .i64 p_2_1]] w (onRet (fun v w' => ∃ (y0 : Int), v = .int .i64 y0 ∧ K y0 w'))

theorem sim_vm_Machine_write {m_0 : Option Addr} {i_1 : Int} {p_2_0 : Int} {p_2_1 : Int} {w : World} {K : Int → World → Prop} (h : sh_vm_Machine_write m_0 i_1 p_2_0 p_2_1 w K) : c_vm_Machine_write m_0 i_1 p_2_0 p_2_1 w K := by
  have e : sh_vm_Machine_write m_0 i_1 p_2_0 p_2_1 w K = shF Try.prog 72 ⟨[(3, .of [0, 1, 2, 3, 4, 5, 6, 7])], [], []⟩ [.pointer m_0, .int .i64 i_1, .agg #[.int .i64 p_2_0, .int .i64 p_2_1]] w (fun v w' => decV (.int .i64) v fun y0 => K y0 w') := by kernel_rfl
  exact Calls.mono (calls_of _ e h) (onRet_mono (fun _ _ h => decV_spec h))

-- 40 (*prelude/vm.Machine).tell; callees ['vm_Machine_pop', 'vm_Machine_write']
def sh_vm_Machine_tell (c_vm_Machine_pop : Option Addr → World → (Int → World → Prop) → Prop) (c_vm_Machine_write : Option Addr → Int → Int → Int → World → (Int → World → Prop) → Prop) (m_0 : Option Addr) (in_1_0 : Int) (in_1_1 : Int) (w : World) (K : Int → World → Prop) : Prop :=
  newP #[.int .i64 in_1_0, .int .i64 in_1_1] 60 w fun a1 w2 => ldI .i64 a1 w2 fun n3 => iteB ((n3 : Int) == 32)
  (ldI .i64 (a1.add 1) w2.drew fun n4 => c_vm_Machine_pop m_0 w2.drew fun r5 w6 => w6.cell? (a1.add 1) = some (.int .i64 n4) ∧ (c_vm_Machine_write m_0 n4 1 r5 w6 fun r7 w8 => K r7 w8))
  (iteB ((n3 : Int) == 33)
  (ldI .i64 (a1.add 1) w2 fun n9 => c_vm_Machine_write m_0 n9 2 0 w2 fun r10 w11 => K r10 w11)
  (iteB ((n3 : Int) == 34)
  (c_vm_Machine_pop m_0 w2 fun r12 w13 => c_vm_Machine_pop m_0 w13 fun r14 w15 => c_vm_Machine_write m_0 r14 1 r12 w15 fun r16 w17 => K r16 w17)
  (nnP m_0 fun a18 => ldS (a18.add 46) w2 fun s19 => iteB (decide (((s19.l : Int) : Int) ≥ 16))
  (K 204 w2)
  (nnP m_0 fun a20 => ldS (a20.add 46) w2.drew fun s21 => c_vm_Machine_pop m_0 w2.drew fun r22 w23 => w23.cell? (a20.add 46) = some (.slice s21.a s21.l s21.c) ∧ (newP #[.int .i64 r22] 2 w23 fun a24 w25 => w25.cell? (a20.add 46) = some (.slice s21.a s21.l s21.c) ∧ (apP Try.prog #[25, 25] 25 [.slice s21.a s21.l s21.c, .slice (some a24) 1 1] w25 fun s27 w26 => nnP m_0 fun a28 => stP (a28.add 46) (.slice s27.a s27.l s27.c) w26 fun w29 => K 0 w29))))))

def c_vm_Machine_tell (m_0 : Option Addr) (in_1_0 : Int) (in_1_1 : Int) (w : World) (K : Int → World → Prop) : Prop := Calls Try.prog 40 #[.pointer m_0, .agg #[.int .i64 in_1_0, .int .i64 in_1_1]] w (onRet (fun v w' => ∃ (y0 : Int), v = .int .i64 y0 ∧ K y0 w'))

theorem sim_vm_Machine_tell {m_0 : Option Addr} {in_1_0 : Int} {in_1_1 : Int} {w : World} {K : Int → World → Prop} (h : sh_vm_Machine_tell c_vm_Machine_pop c_vm_Machine_write m_0 in_1_0 in_1_1 w K) : c_vm_Machine_tell m_0 in_1_0 in_1_1 w K := by
  have e : sh_vm_Machine_tell c_vm_Machine_pop c_vm_Machine_write m_0 in_1_0 in_1_1 w K = shF Try.prog 40 ⟨[(3, .of [0, 1, 2, 3, 4, 5, 6, 7]), (11, .of [0, 1, 2, 3, 4, 5, 6, 7, 8, 9, 10, 11])], [], []⟩ [.pointer m_0, .agg #[.int .i64 in_1_0, .int .i64 in_1_1]] w (fun v w' => decV (.int .i64) v fun y0 => K y0 w') := by kernel_rfl
  exact Calls.mono (calls_of _ e h) (onRet_mono (fun _ _ h => decV_spec h))

-- 75 (*prelude/vm.Machine).push; callees []
def sh_vm_Machine_push (m_0 : Option Addr) (v_1 : Int) (w : World) (K : World → Prop) : Prop :=
  nnP m_0 fun a1 => ldS (a1.add 44) w fun s2 => newP #[.int .i64 v_1] 2 w fun a3 w4 => apP Try.prog #[25, 25] 25 [.slice s2.a s2.l s2.c, .slice (some a3) 1 1] w4 fun s6 w5 => nnP m_0 fun a7 => stP (a7.add 44) (.slice s6.a s6.l s6.c) w5 fun w8 => K w8

def c_vm_Machine_push (m_0 : Option Addr) (v_1 : Int) (w : World) (K : World → Prop) : Prop := Calls Try.prog 75 #[.pointer m_0, .int .i64 v_1] w (onRet (fun v w' => v = .tuple #[] ∧ K w'))

theorem sim_vm_Machine_push {m_0 : Option Addr} {v_1 : Int} {w : World} {K : World → Prop} (h : sh_vm_Machine_push m_0 v_1 w K) : c_vm_Machine_push m_0 v_1 w K := by
  have e : sh_vm_Machine_push m_0 v_1 w K = shF Try.prog 75 ⟨[], [], []⟩ [.pointer m_0, .int .i64 v_1] w (fun v w' => decU v (K w')) := by kernel_rfl
  exact Calls.mono (calls_of _ e h) (onRet_mono (fun _ _ h => decU_spec h))

-- 73 (*prelude/vm.Machine).read; callees []
def sh_vm_Machine_read (m_0 : Option Addr) (i_1 : Int) (w : World) (K : Int → Int → World → Prop) : Prop :=
  iteB (decide ((i_1 : Int) < 0))
  (K 0 203 w)
  (nnP m_0 fun a1 => ldS (a1.add 6) w fun s2 => iteB (decide ((i_1 : Int) ≥ (s2.l : Int)))
  (K 0 203 w)
  (nnP m_0 fun a3 => ldS (a3.add 6) w fun s4 => idxP s4.a s4.l i_1 2 fun a5 => ldB a5 w fun t6 => iteB (!t6)
  (K 0 0 w)
  (nnP m_0 fun a7 => ldS (a7.add 6) w fun s8 => idxP s8.a s8.l i_1 2 fun a9 => ldI .i64 (a9.add 1) w fun n10 => K n10 0 w)))

def c_vm_Machine_read (m_0 : Option Addr) (i_1 : Int) (w : World) (K : Int → Int → World → Prop) : Prop := Calls Try.prog 73 #[.pointer m_0, .int .i64 i_1] w (onRet (fun v w' => ∃ (y0 : Int), ∃ (y1 : Int), v = .tuple #[.int .i64 y0, .int .i64 y1] ∧ K y0 y1 w'))

theorem sim_vm_Machine_read {m_0 : Option Addr} {i_1 : Int} {w : World} {K : Int → Int → World → Prop} (h : sh_vm_Machine_read m_0 i_1 w K) : c_vm_Machine_read m_0 i_1 w K := by
  have e : sh_vm_Machine_read m_0 i_1 w K = shF Try.prog 73 ⟨[], [], []⟩ [.pointer m_0, .int .i64 i_1] w (fun v w' => decT [(false, [(.int .i64)]), (false, [(.int .i64)])] v fun s => (fun (y0 : Int) (y1 : Int) => K y0 y1 w') s.1 s.2.1) := by kernel_rfl
  exact Calls.mono (calls_of _ e h) (onRet_mono (fun _ _ h => by obtain ⟨s, h1, h2⟩ := decT_spec h; exact ⟨s.1, s.2.1, h1, h2⟩))

-- 74 prelude/vm.truth; callees []
def sh_vm_truth (b_0 : Bool) (w : World) (K : Int → World → Prop) : Prop :=
  iteB b_0
  (K 1 w)
  (K 0 w)

def c_vm_truth (b_0 : Bool) (w : World) (K : Int → World → Prop) : Prop := Calls Try.prog 74 #[.bool b_0] w (onRet (fun v w' => ∃ (y0 : Int), v = .int .i64 y0 ∧ K y0 w'))

theorem sim_vm_truth {b_0 : Bool} {w : World} {K : Int → World → Prop} (h : sh_vm_truth b_0 w K) : c_vm_truth b_0 w K := by
  have e : sh_vm_truth b_0 w K = shF Try.prog 74 ⟨[], [], []⟩ [.bool b_0] w (fun v w' => decV (.int .i64) v fun y0 => K y0 w') := by kernel_rfl
  exact Calls.mono (calls_of _ e h) (onRet_mono (fun _ _ h => decV_spec h))

-- 41 (*prelude/vm.Machine).reckon; callees ['vm_Machine_pop', 'vm_Machine_push', 'vm_Machine_read', 'vm_truth']
def sh_vm_Machine_reckon (c_vm_Machine_pop : Option Addr → World → (Int → World → Prop) → Prop) (c_vm_Machine_push : Option Addr → Int → World → (World → Prop) → Prop) (c_vm_Machine_read : Option Addr → Int → World → (Int → Int → World → Prop) → Prop) (c_vm_truth : Bool → World → (Int → World → Prop) → Prop) (x_0 : Option Addr) (x_1_0 : Int) (x_1_1 : Int) (w : World) (K : Int → World → Prop) : Prop :=
  newP #[.int .i64 x_1_0, .int .i64 x_1_1] 60 w fun a1 w2 => ldI .i64 a1 w2 fun n3 => iteB ((n3 : Int) == 2)
  (c_vm_Machine_pop x_0 w2 fun r4 w5 => K 0 w5)
  (iteB ((n3 : Int) == 5)
  (nnP x_0 fun a6 => ldS (a6.add 45) w2.drew fun s7 => ldI .i64 (a1.add 1) w2.drew fun n8 => c_vm_Machine_pop x_0 w2.drew fun r9 w10 => w10.cell? (a1.add 1) = some (.int .i64 n8) ∧ w10.cell? (a6.add 45) = some (.slice s7.a s7.l s7.c) ∧ (idxP s7.a s7.l n8 1 fun a11 => stP a11 (.int .i64 r9) w10 fun w12 => K 0 w12))
  (iteB ((n3 : Int) == 1)
  (ldI .i64 (a1.add 1) w2 fun n13 => c_vm_Machine_push x_0 n13 w2 fun w14 => K 0 w14)
  (iteB ((n3 : Int) == 3)
  (nnP x_0 fun a15 => ldS (a15.add 44) w2.drew fun s16 => nnP x_0 fun a17 => ldS (a17.add 44) w2.drew fun s18 => idxP s16.a s16.l (IntKind.i64.wrap ((s18.l : Int) - 1)) 1 fun a19 => ldI .i64 a19 w2.drew fun n20 => c_vm_Machine_push x_0 n20 w2.drew fun w21 => K 0 w21)
  (iteB ((n3 : Int) == 4)
  (nnP x_0 fun a22 => ldS (a22.add 45) w2.drew fun s23 => ldI .i64 (a1.add 1) w2.drew fun n24 => idxP s23.a s23.l n24 1 fun a25 => ldI .i64 a25 w2.drew fun n26 => c_vm_Machine_push x_0 n26 w2.drew fun w27 => K 0 w27)
  (iteB ((n3 : Int) == 6)
  (nnP x_0 fun a28 => ldS (a28.add 5) w2.drew fun s29 => ldI .i64 (a1.add 1) w2.drew fun n30 => idxP s29.a s29.l n30 1 fun a31 => ldI .i64 a31 w2.drew fun n32 => c_vm_Machine_push x_0 n32 w2.drew fun w33 => K 0 w33)
  (iteB ((n3 : Int) == 7)
  (ldI .i64 (a1.add 1) w2 fun n34 => c_vm_Machine_read x_0 n34 w2 fun r35 r36 w37 => c_vm_Machine_push x_0 r35 w37 fun w38 => K r36 w38)
  (iteB ((n3 : Int) == 8)
  (nnP x_0 fun a39 => ldS (a39.add 6) w2.drew fun s40 => ldI .i64 (a1.add 1) w2.drew fun n41 => idxP s40.a s40.l n41 2 fun a42 => ldB a42 w2.drew fun t43 => c_vm_truth t43 w2.drew fun r44 w45 => c_vm_Machine_push x_0 r44 w45 fun w46 => K 0 w46)
  (iteB ((n3 : Int) == 9)
  (c_vm_Machine_pop x_0 w2 fun r47 w48 => c_vm_Machine_read x_0 r47 w48 fun r49 r50 w51 => c_vm_Machine_push x_0 r49 w51 fun w52 => K r50 w52)
  (iteB ((n3 : Int) == 20)
  (c_vm_Machine_pop x_0 w2 fun r53 w54 => c_vm_Machine_push x_0 (IntKind.i64.wrap (0 - r53)) w54 fun w55 => K 0 w55)
  (iteB ((n3 : Int) == 21)
  (c_vm_Machine_pop x_0 w2 fun r56 w57 => c_vm_truth ((r56 : Int) == 0) w57 fun r58 w59 => c_vm_Machine_push x_0 r58 w59 fun w60 => K 0 w60)
  (c_vm_Machine_pop x_0 w2 fun r61 w62 => ldI .i64 a1 w62.drew fun n63 => nnP x_0 fun a64 => arrP 37 n63 (ldV ((a64.add 7).add (Int.toNat n63 * 1)) w62.drew fun v65 => c_vm_Machine_pop x_0 w62.drew fun r66 w67 => w67.cell? ((a64.add 7).add (Int.toNat n63 * 1)) = some (v65) ∧ w67.cell? a1 = some (.int .i64 n63) ∧ (cvP Try.prog v65 [.int .i64 r66, .int .i64 r61] w67 fun v71 w70 => ∃ (r68 : Int), ∃ (r69 : Int), v71 = .tuple #[.int .i64 r68, .int .i64 r69] ∧ (c_vm_Machine_push x_0 r68 w70 fun w72 => K r69 w72))))))))))))))

def c_vm_Machine_reckon (x_0 : Option Addr) (x_1_0 : Int) (x_1_1 : Int) (w : World) (K : Int → World → Prop) : Prop := Calls Try.prog 41 #[.pointer x_0, .agg #[.int .i64 x_1_0, .int .i64 x_1_1]] w (onRet (fun v w' => ∃ (y0 : Int), v = .int .i64 y0 ∧ K y0 w'))

theorem sim_vm_Machine_reckon {x_0 : Option Addr} {x_1_0 : Int} {x_1_1 : Int} {w : World} {K : Int → World → Prop} (h : sh_vm_Machine_reckon c_vm_Machine_pop c_vm_Machine_push c_vm_Machine_read c_vm_truth x_0 x_1_0 x_1_1 w K) : c_vm_Machine_reckon x_0 x_1_0 x_1_1 w K := by
  have e : sh_vm_Machine_reckon c_vm_Machine_pop c_vm_Machine_push c_vm_Machine_read c_vm_truth x_0 x_1_0 x_1_1 w K = shF Try.prog 41 ⟨[(10, .of [0, 1, 2, 3, 4, 5, 6, 7, 8, 9]), (15, .of [0, 1, 2, 3, 4, 5, 6, 7, 8, 9, 10, 11, 12]), (17, .of [0, 1, 2, 3, 4, 5, 6, 7, 8]), (19, .of [0, 1, 2, 3, 4, 5, 6, 7, 8]), (23, .of [0, 1, 2, 3, 4, 5, 6, 7, 8, 9, 10]), (5, .of [0, 1, 2, 3, 4, 5, 6, 7, 9, 8, 10, 11, 12, 13, 14, 15])], [], []⟩ [.pointer x_0, .agg #[.int .i64 x_1_0, .int .i64 x_1_1]] w (fun v w' => decV (.int .i64) v fun y0 => K y0 w') := by kernel_rfl
  exact Calls.mono (calls_of _ e h) (onRet_mono (fun _ _ h => decV_spec h))

-- 23 (*prelude/vm.Machine).Step; callees ['vm_Machine_fail', 'vm_Machine_pop', 'vm_Machine_tell', 'vm_Machine_reckon']
def sh_vm_Machine_Step (c_vm_Machine_fail : Option Addr → Int → Int → World → (World → Prop) → Prop) (c_vm_Machine_pop : Option Addr → World → (Int → World → Prop) → Prop) (c_vm_Machine_tell : Option Addr → Int → Int → World → (Int → World → Prop) → Prop) (c_vm_Machine_reckon : Option Addr → Int → Int → World → (Int → World → Prop) → Prop) (x_0 : Option Addr) (w : World) (K : Bool → World → Prop) : Prop :=
  nnP x_0 fun a1 => ldB (a1.add 50) w fun t2 => iteB t2
  (K false w)
  (nnP x_0 fun a3 => ldS (a3.add 4) w.drew fun s4 => nnP x_0 fun a5 => ldI .i64 (a5.add 48) w.drew fun n6 => idxP s4.a s4.l n6 2 fun a7 => ldI .i64 a7 w.drew fun n8 => ldI .i64 (a7.add 1) w.drew fun n9 => newP #[.int .i64 0, .int .i64 0] 60 w.drew fun a10 w11 => (w11.cell? a7 = some (.int .i64 n8) ∧ w11.cell? (a7.add 1) = some (.int .i64 n9) ∧ True) ∧ w11.cell? (a5.add 48) = some (.int .i64 n6) ∧ w11.cell? (a3.add 4) = some (.slice s4.a s4.l s4.c) ∧ (stP a10 (.int .i64 n8) w11 fun w12 => stP (a10.add 1) (.int .i64 n9) w12 fun w13 => nnP x_0 fun a14 => ldI .i64 (a14.add 49) w13 fun n15 => nnP x_0 fun a16 => stP (a16.add 49) (.int .i64 (IntKind.i64.wrap (n15 + 1))) w13 fun w17 => nnP x_0 fun a18 => ldI .i64 (a18.add 48) w17 fun n19 => ldI .i64 a10 w17 fun n20 => iteB ((n20 : Int) == 0)
  (nnP x_0 fun a21 => stP (a21.add 50) (.bool true) w17 fun w22 => K true w22)
  (iteB ((n20 : Int) == 30)
  (ldI .i64 (a10.add 1) w17 fun n23 => iteB ((0 : Int) != 0)
  (c_vm_Machine_fail x_0 0 0 w17 fun w24 => K true w24)
  (nnP x_0 fun a25 => stP (a25.add 48) (.int .i64 n23) w17 fun w26 => nnP x_0 fun a27 => ldS (a27.add 4) w26 fun s28 => nnP x_0 fun a29 => stP (a29.add 50) (.bool ((n23 : Int) == (s28.l : Int))) w26 fun w30 => K true w30))
  (iteB ((n20 : Int) == 31)
  (c_vm_Machine_pop x_0 w17 fun r31 w32 => iteB ((r31 : Int) == 0)
  (ldI .i64 (a10.add 1) w32 fun n33 => iteB ((0 : Int) != 0)
  (c_vm_Machine_fail x_0 0 0 w32 fun w34 => K true w34)
  (nnP x_0 fun a35 => stP (a35.add 48) (.int .i64 n33) w32 fun w36 => nnP x_0 fun a37 => ldS (a37.add 4) w36 fun s38 => nnP x_0 fun a39 => stP (a39.add 50) (.bool ((n33 : Int) == (s38.l : Int))) w36 fun w40 => K true w40))
  (iteB ((0 : Int) != 0)
  (c_vm_Machine_fail x_0 0 0 w32 fun w41 => K true w41)
  (nnP x_0 fun a42 => stP (a42.add 48) (.int .i64 (IntKind.i64.wrap (n19 + 1))) w32 fun w43 => nnP x_0 fun a44 => ldS (a44.add 4) w43 fun s45 => nnP x_0 fun a46 => stP (a46.add 50) (.bool (((IntKind.i64.wrap (n19 + 1)) : Int) == (s45.l : Int))) w43 fun w47 => K true w47)))
  (iteB ((n20 : Int) == 36)
  (c_vm_Machine_pop x_0 w17 fun r48 w49 => iteB ((200 : Int) != 0)
  (c_vm_Machine_fail x_0 200 r48 w49 fun w50 => K true w50)
  (nnP x_0 fun a51 => stP (a51.add 48) (.int .i64 (IntKind.i64.wrap (n19 + 1))) w49 fun w52 => nnP x_0 fun a53 => ldS (a53.add 4) w52 fun s54 => nnP x_0 fun a55 => stP (a55.add 50) (.bool (((IntKind.i64.wrap (n19 + 1)) : Int) == (s54.l : Int))) w52 fun w56 => K true w56))
  (iteB ((n20 : Int) == 32)
  (ldI .i64 a10 w17 fun n57 => ldI .i64 (a10.add 1) w17 fun n58 => c_vm_Machine_tell x_0 n57 n58 w17 fun r59 w60 => iteB ((r59 : Int) != 0)
  (c_vm_Machine_fail x_0 r59 0 w60 fun w61 => K true w61)
  (nnP x_0 fun a62 => stP (a62.add 48) (.int .i64 (IntKind.i64.wrap (n19 + 1))) w60 fun w63 => nnP x_0 fun a64 => ldS (a64.add 4) w63 fun s65 => nnP x_0 fun a66 => stP (a66.add 50) (.bool (((IntKind.i64.wrap (n19 + 1)) : Int) == (s65.l : Int))) w63 fun w67 => K true w67))
  (iteB ((n20 : Int) == 33)
  (ldI .i64 a10 w17 fun n68 => ldI .i64 (a10.add 1) w17 fun n69 => c_vm_Machine_tell x_0 n68 n69 w17 fun r70 w71 => iteB ((r70 : Int) != 0)
  (c_vm_Machine_fail x_0 r70 0 w71 fun w72 => K true w72)
  (nnP x_0 fun a73 => stP (a73.add 48) (.int .i64 (IntKind.i64.wrap (n19 + 1))) w71 fun w74 => nnP x_0 fun a75 => ldS (a75.add 4) w74 fun s76 => nnP x_0 fun a77 => stP (a77.add 50) (.bool (((IntKind.i64.wrap (n19 + 1)) : Int) == (s76.l : Int))) w74 fun w78 => K true w78))
  (iteB ((n20 : Int) == 34)
  (ldI .i64 a10 w17 fun n79 => ldI .i64 (a10.add 1) w17 fun n80 => c_vm_Machine_tell x_0 n79 n80 w17 fun r81 w82 => iteB ((r81 : Int) != 0)
  (c_vm_Machine_fail x_0 r81 0 w82 fun w83 => K true w83)
  (nnP x_0 fun a84 => stP (a84.add 48) (.int .i64 (IntKind.i64.wrap (n19 + 1))) w82 fun w85 => nnP x_0 fun a86 => ldS (a86.add 4) w85 fun s87 => nnP x_0 fun a88 => stP (a88.add 50) (.bool (((IntKind.i64.wrap (n19 + 1)) : Int) == (s87.l : Int))) w85 fun w89 => K true w89))
  (iteB ((n20 : Int) == 35)
  (ldI .i64 a10 w17 fun n90 => ldI .i64 (a10.add 1) w17 fun n91 => c_vm_Machine_tell x_0 n90 n91 w17 fun r92 w93 => iteB ((r92 : Int) != 0)
  (c_vm_Machine_fail x_0 r92 0 w93 fun w94 => K true w94)
  (nnP x_0 fun a95 => stP (a95.add 48) (.int .i64 (IntKind.i64.wrap (n19 + 1))) w93 fun w96 => nnP x_0 fun a97 => ldS (a97.add 4) w96 fun s98 => nnP x_0 fun a99 => stP (a99.add 50) (.bool (((IntKind.i64.wrap (n19 + 1)) : Int) == (s98.l : Int))) w96 fun w100 => K true w100))
  (ldI .i64 a10 w17 fun n101 => ldI .i64 (a10.add 1) w17 fun n102 => c_vm_Machine_reckon x_0 n101 n102 w17 fun r103 w104 => iteB ((r103 : Int) != 0)
  (c_vm_Machine_fail x_0 r103 0 w104 fun w105 => K true w105)
  (nnP x_0 fun a106 => stP (a106.add 48) (.int .i64 (IntKind.i64.wrap (n19 + 1))) w104 fun w107 => nnP x_0 fun a108 => ldS (a108.add 4) w107 fun s109 => nnP x_0 fun a110 => stP (a110.add 50) (.bool (((IntKind.i64.wrap (n19 + 1)) : Int) == (s109.l : Int))) w107 fun w111 => K true w111)))))))))))

def c_vm_Machine_Step (x_0 : Option Addr) (w : World) (K : Bool → World → Prop) : Prop := Calls Try.prog 23 #[.pointer x_0] w (onRet (fun v w' => ∃ (y0 : Bool), v = .bool y0 ∧ K y0 w'))

theorem sim_vm_Machine_Step {x_0 : Option Addr} {w : World} {K : Bool → World → Prop} (h : sh_vm_Machine_Step c_vm_Machine_fail c_vm_Machine_pop c_vm_Machine_tell c_vm_Machine_reckon x_0 w K) : c_vm_Machine_Step x_0 w K := by
  have e : sh_vm_Machine_Step c_vm_Machine_fail c_vm_Machine_pop c_vm_Machine_tell c_vm_Machine_reckon x_0 w K = shF Try.prog 23 ⟨[(3, .of [0, 1, 2, 3, 4, 5, 6, 7, 8, 9, 10, 11, 12])], [], []⟩ [.pointer x_0] w (fun v w' => decV .b v fun y0 => K y0 w') := by kernel_rfl
  exact Calls.mono (calls_of _ e h) (onRet_mono (fun _ _ h => decV_spec h))

-- 90 (*prelude/preluderef05.Machine).lay; callees []
def sh_preluderef05_Machine_lay (m_0 : Option Addr) (v_1 : Int) (w : World) (K : World → Prop) : Prop :=
  nnP m_0 fun a1 => ldS (a1.add 7) w fun s2 => newP #[.int .i64 v_1] 2 w fun a3 w4 => apP Try.prog #[25, 25] 25 [.slice s2.a s2.l s2.c, .slice (some a3) 1 1] w4 fun s6 w5 => nnP m_0 fun a7 => stP (a7.add 7) (.slice s6.a s6.l s6.c) w5 fun w8 => K w8

def c_preluderef05_Machine_lay (m_0 : Option Addr) (v_1 : Int) (w : World) (K : World → Prop) : Prop := Calls Try.prog 90 #[.pointer m_0, .int .i64 v_1] w (onRet (fun v w' => v = .tuple #[] ∧ K w'))

theorem sim_preluderef05_Machine_lay {m_0 : Option Addr} {v_1 : Int} {w : World} {K : World → Prop} (h : sh_preluderef05_Machine_lay m_0 v_1 w K) : c_preluderef05_Machine_lay m_0 v_1 w K := by
  have e : sh_preluderef05_Machine_lay m_0 v_1 w K = shF Try.prog 90 ⟨[], [], []⟩ [.pointer m_0, .int .i64 v_1] w (fun v w' => decU v (K w')) := by kernel_rfl
  exact Calls.mono (calls_of _ e h) (onRet_mono (fun _ _ h => decU_spec h))

-- 91 (*prelude/preluderef05.Machine).take; callees []
def sh_preluderef05_Machine_take (m_0 : Option Addr) (w : World) (K : Int → World → Prop) : Prop :=
  nnP m_0 fun a1 => ldS (a1.add 7) w fun s2 => iteB (decide (((IntKind.i64.wrap ((s2.l : Int) - 1)) : Int) < 0))
  (K 0 w)
  (nnP m_0 fun a3 => ldS (a3.add 7) w fun s4 => idxP s4.a s4.l (IntKind.i64.wrap ((s2.l : Int) - 1)) 1 fun a5 => ldI .i64 a5 w fun n6 => nnP m_0 fun a7 => ldS (a7.add 7) w fun s8 => slP s8.a s8.l s8.c none (some (IntKind.i64.wrap ((s2.l : Int) - 1))) 1 fun p9 l10 c11 => nnP m_0 fun a12 => stP (a12.add 7) (.slice p9 l10 c11) w fun w13 => K n6 w13)

def c_preluderef05_Machine_take (m_0 : Option Addr) (w : World) (K : Int → World → Prop) : Prop := Calls Try.prog 91 #[.pointer m_0] w (onRet (fun v w' => ∃ (y0 : Int), v = .int .i64 y0 ∧ K y0 w'))

theorem sim_preluderef05_Machine_take {m_0 : Option Addr} {w : World} {K : Int → World → Prop} (h : sh_preluderef05_Machine_take m_0 w K) : c_preluderef05_Machine_take m_0 w K := by
  have e : sh_preluderef05_Machine_take m_0 w K = shF Try.prog 91 ⟨[], [], []⟩ [.pointer m_0] w (fun v w' => decV (.int .i64) v fun y0 => K y0 w') := by kernel_rfl
  exact Calls.mono (calls_of _ e h) (onRet_mono (fun _ _ h => decV_spec h))

-- 92 (*prelude/preluderef05.Machine).value; callees []
def sh_preluderef05_Machine_value (m_0 : Option Addr) (i_1 : Int) (w : World) (K : Int → World → Prop) : Prop :=
  nnP m_0 fun a1 => ldS (a1.add 6) w fun s2 => idxP s2.a s2.l i_1 2 fun a3 => ldB a3 w fun t4 => ldI .i64 (a3.add 1) w fun n5 => newP #[.bool false, .int .i64 0] 58 w fun a6 w7 => stP a6 (.bool t4) w7 fun w8 => stP (a6.add 1) (.int .i64 n5) w8 fun w9 => ldB a6 w9 fun t10 => iteB (!t10)
  (K 0 w9)
  (ldI .i64 (a6.add 1) w9 fun n11 => K n11 w9)

def c_preluderef05_Machine_value (m_0 : Option Addr) (i_1 : Int) (w : World) (K : Int → World → Prop) : Prop := Calls Try.prog 92 #[.pointer m_0, .int .i64 i_1] w (onRet (fun v w' => ∃ (y0 : Int), v = .int .i64 y0 ∧ K y0 w'))

theorem sim_preluderef05_Machine_value {m_0 : Option Addr} {i_1 : Int} {w : World} {K : Int → World → Prop} (h : sh_preluderef05_Machine_value m_0 i_1 w K) : c_preluderef05_Machine_value m_0 i_1 w K := by
  have e : sh_preluderef05_Machine_value m_0 i_1 w K = shF Try.prog 92 ⟨[], [], []⟩ [.pointer m_0, .int .i64 i_1] w (fun v w' => decV (.int .i64) v fun y0 => K y0 w') := by kernel_rfl
  exact Calls.mono (calls_of _ e h) (onRet_mono (fun _ _ h => decV_spec h))

-- 93 prelude/preluderef05.truth; callees []
def sh_preluderef05_truth (b_0 : Bool) (w : World) (K : Int → World → Prop) : Prop :=
  iteB b_0
  (K 1 w)
  (K 0 w)

def c_preluderef05_truth (b_0 : Bool) (w : World) (K : Int → World → Prop) : Prop := Calls Try.prog 93 #[.bool b_0] w (onRet (fun v w' => ∃ (y0 : Int), v = .int .i64 y0 ∧ K y0 w'))

theorem sim_preluderef05_truth {b_0 : Bool} {w : World} {K : Int → World → Prop} (h : sh_preluderef05_truth b_0 w K) : c_preluderef05_truth b_0 w K := by
  have e : sh_preluderef05_truth b_0 w K = shF Try.prog 93 ⟨[], [], []⟩ [.bool b_0] w (fun v w' => decV (.int .i64) v fun y0 => K y0 w') := by kernel_rfl
  exact Calls.mono (calls_of _ e h) (onRet_mono (fun _ _ h => decV_spec h))

-- 69 (*prelude/preluderef05.Machine).simple; callees ['preluderef05_Machine_lay', 'preluderef05_Machine_take', 'preluderef05_Machine_value', 'preluderef05_truth']
def sh_preluderef05_Machine_simple (c_preluderef05_Machine_lay : Option Addr → Int → World → (World → Prop) → Prop) (c_preluderef05_Machine_take : Option Addr → World → (Int → World → Prop) → Prop) (c_preluderef05_Machine_value : Option Addr → Int → World → (Int → World → Prop) → Prop) (c_preluderef05_truth : Bool → World → (Int → World → Prop) → Prop) (x_0 : Option Addr) (x_1 : ByteArray) (x_2 : Int) (w : World) (K : Bool → World → Prop) : Prop :=
  iteB ((x_1).toList == (ByteArray.mk #[112, 117, 115, 104]).toList)
  (c_preluderef05_Machine_lay x_0 x_2 w fun w1 => K true w1)
  (iteB ((x_1).toList == (ByteArray.mk #[112, 111, 112]).toList)
  (c_preluderef05_Machine_take x_0 w fun r2 w3 => K true w3)
  (iteB ((x_1).toList == (ByteArray.mk #[100, 117, 112]).toList)
  (c_preluderef05_Machine_take x_0 w fun r4 w5 => c_preluderef05_Machine_lay x_0 r4 w5 fun w6 => c_preluderef05_Machine_lay x_0 r4 w6 fun w7 => K true w7)
  (iteB ((x_1).toList == (ByteArray.mk #[108, 111, 97, 100]).toList)
  (nnP x_0 fun a8 => ldS (a8.add 8) w fun s9 => idxP s9.a s9.l x_2 1 fun a10 => ldI .i64 a10 w fun n11 => c_preluderef05_Machine_lay x_0 n11 w fun w12 => K true w12)
  (iteB ((x_1).toList == (ByteArray.mk #[115, 97, 118, 101]).toList)
  (c_preluderef05_Machine_take x_0 w fun r13 w14 => nnP x_0 fun a15 => ldS (a15.add 8) w14 fun s16 => idxP s16.a s16.l x_2 1 fun a17 => stP a17 (.int .i64 r13) w14 fun w18 => K true w18)
  (iteB ((x_1).toList == (ByteArray.mk #[97, 114, 103]).toList)
  (nnP x_0 fun a19 => ldS (a19.add 5) w fun s20 => idxP s20.a s20.l x_2 1 fun a21 => ldI .i64 a21 w fun n22 => c_preluderef05_Machine_lay x_0 n22 w fun w23 => K true w23)
  (iteB ((x_1).toList == (ByteArray.mk #[103, 101, 116]).toList)
  (c_preluderef05_Machine_value x_0 x_2 w fun r24 w25 => c_preluderef05_Machine_lay x_0 r24 w25 fun w26 => K true w26)
  (iteB ((x_1).toList == (ByteArray.mk #[104, 97, 115]).toList)
  (nnP x_0 fun a27 => ldS (a27.add 6) w fun s28 => idxP s28.a s28.l x_2 2 fun a29 => ldB a29 w fun t30 => c_preluderef05_truth t30 w fun r31 w32 => c_preluderef05_Machine_lay x_0 r31 w32 fun w33 => K true w33)
  (iteB ((x_1).toList == (ByteArray.mk #[110, 101, 103]).toList)
  (c_preluderef05_Machine_take x_0 w fun r34 w35 => c_preluderef05_Machine_lay x_0 (IntKind.i64.wrap (0 - r34)) w35 fun w36 => K true w36)
  (iteB ((x_1).toList == (ByteArray.mk #[110, 111, 116]).toList)
  (c_preluderef05_Machine_take x_0 w fun r37 w38 => c_preluderef05_truth ((r37 : Int) == 0) w38 fun r39 w40 => c_preluderef05_Machine_lay x_0 r39 w40 fun w41 => K true w41)
  (iteB ((x_1).toList == (ByteArray.mk #[106, 117, 109, 112]).toList)
  (nnP x_0 fun a42 => stP (a42.add 11) (.int .i64 x_2) w fun w43 => K true w43)
  (iteB ((x_1).toList == (ByteArray.mk #[122, 101, 114, 111]).toList)
  (c_preluderef05_Machine_take x_0 w fun r44 w45 => iteB ((r44 : Int) == 0)
  (nnP x_0 fun a46 => stP (a46.add 11) (.int .i64 x_2) w45 fun w47 => K true w47)
  (K true w45))
  (K false w))))))))))))

def c_preluderef05_Machine_simple (x_0 : Option Addr) (x_1 : ByteArray) (x_2 : Int) (w : World) (K : Bool → World → Prop) : Prop := Calls Try.prog 69 #[.pointer x_0, .string x_1, .int .i64 x_2] w (onRet (fun v w' => ∃ (y0 : Bool), v = .bool y0 ∧ K y0 w'))

theorem sim_preluderef05_Machine_simple {x_0 : Option Addr} {x_1 : ByteArray} {x_2 : Int} {w : World} {K : Bool → World → Prop} (h : sh_preluderef05_Machine_simple c_preluderef05_Machine_lay c_preluderef05_Machine_take c_preluderef05_Machine_value c_preluderef05_truth x_0 x_1 x_2 w K) : c_preluderef05_Machine_simple x_0 x_1 x_2 w K := by
  have e : sh_preluderef05_Machine_simple c_preluderef05_Machine_lay c_preluderef05_Machine_take c_preluderef05_Machine_value c_preluderef05_truth x_0 x_1 x_2 w K = shF Try.prog 69 ⟨[], [], []⟩ [.pointer x_0, .string x_1, .int .i64 x_2] w (fun v w' => decV .b v fun y0 => K y0 w') := by kernel_rfl
  exact Calls.mono (calls_of _ e h) (onRet_mono (fun _ _ h => decV_spec h))

-- 94 (*prelude/preluderef05.Machine).put; callees []
def sh_preluderef05_Machine_put (m_0 : Option Addr) (i_1 : Int) (kind_2 : Int) (v_3 : Int) (w : World) (K : Int → World → Prop) : Prop :=
  iteB (decide ((i_1 : Int) < 0))
  (K 203 w)
  (nnP m_0 fun a1 => ldS (a1.add 10) w fun s2 => iteB (decide ((i_1 : Int) ≥ (s2.l : Int)))
  (K 203 w)
  (nnP m_0 fun a3 => ldS (a3.add 10) w fun s4 => idxP s4.a s4.l i_1 2 fun a5 => stP a5 (.int .i64 kind_2) w fun w6 => stP (a5.add 1) (.int .i64 v_3) w6 fun w7 => K 0 w7))

def c_preluderef05_Machine_put (m_0 : Option Addr) (i_1 : Int) (kind_2 : Int) (v_3 : Int) (w : World) (K : Int → World → Prop) : Prop := Calls Try.prog 94 #[.pointer m_0, .int .i64 i_1, .int .i64 kind_2, .int .i64 v_3] w (onRet (fun v w' => ∃ (y0 : Int), v = .int .i64 y0 ∧ K y0 w'))

theorem sim_preluderef05_Machine_put {m_0 : Option Addr} {i_1 : Int} {kind_2 : Int} {v_3 : Int} {w : World} {K : Int → World → Prop} (h : sh_preluderef05_Machine_put m_0 i_1 kind_2 v_3 w K) : c_preluderef05_Machine_put m_0 i_1 kind_2 v_3 w K := by
  have e : sh_preluderef05_Machine_put m_0 i_1 kind_2 v_3 w K = shF Try.prog 94 ⟨[], [], []⟩ [.pointer m_0, .int .i64 i_1, .int .i64 kind_2, .int .i64 v_3] w (fun v w' => decV (.int .i64) v fun y0 => K y0 w') := by kernel_rfl
  exact Calls.mono (calls_of _ e h) (onRet_mono (fun _ _ h => decV_spec h))

-- 96 prelude/preluderef05.shift; callees []
def sh_preluderef05_shift (left_0 : Bool) (x_1 : Int) (y_2 : Int) (w : World) (K : Int → World → Prop) : Prop :=
  loopP (σ := Int × Int × Unit) (fun st2 next1 w3 => (fun (x_4 : Int) (k_5 : Int) => iteB (decide ((k_5 : Int) < y_2))
  (iteB (decide ((k_5 : Int) < 64))
  (iteB left_0
  (next1 ((IntKind.i64.wrap (x_4 * 2)), (IntKind.i64.wrap (k_5 + 1)), ()) w3)
  (iteB (decide ((x_4 : Int) < 0))
  (dzP 2 (next1 ((IntKind.i64.wrap (Int.tdiv (IntKind.i64.wrap (x_4 - (bAnd .i64 x_4 1))) 2)), (IntKind.i64.wrap (k_5 + 1)), ()) w3))
  (dzP 2 (next1 ((IntKind.i64.wrap (Int.tdiv x_4 2)), (IntKind.i64.wrap (k_5 + 1)), ()) w3))))
  (K x_4 w3))
  (K x_4 w3)) st2.1 st2.2.1) (x_1, 0, ()) w

def c_preluderef05_shift (left_0 : Bool) (x_1 : Int) (y_2 : Int) (w : World) (K : Int → World → Prop) : Prop := Calls Try.prog 96 #[.bool left_0, .int .i64 x_1, .int .i64 y_2] w (onRet (fun v w' => ∃ (y0 : Int), v = .int .i64 y0 ∧ K y0 w'))

theorem sim_preluderef05_shift {left_0 : Bool} {x_1 : Int} {y_2 : Int} {w : World} {K : Int → World → Prop} (h : sh_preluderef05_shift left_0 x_1 y_2 w K) : c_preluderef05_shift left_0 x_1 y_2 w K := by
  have e : sh_preluderef05_shift left_0 x_1 y_2 w K = shF Try.prog 96 ⟨[], [(2, [(1, (.int .i64)), (7, (.int .i64))], [0, 2])], []⟩ [.bool left_0, .int .i64 x_1, .int .i64 y_2] w (fun v w' => decV (.int .i64) v fun y0 => K y0 w') := by kernel_rfl
  exact Calls.mono (calls_of _ e h) (onRet_mono (fun _ _ h => decV_spec h))

-- 97 prelude/preluderef05.compared; callees ['preluderef05_truth']
def sh_preluderef05_compared (c_preluderef05_truth : Bool → World → (Int → World → Prop) → Prop) (name_0 : ByteArray) (x_1 : Int) (y_2 : Int) (w : World) (K : Int → World → Prop) : Prop :=
  iteB ((name_0).toList == (ByteArray.mk #[101, 113]).toList)
  (c_preluderef05_truth ((x_1 : Int) == y_2) w fun r1 w2 => K r1 w2)
  (iteB ((name_0).toList == (ByteArray.mk #[110, 101]).toList)
  (c_preluderef05_truth ((x_1 : Int) != y_2) w fun r3 w4 => K r3 w4)
  (iteB ((name_0).toList == (ByteArray.mk #[108, 116]).toList)
  (c_preluderef05_truth (decide ((x_1 : Int) < y_2)) w fun r5 w6 => K r5 w6)
  (iteB ((name_0).toList == (ByteArray.mk #[108, 101]).toList)
  (c_preluderef05_truth (decide ((x_1 : Int) ≤ y_2)) w fun r7 w8 => K r7 w8)
  (iteB ((name_0).toList == (ByteArray.mk #[103, 116]).toList)
  (c_preluderef05_truth (decide ((x_1 : Int) > y_2)) w fun r9 w10 => K r9 w10)
  (iteB ((name_0).toList == (ByteArray.mk #[103, 101]).toList)
  (c_preluderef05_truth (decide ((x_1 : Int) ≥ y_2)) w fun r11 w12 => K r11 w12)
  (iteB ((name_0).toList == (ByteArray.mk #[109, 105, 110]).toList)
  (iteB (decide ((y_2 : Int) < x_1))
  (K y_2 w)
  (K x_1 w))
  (iteB (decide ((y_2 : Int) > x_1))
  (K y_2 w)
  (K x_1 w))))))))

def c_preluderef05_compared (name_0 : ByteArray) (x_1 : Int) (y_2 : Int) (w : World) (K : Int → World → Prop) : Prop := Calls Try.prog 97 #[.string name_0, .int .i64 x_1, .int .i64 y_2] w (onRet (fun v w' => ∃ (y0 : Int), v = .int .i64 y0 ∧ K y0 w'))

theorem sim_preluderef05_compared {name_0 : ByteArray} {x_1 : Int} {y_2 : Int} {w : World} {K : Int → World → Prop} (h : sh_preluderef05_compared c_preluderef05_truth name_0 x_1 y_2 w K) : c_preluderef05_compared name_0 x_1 y_2 w K := by
  have e : sh_preluderef05_compared c_preluderef05_truth name_0 x_1 y_2 w K = shF Try.prog 97 ⟨[], [], []⟩ [.string name_0, .int .i64 x_1, .int .i64 y_2] w (fun v w' => decV (.int .i64) v fun y0 => K y0 w') := by kernel_rfl
  exact Calls.mono (calls_of _ e h) (onRet_mono (fun _ _ h => decV_spec h))

-- 95 prelude/preluderef05.two; callees ['preluderef05_truth', 'preluderef05_shift', 'preluderef05_compared']
def sh_preluderef05_two (c_preluderef05_truth : Bool → World → (Int → World → Prop) → Prop) (c_preluderef05_shift : Bool → Int → Int → World → (Int → World → Prop) → Prop) (c_preluderef05_compared : ByteArray → Int → Int → World → (Int → World → Prop) → Prop) (x_0 : ByteArray) (x_1 : Int) (x_2 : Int) (w : World) (K : Int → Int → World → Prop) : Prop :=
  iteB ((x_0).toList == (ByteArray.mk #[97, 100, 100]).toList)
  (K (IntKind.i64.wrap (x_1 + x_2)) 0 w)
  (iteB ((x_0).toList == (ByteArray.mk #[115, 117, 98]).toList)
  (K (IntKind.i64.wrap (x_1 - x_2)) 0 w)
  (iteB ((x_0).toList == (ByteArray.mk #[109, 117, 108]).toList)
  (K (IntKind.i64.wrap (x_1 * x_2)) 0 w)
  (iteB ((x_0).toList == (ByteArray.mk #[100, 105, 118]).toList)
  (iteB ((x_2 : Int) == 0)
  (K 0 201 w)
  (iteB ((x_2 : Int) == (-1))
  (c_preluderef05_truth ((x_0).toList == (ByteArray.mk #[100, 105, 118]).toList) w fun r1 w2 => K (IntKind.i64.wrap ((IntKind.i64.wrap (0 - x_1)) * r1)) 0 w2)
  (iteB ((x_0).toList == (ByteArray.mk #[100, 105, 118]).toList)
  (dzP x_2 (K (IntKind.i64.wrap (Int.tdiv x_1 x_2)) 0 w))
  (dzP x_2 (K (Int.tmod x_1 x_2) 0 w)))))
  (iteB ((x_0).toList == (ByteArray.mk #[109, 111, 100]).toList)
  (iteB ((x_2 : Int) == 0)
  (K 0 201 w)
  (iteB ((x_2 : Int) == (-1))
  (c_preluderef05_truth ((x_0).toList == (ByteArray.mk #[100, 105, 118]).toList) w fun r3 w4 => K (IntKind.i64.wrap ((IntKind.i64.wrap (0 - x_1)) * r3)) 0 w4)
  (iteB ((x_0).toList == (ByteArray.mk #[100, 105, 118]).toList)
  (dzP x_2 (K (IntKind.i64.wrap (Int.tdiv x_1 x_2)) 0 w))
  (dzP x_2 (K (Int.tmod x_1 x_2) 0 w)))))
  (iteB ((x_0).toList == (ByteArray.mk #[97, 110, 100]).toList)
  (K (bAnd .i64 x_1 x_2) 0 w)
  (iteB ((x_0).toList == (ByteArray.mk #[111, 114]).toList)
  (K (bOr .i64 x_1 x_2) 0 w)
  (iteB ((x_0).toList == (ByteArray.mk #[120, 111, 114]).toList)
  (K (bXor .i64 x_1 x_2) 0 w)
  (iteB ((x_0).toList == (ByteArray.mk #[115, 104, 108]).toList)
  (iteB (decide ((x_2 : Int) < 0))
  (K 0 202 w)
  (c_preluderef05_shift ((x_0).toList == (ByteArray.mk #[115, 104, 108]).toList) x_1 x_2 w fun r5 w6 => K r5 0 w6))
  (iteB ((x_0).toList == (ByteArray.mk #[115, 104, 114]).toList)
  (iteB (decide ((x_2 : Int) < 0))
  (K 0 202 w)
  (c_preluderef05_shift ((x_0).toList == (ByteArray.mk #[115, 104, 108]).toList) x_1 x_2 w fun r7 w8 => K r7 0 w8))
  (c_preluderef05_compared x_0 x_1 x_2 w fun r9 w10 => K r9 0 w10))))))))))

def c_preluderef05_two (x_0 : ByteArray) (x_1 : Int) (x_2 : Int) (w : World) (K : Int → Int → World → Prop) : Prop := Calls Try.prog 95 #[.string x_0, .int .i64 x_1, .int .i64 x_2] w (onRet (fun v w' => ∃ (y0 : Int), ∃ (y1 : Int), v = .tuple #[.int .i64 y0, .int .i64 y1] ∧ K y0 y1 w'))

theorem sim_preluderef05_two {x_0 : ByteArray} {x_1 : Int} {x_2 : Int} {w : World} {K : Int → Int → World → Prop} (h : sh_preluderef05_two c_preluderef05_truth c_preluderef05_shift c_preluderef05_compared x_0 x_1 x_2 w K) : c_preluderef05_two x_0 x_1 x_2 w K := by
  have e : sh_preluderef05_two c_preluderef05_truth c_preluderef05_shift c_preluderef05_compared x_0 x_1 x_2 w K = shF Try.prog 95 ⟨[], [], []⟩ [.string x_0, .int .i64 x_1, .int .i64 x_2] w (fun v w' => decT [(false, [(.int .i64)]), (false, [(.int .i64)])] v fun s => (fun (y0 : Int) (y1 : Int) => K y0 y1 w') s.1 s.2.1) := by kernel_rfl
  exact Calls.mono (calls_of _ e h) (onRet_mono (fun _ _ h => by obtain ⟨s, h1, h2⟩ := decT_spec h; exact ⟨s.1, s.2.1, h1, h2⟩))

-- 70 (*prelude/preluderef05.Machine).other; callees ['preluderef05_Machine_take', 'preluderef05_Machine_value', 'preluderef05_Machine_lay', 'preluderef05_Machine_put', 'preluderef05_two']
def sh_preluderef05_Machine_other (c_preluderef05_Machine_take : Option Addr → World → (Int → World → Prop) → Prop) (c_preluderef05_Machine_value : Option Addr → Int → World → (Int → World → Prop) → Prop) (c_preluderef05_Machine_lay : Option Addr → Int → World → (World → Prop) → Prop) (c_preluderef05_Machine_put : Option Addr → Int → Int → Int → World → (Int → World → Prop) → Prop) (c_preluderef05_two : ByteArray → Int → Int → World → (Int → Int → World → Prop) → Prop) (x_0 : Option Addr) (x_1 : ByteArray) (x_2 : Int) (w : World) (K : Int → Int → World → Prop) : Prop :=
  iteB ((x_1).toList == (ByteArray.mk #[103, 101, 116, 120]).toList)
  (c_preluderef05_Machine_take x_0 w fun r1 w2 => iteB (decide ((r1 : Int) < 0))
  (K 203 0 w2)
  (nnP x_0 fun a3 => ldS (a3.add 6) w2 fun s4 => iteB (decide ((r1 : Int) ≥ (s4.l : Int)))
  (K 203 0 w2)
  (c_preluderef05_Machine_value x_0 r1 w2 fun r5 w6 => c_preluderef05_Machine_lay x_0 r5 w6 fun w7 => K 0 0 w7)))
  (iteB ((x_1).toList == (ByteArray.mk #[112, 117, 116]).toList)
  (c_preluderef05_Machine_take x_0 w fun r8 w9 => c_preluderef05_Machine_put x_0 x_2 1 r8 w9 fun r10 w11 => K r10 0 w11)
  (iteB ((x_1).toList == (ByteArray.mk #[100, 101, 108]).toList)
  (c_preluderef05_Machine_put x_0 x_2 2 0 w fun r12 w13 => K r12 0 w13)
  (iteB ((x_1).toList == (ByteArray.mk #[112, 117, 116, 120]).toList)
  (c_preluderef05_Machine_take x_0 w fun r14 w15 => c_preluderef05_Machine_take x_0 w15 fun r16 w17 => c_preluderef05_Machine_put x_0 r16 1 r14 w17 fun r18 w19 => K r18 0 w19)
  (iteB ((x_1).toList == (ByteArray.mk #[111, 117, 116]).toList)
  (c_preluderef05_Machine_take x_0 w fun r20 w21 => nnP x_0 fun a22 => ldS (a22.add 9) w21 fun s23 => iteB (((s23.l : Int) : Int) == 16)
  (K 204 0 w21)
  (nnP x_0 fun a24 => ldS (a24.add 9) w21 fun s25 => newP #[.int .i64 r20] 2 w21 fun a26 w27 => apP Try.prog #[25, 25] 25 [.slice s25.a s25.l s25.c, .slice (some a26) 1 1] w27 fun s29 w28 => nnP x_0 fun a30 => stP (a30.add 9) (.slice s29.a s29.l s29.c) w28 fun w31 => K 0 0 w31))
  (iteB ((x_1).toList == (ByteArray.mk #[97, 98, 111, 114, 116]).toList)
  (c_preluderef05_Machine_take x_0 w fun r32 w33 => K 200 r32 w33)
  (c_preluderef05_Machine_take x_0 w fun r34 w35 => c_preluderef05_Machine_take x_0 w35 fun r36 w37 => c_preluderef05_two x_1 r36 r34 w37 fun r38 r39 w40 => c_preluderef05_Machine_lay x_0 r38 w40 fun w41 => K r39 0 w41))))))

def c_preluderef05_Machine_other (x_0 : Option Addr) (x_1 : ByteArray) (x_2 : Int) (w : World) (K : Int → Int → World → Prop) : Prop := Calls Try.prog 70 #[.pointer x_0, .string x_1, .int .i64 x_2] w (onRet (fun v w' => ∃ (y0 : Int), ∃ (y1 : Int), v = .tuple #[.int .i64 y0, .int .i64 y1] ∧ K y0 y1 w'))

theorem sim_preluderef05_Machine_other {x_0 : Option Addr} {x_1 : ByteArray} {x_2 : Int} {w : World} {K : Int → Int → World → Prop} (h : sh_preluderef05_Machine_other c_preluderef05_Machine_take c_preluderef05_Machine_value c_preluderef05_Machine_lay c_preluderef05_Machine_put c_preluderef05_two x_0 x_1 x_2 w K) : c_preluderef05_Machine_other x_0 x_1 x_2 w K := by
  have e : sh_preluderef05_Machine_other c_preluderef05_Machine_take c_preluderef05_Machine_value c_preluderef05_Machine_lay c_preluderef05_Machine_put c_preluderef05_two x_0 x_1 x_2 w K = shF Try.prog 70 ⟨[], [], []⟩ [.pointer x_0, .string x_1, .int .i64 x_2] w (fun v w' => decT [(false, [(.int .i64)]), (false, [(.int .i64)])] v fun s => (fun (y0 : Int) (y1 : Int) => K y0 y1 w') s.1 s.2.1) := by kernel_rfl
  exact Calls.mono (calls_of _ e h) (onRet_mono (fun _ _ h => by obtain ⟨s, h1, h2⟩ := decT_spec h; exact ⟨s.1, s.2.1, h1, h2⟩))

-- 71 (*prelude/preluderef05.Machine).fails; callees []
def sh_preluderef05_Machine_fails (m_0 : Option Addr) (code_1 : Int) (user_2 : Int) (w : World) (K : World → Prop) : Prop :=
  nnP m_0 fun a1 => stP (a1.add 14) (.int .i64 code_1) w fun w2 => nnP m_0 fun a3 => stP (a3.add 15) (.int .i64 user_2) w2 fun w4 => nnP m_0 fun a5 => stP (a5.add 13) (.bool true) w4 fun w6 => nnP m_0 fun a7 => ldI .i64 (a7.add 11) w6 fun n8 => nnP m_0 fun a9 => stP (a9.add 11) (.int .i64 (IntKind.i64.wrap (n8 - 1))) w6 fun w10 => nnP m_0 fun a11 => stP (a11.add 7) (.slice none 0 0) w10 fun w12 => nnP m_0 fun a13 => stP (a13.add 9) (.slice none 0 0) w12 fun w14 => nnP m_0 fun a15 => ldI .i64 (a15.add 3) w14 fun n16 => mkP Try.prog 25 (.int .i64 n16) (.int .i64 n16) w14 fun s17 w18 => nnP m_0 fun a19 => stP (a19.add 8) (.slice s17.a s17.l s17.c) w18 fun w20 => nnP m_0 fun a21 => ldI .i64 (a21.add 2) w20 fun n22 => mkP Try.prog 46 (.int .i64 n22) (.int .i64 n22) w20 fun s23 w24 => nnP m_0 fun a25 => stP (a25.add 10) (.slice s23.a s23.l s23.c) w24 fun w26 => K w26

def c_preluderef05_Machine_fails (m_0 : Option Addr) (code_1 : Int) (user_2 : Int) (w : World) (K : World → Prop) : Prop := Calls Try.prog 71 #[.pointer m_0, .int .i64 code_1, .int .i64 user_2] w (onRet (fun v w' => v = .tuple #[] ∧ K w'))

theorem sim_preluderef05_Machine_fails {m_0 : Option Addr} {code_1 : Int} {user_2 : Int} {w : World} {K : World → Prop} (h : sh_preluderef05_Machine_fails m_0 code_1 user_2 w K) : c_preluderef05_Machine_fails m_0 code_1 user_2 w K := by
  have e : sh_preluderef05_Machine_fails m_0 code_1 user_2 w K = shF Try.prog 71 ⟨[], [], []⟩ [.pointer m_0, .int .i64 code_1, .int .i64 user_2] w (fun v w' => decU v (K w')) := by kernel_rfl
  exact Calls.mono (calls_of _ e h) (onRet_mono (fun _ _ h => decU_spec h))

-- 33 (*prelude/preluderef05.Machine).Step; callees ['preluderef03_Spell', 'preluderef05_Machine_simple', 'preluderef05_Machine_other', 'preluderef05_Machine_fails']
def sh_preluderef05_Machine_Step (c_preluderef03_Spell : Int → World → (ByteArray → World → Prop) → Prop) (c_preluderef05_Machine_simple : Option Addr → ByteArray → Int → World → (Bool → World → Prop) → Prop) (c_preluderef05_Machine_other : Option Addr → ByteArray → Int → World → (Int → Int → World → Prop) → Prop) (c_preluderef05_Machine_fails : Option Addr → Int → Int → World → (World → Prop) → Prop) (x_0 : Option Addr) (w : World) (K : Bool → World → Prop) : Prop :=
  nnP x_0 fun a1 => ldB (a1.add 13) w fun t2 => iteB t2
  (K false w)
  (nnP x_0 fun a3 => ldS (a3.add 4) w.drew fun s4 => nnP x_0 fun a5 => ldI .i64 (a5.add 11) w.drew fun n6 => idxP s4.a s4.l n6 2 fun a7 => ldI .i64 a7 w.drew fun n8 => ldI .i64 (a7.add 1) w.drew fun n9 => newP #[.int .i64 0, .int .i64 0] 60 w.drew fun a10 w11 => (w11.cell? a7 = some (.int .i64 n8) ∧ w11.cell? (a7.add 1) = some (.int .i64 n9) ∧ True) ∧ w11.cell? (a5.add 11) = some (.int .i64 n6) ∧ w11.cell? (a3.add 4) = some (.slice s4.a s4.l s4.c) ∧ (stP a10 (.int .i64 n8) w11 fun w12 => stP (a10.add 1) (.int .i64 n9) w12 fun w13 => nnP x_0 fun a14 => ldI .i64 (a14.add 12) w13 fun n15 => nnP x_0 fun a16 => stP (a16.add 12) (.int .i64 (IntKind.i64.wrap (n15 + 1))) w13 fun w17 => ldI .i64 a10 w17 fun n18 => c_preluderef03_Spell n18 w17 fun r19 w20 => iteB ((r19).toList == (ByteArray.mk #[115, 116, 111, 112]).toList)
  (nnP x_0 fun a21 => stP (a21.add 13) (.bool true) w20 fun w22 => K true w22)
  (nnP x_0 fun a23 => ldI .i64 (a23.add 11) w20 fun n24 => nnP x_0 fun a25 => stP (a25.add 11) (.int .i64 (IntKind.i64.wrap (n24 + 1))) w20 fun w26 => ldI .i64 (a10.add 1) w26 fun n27 => c_preluderef05_Machine_simple x_0 r19 n27 w26 fun r28 w29 => iteB (!r28)
  (ldI .i64 (a10.add 1) w29 fun n30 => c_preluderef05_Machine_other x_0 r19 n30 w29 fun r31 r32 w33 => iteB ((r31 : Int) != 0)
  (c_preluderef05_Machine_fails x_0 r31 r32 w33 fun w34 => K true w34)
  (nnP x_0 fun a35 => ldI .i64 (a35.add 11) w33.drew fun n36 => nnP x_0 fun a37 => ldS (a37.add 4) w33.drew fun s38 => nnP x_0 fun a39 => stP (a39.add 13) (.bool ((n36 : Int) == (s38.l : Int))) w33.drew fun w40 => K true w40))
  (nnP x_0 fun a41 => ldI .i64 (a41.add 11) w29.drew fun n42 => nnP x_0 fun a43 => ldS (a43.add 4) w29.drew fun s44 => nnP x_0 fun a45 => stP (a45.add 13) (.bool ((n42 : Int) == (s44.l : Int))) w29.drew fun w46 => K true w46))))

def c_preluderef05_Machine_Step (x_0 : Option Addr) (w : World) (K : Bool → World → Prop) : Prop := Calls Try.prog 33 #[.pointer x_0] w (onRet (fun v w' => ∃ (y0 : Bool), v = .bool y0 ∧ K y0 w'))

theorem sim_preluderef05_Machine_Step {x_0 : Option Addr} {w : World} {K : Bool → World → Prop} (h : sh_preluderef05_Machine_Step c_preluderef03_Spell c_preluderef05_Machine_simple c_preluderef05_Machine_other c_preluderef05_Machine_fails x_0 w K) : c_preluderef05_Machine_Step x_0 w K := by
  have e : sh_preluderef05_Machine_Step c_preluderef03_Spell c_preluderef05_Machine_simple c_preluderef05_Machine_other c_preluderef05_Machine_fails x_0 w K = shF Try.prog 33 ⟨[(3, .of [0, 1, 2, 3, 4, 5, 6, 7, 8, 9, 10, 11, 12]), (15, .of [0, 1, 2, 3, 4, 5, 6, 7, 8, 9, 10, 11, 12, 13, 14])], [], []⟩ [.pointer x_0] w (fun v w' => decV .b v fun y0 => K y0 w') := by kernel_rfl
  exact Calls.mono (calls_of _ e h) (onRet_mono (fun _ _ h => decV_spec h))

-- 21 (*prelude/vm.Machine).Done; callees []
def sh_vm_Machine_Done (m_0 : Option Addr) (w : World) (K : Bool → World → Prop) : Prop :=
  nnP m_0 fun a1 => ldB (a1.add 50) w fun t2 => K t2 w

def c_vm_Machine_Done (m_0 : Option Addr) (w : World) (K : Bool → World → Prop) : Prop := Calls Try.prog 21 #[.pointer m_0] w (onRet (fun v w' => ∃ (y0 : Bool), v = .bool y0 ∧ K y0 w'))

theorem sim_vm_Machine_Done {m_0 : Option Addr} {w : World} {K : Bool → World → Prop} (h : sh_vm_Machine_Done m_0 w K) : c_vm_Machine_Done m_0 w K := by
  have e : sh_vm_Machine_Done m_0 w K = shF Try.prog 21 ⟨[], [], []⟩ [.pointer m_0] w (fun v w' => decV .b v fun y0 => K y0 w') := by kernel_rfl
  exact Calls.mono (calls_of _ e h) (onRet_mono (fun _ _ h => decV_spec h))

-- 24 (*prelude/vm.Machine).At; callees []
def sh_vm_Machine_At (m_0 : Option Addr) (w : World) (K : Int → World → Prop) : Prop :=
  nnP m_0 fun a1 => ldI .i64 (a1.add 48) w fun n2 => K n2 w

def c_vm_Machine_At (m_0 : Option Addr) (w : World) (K : Int → World → Prop) : Prop := Calls Try.prog 24 #[.pointer m_0] w (onRet (fun v w' => ∃ (y0 : Int), v = .int .i64 y0 ∧ K y0 w'))

theorem sim_vm_Machine_At {m_0 : Option Addr} {w : World} {K : Int → World → Prop} (h : sh_vm_Machine_At m_0 w K) : c_vm_Machine_At m_0 w K := by
  have e : sh_vm_Machine_At m_0 w K = shF Try.prog 24 ⟨[], [], []⟩ [.pointer m_0] w (fun v w' => decV (.int .i64) v fun y0 => K y0 w') := by kernel_rfl
  exact Calls.mono (calls_of _ e h) (onRet_mono (fun _ _ h => decV_spec h))

-- 34 (*prelude/vm.Machine).Stack; callees ['slices_Clone_int64_int64']
def sh_vm_Machine_Stack (c_slices_Clone_int64_int64 : Slc → World → (Slc → World → Prop) → Prop) (m_0 : Option Addr) (w : World) (K : Slc → World → Prop) : Prop :=
  nnP m_0 fun a1 => ldS (a1.add 44) w fun s2 => c_slices_Clone_int64_int64 s2 w fun r3 w4 => K r3 w4

def c_vm_Machine_Stack (m_0 : Option Addr) (w : World) (K : Slc → World → Prop) : Prop := Calls Try.prog 34 #[.pointer m_0] w (onRet (fun v w' => ∃ (y0 : Slc), v = .slice y0.a y0.l y0.c ∧ K y0 w'))

theorem sim_vm_Machine_Stack {m_0 : Option Addr} {w : World} {K : Slc → World → Prop} (h : sh_vm_Machine_Stack c_slices_Clone_int64_int64 m_0 w K) : c_vm_Machine_Stack m_0 w K := by
  have e : sh_vm_Machine_Stack c_slices_Clone_int64_int64 m_0 w K = shF Try.prog 34 ⟨[], [], []⟩ [.pointer m_0] w (fun v w' => decV .sl v fun y0 => K y0 w') := by kernel_rfl
  exact Calls.mono (calls_of _ e h) (onRet_mono (fun _ _ h => decV_spec h))

-- 35 (*prelude/vm.Machine).Locals; callees ['slices_Clone_int64_int64']
def sh_vm_Machine_Locals (c_slices_Clone_int64_int64 : Slc → World → (Slc → World → Prop) → Prop) (m_0 : Option Addr) (w : World) (K : Slc → World → Prop) : Prop :=
  nnP m_0 fun a1 => ldS (a1.add 45) w fun s2 => c_slices_Clone_int64_int64 s2 w fun r3 w4 => K r3 w4

def c_vm_Machine_Locals (m_0 : Option Addr) (w : World) (K : Slc → World → Prop) : Prop := Calls Try.prog 35 #[.pointer m_0] w (onRet (fun v w' => ∃ (y0 : Slc), v = .slice y0.a y0.l y0.c ∧ K y0 w'))

theorem sim_vm_Machine_Locals {m_0 : Option Addr} {w : World} {K : Slc → World → Prop} (h : sh_vm_Machine_Locals c_slices_Clone_int64_int64 m_0 w K) : c_vm_Machine_Locals m_0 w K := by
  have e : sh_vm_Machine_Locals c_slices_Clone_int64_int64 m_0 w K = shF Try.prog 35 ⟨[], [], []⟩ [.pointer m_0] w (fun v w' => decV .sl v fun y0 => K y0 w') := by kernel_rfl
  exact Calls.mono (calls_of _ e h) (onRet_mono (fun _ _ h => decV_spec h))

-- 38 slices.Clone[[]prelude/api.Put,prelude/api.Put]; callees []
def sh_slices_Clone_api_Put_api_Put (s_0 : Slc) (w : World) (K : Slc → World → Prop) : Prop :=
  iteB ((s_0.a).isNone)
  (K ⟨none, 0, 0⟩ w)
  (newP #[] 71 w fun a1 w2 => apP Try.prog #[46, 46] 46 [.slice (some a1) 0 0, .slice s_0.a s_0.l s_0.c] w2 fun s4 w3 => K s4 w3)

def c_slices_Clone_api_Put_api_Put (s_0 : Slc) (w : World) (K : Slc → World → Prop) : Prop := Calls Try.prog 38 #[.slice s_0.a s_0.l s_0.c] w (onRet (fun v w' => ∃ (y0 : Slc), v = .slice y0.a y0.l y0.c ∧ K y0 w'))

theorem sim_slices_Clone_api_Put_api_Put {s_0 : Slc} {w : World} {K : Slc → World → Prop} (h : sh_slices_Clone_api_Put_api_Put s_0 w K) : c_slices_Clone_api_Put_api_Put s_0 w K := by
  have e : sh_slices_Clone_api_Put_api_Put s_0 w K = shF Try.prog 38 ⟨[], [], []⟩ [.slice s_0.a s_0.l s_0.c] w (fun v w' => decV .sl v fun y0 => K y0 w') := by kernel_rfl
  exact Calls.mono (calls_of _ e h) (onRet_mono (fun _ _ h => decV_spec h))

-- 22 (*prelude/vm.Machine).Effect; callees ['slices_Clone_int64_int64', 'slices_Clone_api_Put_api_Put']
def sh_vm_Machine_Effect (c_slices_Clone_int64_int64 : Slc → World → (Slc → World → Prop) → Prop) (c_slices_Clone_api_Put_api_Put : Slc → World → (Slc → World → Prop) → Prop) (m_0 : Option Addr) (w : World) (K : Bool → Int → Int → Slc → Slc → Int → World → Prop) : Prop :=
  newP #[.bool false, .int .i64 0, .int .i64 0, .slice none 0 0, .slice none 0 0, .int .i64 0] 48 w fun a1 w2 => nnP m_0 fun a3 => ldB (a3.add 50) w2 fun t4 => iteB (!t4)
  (stP a1 (.bool false) w2 fun w5 => stP (a1.add 1) (.int .i64 0) w5 fun w6 => stP (a1.add 2) (.int .i64 0) w6 fun w7 => stP (a1.add 3) (.slice none 0 0) w7 fun w8 => stP (a1.add 4) (.slice none 0 0) w8 fun w9 => stP (a1.add 5) (.int .i64 0) w9 fun w10 => ldB a1 w10 fun t11 => ldI .i64 (a1.add 1) w10 fun n12 => ldI .i64 (a1.add 2) w10 fun n13 => ldS (a1.add 3) w10 fun s14 => ldS (a1.add 4) w10 fun s15 => ldI .i64 (a1.add 5) w10 fun n16 => K t11 n12 n13 s14 s15 n16 w10)
  (nnP m_0 fun a17 => ldI .i64 (a17.add 51) w2.drew fun n18 => nnP m_0 fun a19 => ldI .i64 (a19.add 51) w2.drew fun n20 => nnP m_0 fun a21 => ldI .i64 (a21.add 52) w2.drew fun n22 => nnP m_0 fun a23 => ldS (a23.add 46) w2.drew fun s24 => nnP m_0 fun a25 => ldS (a25.add 47) w2.drew fun s26 => nnP m_0 fun a27 => ldI .i64 (a27.add 49) w2.drew fun n28 => c_slices_Clone_int64_int64 s24 w2.drew fun r29 w30 => w30.cell? (a27.add 49) = some (.int .i64 n28) ∧ w30.cell? (a25.add 47) = some (.slice s26.a s26.l s26.c) ∧ w30.cell? (a21.add 52) = some (.int .i64 n22) ∧ w30.cell? (a19.add 51) = some (.int .i64 n20) ∧ w30.cell? (a17.add 51) = some (.int .i64 n18) ∧ (c_slices_Clone_api_Put_api_Put s26 w30 fun r31 w32 => w32.cell? (a27.add 49) = some (.int .i64 n28) ∧ w32.cell? (a21.add 52) = some (.int .i64 n22) ∧ w32.cell? (a19.add 51) = some (.int .i64 n20) ∧ w32.cell? (a17.add 51) = some (.int .i64 n18) ∧ (stP a1 (.bool ((n18 : Int) == 0)) w32 fun w33 => stP (a1.add 1) (.int .i64 n20) w33 fun w34 => stP (a1.add 2) (.int .i64 n22) w34 fun w35 => stP (a1.add 3) (.slice r29.a r29.l r29.c) w35 fun w36 => stP (a1.add 4) (.slice r31.a r31.l r31.c) w36 fun w37 => stP (a1.add 5) (.int .i64 n28) w37 fun w38 => ldB a1 w38 fun t39 => ldI .i64 (a1.add 1) w38 fun n40 => ldI .i64 (a1.add 2) w38 fun n41 => ldS (a1.add 3) w38 fun s42 => ldS (a1.add 4) w38 fun s43 => ldI .i64 (a1.add 5) w38 fun n44 => K t39 n40 n41 s42 s43 n44 w38)))

def c_vm_Machine_Effect (m_0 : Option Addr) (w : World) (K : Bool → Int → Int → Slc → Slc → Int → World → Prop) : Prop := Calls Try.prog 22 #[.pointer m_0] w (onRet (fun v w' => ∃ (y0 : Bool), ∃ (y1 : Int), ∃ (y2 : Int), ∃ (y3 : Slc), ∃ (y4 : Slc), ∃ (y5 : Int), v = .agg #[.bool y0, .int .i64 y1, .int .i64 y2, .slice y3.a y3.l y3.c, .slice y4.a y4.l y4.c, .int .i64 y5] ∧ K y0 y1 y2 y3 y4 y5 w'))

theorem sim_vm_Machine_Effect {m_0 : Option Addr} {w : World} {K : Bool → Int → Int → Slc → Slc → Int → World → Prop} (h : sh_vm_Machine_Effect c_slices_Clone_int64_int64 c_slices_Clone_api_Put_api_Put m_0 w K) : c_vm_Machine_Effect m_0 w K := by
  have e : sh_vm_Machine_Effect c_slices_Clone_int64_int64 c_slices_Clone_api_Put_api_Put m_0 w K = shF Try.prog 22 ⟨[(3, .of [0, 1, 2, 3, 4, 5, 6, 7, 8, 9, 10, 11, 12, 13, 14, 15, 16, 18, 19, 20, 21, 23, 24, 25, 26, 17, 22, 27, 28])], [], []⟩ [.pointer m_0] w (fun v w' => decA [.b, (.int .i64), (.int .i64), .sl, .sl, (.int .i64)] v fun s => (fun (y0 : Bool) (y1 : Int) (y2 : Int) (y3 : Slc) (y4 : Slc) (y5 : Int) => K y0 y1 y2 y3 y4 y5 w') s.1 s.2.1 s.2.2.1 s.2.2.2.1 s.2.2.2.2.1 s.2.2.2.2.2.1) := by kernel_rfl
  exact Calls.mono (calls_of _ e h) (onRet_mono (fun _ _ h => by obtain ⟨s, h1, h2⟩ := decA_spec h; exact ⟨s.1, s.2.1, s.2.2.1, s.2.2.2.1, s.2.2.2.2.1, s.2.2.2.2.2.1, h1, h2⟩))

-- 36 (*prelude/preluderef05.Machine).Effect; callees []
def sh_preluderef05_Machine_Effect (m_0 : Option Addr) (w : World) (K : Bool → Int → Int → Slc → Slc → Int → World → Prop) : Prop :=
  newP #[.bool false, .int .i64 0, .int .i64 0, .slice none 0 0, .slice none 0 0, .int .i64 0] 48 w fun a1 w2 => nnP m_0 fun a3 => ldB (a3.add 13) w2 fun t4 => iteB (!t4)
  (stP a1 (.bool false) w2 fun w5 => stP (a1.add 1) (.int .i64 0) w5 fun w6 => stP (a1.add 2) (.int .i64 0) w6 fun w7 => stP (a1.add 3) (.slice none 0 0) w7 fun w8 => stP (a1.add 4) (.slice none 0 0) w8 fun w9 => stP (a1.add 5) (.int .i64 0) w9 fun w10 => ldB a1 w10 fun t11 => ldI .i64 (a1.add 1) w10 fun n12 => ldI .i64 (a1.add 2) w10 fun n13 => ldS (a1.add 3) w10 fun s14 => ldS (a1.add 4) w10 fun s15 => ldI .i64 (a1.add 5) w10 fun n16 => K t11 n12 n13 s14 s15 n16 w10)
  (nnP m_0 fun a17 => ldI .i64 (a17.add 14) w2.drew fun n18 => nnP m_0 fun a19 => ldI .i64 (a19.add 14) w2.drew fun n20 => nnP m_0 fun a21 => ldI .i64 (a21.add 15) w2.drew fun n22 => nnP m_0 fun a23 => ldI .i64 (a23.add 12) w2.drew fun n24 => newP #[.bool false, .int .i64 0, .int .i64 0, .slice none 0 0, .slice none 0 0, .int .i64 0] 48 w2.drew fun a25 w26 => w26.cell? (a23.add 12) = some (.int .i64 n24) ∧ w26.cell? (a21.add 15) = some (.int .i64 n22) ∧ w26.cell? (a19.add 14) = some (.int .i64 n20) ∧ w26.cell? (a17.add 14) = some (.int .i64 n18) ∧ (stP a25 (.bool ((n18 : Int) == 0)) w26 fun w27 => stP (a25.add 1) (.int .i64 n20) w27 fun w28 => stP (a25.add 2) (.int .i64 n22) w28 fun w29 => stP (a25.add 3) (.slice none 0 0) w29 fun w30 => stP (a25.add 4) (.slice none 0 0) w30 fun w31 => stP (a25.add 5) (.int .i64 n24) w31 fun w32 => ldS (a25.add 3) w32.drew fun s33 => nnP m_0 fun a34 => ldS (a34.add 9) w32.drew fun s35 => apP Try.prog #[25, 25] 25 [.slice s33.a s33.l s33.c, .slice s35.a s35.l s35.c] w32.drew fun s37 w36 => stP (a25.add 3) (.slice s37.a s37.l s37.c) w36 fun w38 => ldS (a25.add 4) w38.drew fun s39 => nnP m_0 fun a40 => ldS (a40.add 10) w38.drew fun s41 => apP Try.prog #[46, 46] 46 [.slice s39.a s39.l s39.c, .slice s41.a s41.l s41.c] w38.drew fun s43 w42 => stP (a25.add 4) (.slice s43.a s43.l s43.c) w42 fun w44 => ldB a25 w44 fun t45 => ldI .i64 (a25.add 1) w44 fun n46 => ldI .i64 (a25.add 2) w44 fun n47 => ldS (a25.add 3) w44 fun s48 => ldS (a25.add 4) w44 fun s49 => ldI .i64 (a25.add 5) w44 fun n50 => stP a1 (.bool t45) w44 fun w51 => stP (a1.add 1) (.int .i64 n46) w51 fun w52 => stP (a1.add 2) (.int .i64 n47) w52 fun w53 => stP (a1.add 3) (.slice s48.a s48.l s48.c) w53 fun w54 => stP (a1.add 4) (.slice s49.a s49.l s49.c) w54 fun w55 => stP (a1.add 5) (.int .i64 n50) w55 fun w56 => ldB a1 w56 fun t57 => ldI .i64 (a1.add 1) w56 fun n58 => ldI .i64 (a1.add 2) w56 fun n59 => ldS (a1.add 3) w56 fun s60 => ldS (a1.add 4) w56 fun s61 => ldI .i64 (a1.add 5) w56 fun n62 => K t57 n58 n59 s60 s61 n62 w56))

def c_preluderef05_Machine_Effect (m_0 : Option Addr) (w : World) (K : Bool → Int → Int → Slc → Slc → Int → World → Prop) : Prop := Calls Try.prog 36 #[.pointer m_0] w (onRet (fun v w' => ∃ (y0 : Bool), ∃ (y1 : Int), ∃ (y2 : Int), ∃ (y3 : Slc), ∃ (y4 : Slc), ∃ (y5 : Int), v = .agg #[.bool y0, .int .i64 y1, .int .i64 y2, .slice y3.a y3.l y3.c, .slice y4.a y4.l y4.c, .int .i64 y5] ∧ K y0 y1 y2 y3 y4 y5 w'))

theorem sim_preluderef05_Machine_Effect {m_0 : Option Addr} {w : World} {K : Bool → Int → Int → Slc → Slc → Int → World → Prop} (h : sh_preluderef05_Machine_Effect m_0 w K) : c_preluderef05_Machine_Effect m_0 w K := by
  have e : sh_preluderef05_Machine_Effect m_0 w K = shF Try.prog 36 ⟨[(3, .of [0, 1, 2, 3, 4, 5, 6, 7, 8, 9, 10, 11, 12, 13, 14, 15, 16, 17, 18, 19]), (4, .of [0, 1, 2, 3, 4, 5, 6, 7, 8]), (5, .of [0, 1, 2, 3, 4, 5, 6, 7, 8])], [], []⟩ [.pointer m_0] w (fun v w' => decA [.b, (.int .i64), (.int .i64), .sl, .sl, (.int .i64)] v fun s => (fun (y0 : Bool) (y1 : Int) (y2 : Int) (y3 : Slc) (y4 : Slc) (y5 : Int) => K y0 y1 y2 y3 y4 y5 w') s.1 s.2.1 s.2.2.1 s.2.2.2.1 s.2.2.2.2.1 s.2.2.2.2.2.1) := by kernel_rfl
  exact Calls.mono (calls_of _ e h) (onRet_mono (fun _ _ h => by obtain ⟨s, h1, h2⟩ := decA_spec h; exact ⟨s.1, s.2.1, s.2.2.1, s.2.2.2.1, s.2.2.2.2.1, s.2.2.2.2.2.1, h1, h2⟩))

-- 17 prelude/preludelaw05.sameEffect; callees ['preludelaw05_sameWords']
def sh_preludelaw05_sameEffect (c_preludelaw05_sameWords : Slc → Slc → World → (Bool → World → Prop) → Prop) (x_0_0 : Bool) (x_0_1 : Int) (x_0_2 : Int) (x_0_3 : Slc) (x_0_4 : Slc) (x_0_5 : Int) (x_1_0 : Bool) (x_1_1 : Int) (x_1_2 : Int) (x_1_3 : Slc) (x_1_4 : Slc) (x_1_5 : Int) (w : World) (K : Bool → World → Prop) : Prop :=
  newP #[.bool x_0_0, .int .i64 x_0_1, .int .i64 x_0_2, .slice x_0_3.a x_0_3.l x_0_3.c, .slice x_0_4.a x_0_4.l x_0_4.c, .int .i64 x_0_5] 48 w fun a1 w2 => newP #[.bool x_1_0, .int .i64 x_1_1, .int .i64 x_1_2, .slice x_1_3.a x_1_3.l x_1_3.c, .slice x_1_4.a x_1_4.l x_1_4.c, .int .i64 x_1_5] 48 w2 fun a3 w4 => ldB a1 w4 fun t5 => ldB a3 w4 fun t6 => iteB (!(t5 == t6))
  (K false w4)
  (ldI .i64 (a1.add 1) w4 fun n7 => ldI .i64 (a3.add 1) w4 fun n8 => iteB ((n7 : Int) != n8)
  (K false w4)
  (ldI .i64 (a1.add 2) w4 fun n9 => ldI .i64 (a3.add 2) w4 fun n10 => iteB ((n9 : Int) != n10)
  (K false w4)
  (ldI .i64 (a1.add 5) w4 fun n11 => ldI .i64 (a3.add 5) w4 fun n12 => iteB ((n11 : Int) != n12)
  (K false w4)
  (ldS (a1.add 3) w4 fun s13 => ldS (a3.add 3) w4 fun s14 => c_preludelaw05_sameWords s13 s14 w4 fun r15 w16 => iteB (!r15)
  (K false w16)
  (ldS (a1.add 4) w16 fun s17 => ldS (a3.add 4) w16 fun s18 => iteB (((s17.l : Int) : Int) != (s18.l : Int))
  (K false w16)
  (loopP (σ := Int × Unit) (fun st20 next19 w21 => (fun (x22 : Int) => ldS (a1.add 4) w21 fun s23 => iteB (decide ((x22 : Int) < (s23.l : Int)))
  (ldS (a1.add 4) w21.drew fun s24 => idxP s24.a s24.l x22 2 fun a25 => ldI .i64 a25 w21.drew fun n26 => ldI .i64 (a25.add 1) w21.drew fun n27 => ldS (a3.add 4) w21.drew fun s28 => idxP s28.a s28.l x22 2 fun a29 => ldI .i64 a29 w21.drew fun n30 => ldI .i64 (a29.add 1) w21.drew fun n31 => (∃ (r32 : Bool), ∃ w33, (do eqGuard .neq 71 (.tmp 60) (.tmp 65) (.agg #[.int .i64 n26, .int .i64 n27]) (.agg #[.int .i64 n30, .int .i64 n31]); binOp .neq 71 (.agg #[.int .i64 n26, .int .i64 n27]) (.agg #[.int .i64 n30, .int .i64 n31])).run Try.prog w21.drew = .ok (.bool r32) w33 ∧ (iteB r32
  (K false w33)
  (next19 ((IntKind.i64.wrap (x22 + 1)), ()) w33))))
  (K true w21)) st20.1) (0, ()) w16))))))

def c_preludelaw05_sameEffect (x_0_0 : Bool) (x_0_1 : Int) (x_0_2 : Int) (x_0_3 : Slc) (x_0_4 : Slc) (x_0_5 : Int) (x_1_0 : Bool) (x_1_1 : Int) (x_1_2 : Int) (x_1_3 : Slc) (x_1_4 : Slc) (x_1_5 : Int) (w : World) (K : Bool → World → Prop) : Prop := Calls Try.prog 17 #[.agg #[.bool x_0_0, .int .i64 x_0_1, .int .i64 x_0_2, .slice x_0_3.a x_0_3.l x_0_3.c, .slice x_0_4.a x_0_4.l x_0_4.c, .int .i64 x_0_5], .agg #[.bool x_1_0, .int .i64 x_1_1, .int .i64 x_1_2, .slice x_1_3.a x_1_3.l x_1_3.c, .slice x_1_4.a x_1_4.l x_1_4.c, .int .i64 x_1_5]] w (onRet (fun v w' => ∃ (y0 : Bool), v = .bool y0 ∧ K y0 w'))

theorem sim_preludelaw05_sameEffect {x_0_0 : Bool} {x_0_1 : Int} {x_0_2 : Int} {x_0_3 : Slc} {x_0_4 : Slc} {x_0_5 : Int} {x_1_0 : Bool} {x_1_1 : Int} {x_1_2 : Int} {x_1_3 : Slc} {x_1_4 : Slc} {x_1_5 : Int} {w : World} {K : Bool → World → Prop} (h : sh_preludelaw05_sameEffect c_preludelaw05_sameWords x_0_0 x_0_1 x_0_2 x_0_3 x_0_4 x_0_5 x_1_0 x_1_1 x_1_2 x_1_3 x_1_4 x_1_5 w K) : c_preludelaw05_sameEffect x_0_0 x_0_1 x_0_2 x_0_3 x_0_4 x_0_5 x_1_0 x_1_1 x_1_2 x_1_3 x_1_4 x_1_5 w K := by
  have e : sh_preludelaw05_sameEffect c_preludelaw05_sameWords x_0_0 x_0_1 x_0_2 x_0_3 x_0_4 x_0_5 x_1_0 x_1_1 x_1_2 x_1_3 x_1_4 x_1_5 w K = shF Try.prog 17 ⟨[(6, .of [0, 1, 2, 3, 4, 5, 6, 7, 8, 9, 10])], [(4, [(5, (.int .i64))], [2, 3])], []⟩ [.agg #[.bool x_0_0, .int .i64 x_0_1, .int .i64 x_0_2, .slice x_0_3.a x_0_3.l x_0_3.c, .slice x_0_4.a x_0_4.l x_0_4.c, .int .i64 x_0_5], .agg #[.bool x_1_0, .int .i64 x_1_1, .int .i64 x_1_2, .slice x_1_3.a x_1_3.l x_1_3.c, .slice x_1_4.a x_1_4.l x_1_4.c, .int .i64 x_1_5]] w (fun v w' => decV .b v fun y0 => K y0 w') := by kernel_rfl
  exact Calls.mono (calls_of _ e h) (onRet_mono (fun _ _ h => decV_spec h))

-- 18 prelude/preludelaw05.apart; callees ['preludelaw05_sameEffect']
def sh_preludelaw05_apart (c_preludelaw05_sameEffect : Bool → Int → Int → Slc → Slc → Int → Bool → Int → Int → Slc → Slc → Int → World → (Bool → World → Prop) → Prop) (x_0_0 : Bool) (x_0_1 : Int) (x_0_2 : Int) (x_0_3 : Slc) (x_0_4 : Slc) (x_0_5 : Int) (x_1_0 : Bool) (x_1_1 : Int) (x_1_2 : Int) (x_1_3 : Slc) (x_1_4 : Slc) (x_1_5 : Int) (x_2_0 : Bool) (x_2_1 : Int) (x_2_2 : Int) (x_2_3 : Slc) (x_2_4 : Slc) (x_2_5 : Int) (w : World) (K : Bool → World → Prop) : Prop :=
  newP #[.bool x_0_0, .int .i64 x_0_1, .int .i64 x_0_2, .slice x_0_3.a x_0_3.l x_0_3.c, .slice x_0_4.a x_0_4.l x_0_4.c, .int .i64 x_0_5] 48 w fun a1 w2 => newP #[.bool x_1_0, .int .i64 x_1_1, .int .i64 x_1_2, .slice x_1_3.a x_1_3.l x_1_3.c, .slice x_1_4.a x_1_4.l x_1_4.c, .int .i64 x_1_5] 48 w2 fun a3 w4 => newP #[.bool x_2_0, .int .i64 x_2_1, .int .i64 x_2_2, .slice x_2_3.a x_2_3.l x_2_3.c, .slice x_2_4.a x_2_4.l x_2_4.c, .int .i64 x_2_5] 48 w4 fun a5 w6 => loopP (σ := Int × Unit) (fun st8 next7 w9 => (fun (x10 : Int) => ldS (a1.add 3) w9 fun s11 => iteB (decide ((x10 : Int) < (s11.l : Int)))
  (ldS (a1.add 3) w9 fun s12 => idxP s12.a s12.l x10 1 fun a13 => stP a13 (.int .i64 (IntKind.i64.wrap ((-100) - x10))) w9 fun w14 => next7 ((IntKind.i64.wrap (x10 + 1)), ()) w14)
  (loopP (σ := Int × Unit) (fun st16 next15 w17 => (fun (x18 : Int) => ldS (a1.add 4) w17 fun s19 => iteB (decide ((x18 : Int) < (s19.l : Int)))
  (ldS (a1.add 4) w17 fun s20 => idxP s20.a s20.l x18 2 fun a21 => stP (a21.add 1) (.int .i64 (IntKind.i64.wrap ((-200) - x18))) w17 fun w22 => next15 ((IntKind.i64.wrap (x18 + 1)), ()) w22)
  (ldS (a1.add 3) w17.drew fun s23 => ldS (a1.add 4) w17.drew fun s24 => loopP (σ := Slc × Slc × Int × Unit) (fun st26 next25 w27 => (fun (x28 : Slc) (x29 : Slc) (x30 : Int) => iteB (decide ((x30 : Int) < 40))
  (newP #[.int .i64 (-7)] 2 w27 fun a31 w32 => apP Try.prog #[25, 25] 25 [.slice x28.a x28.l x28.c, .slice (some a31) 1 1] w32 fun s34 w33 => newP #[.int .i64 (-7), .int .i64 0] 71 w33 fun a35 w36 => apP Try.prog #[46, 46] 46 [.slice x29.a x29.l x29.c, .slice (some a35) 1 1] w36 fun s38 w37 => next25 (s34, s38, (IntKind.i64.wrap (x30 + 1)), ()) w37)
  (loopP (σ := Int × Unit) (fun st40 next39 w41 => (fun (x42 : Int) => ldS (a1.add 3) w41 fun s43 => iteB (decide ((x42 : Int) < (s43.l : Int)))
  (ldS (a1.add 3) w41.drew fun s44 => idxP s44.a s44.l x42 1 fun a45 => ldI .i64 a45 w41.drew fun n46 => iteB ((n46 : Int) != (IntKind.i64.wrap ((-100) - x42)))
  (K false w41.drew)
  (idxP x28.a x28.l x42 1 fun a47 => ldI .i64 a47 w41.drew fun n48 => ldS (a1.add 3) w41.drew fun s49 => idxP s49.a s49.l x42 1 fun a50 => ldI .i64 a50 w41.drew fun n51 => iteB ((n48 : Int) != n51)
  (K false w41.drew)
  (next39 ((IntKind.i64.wrap (x42 + 1)), ()) w41.drew)))
  (loopP (σ := Int × Unit) (fun st53 next52 w54 => (fun (x55 : Int) => ldS (a1.add 4) w54 fun s56 => iteB (decide ((x55 : Int) < (s56.l : Int)))
  (ldS (a1.add 4) w54.drew fun s57 => idxP s57.a s57.l x55 2 fun a58 => ldI .i64 (a58.add 1) w54.drew fun n59 => iteB ((n59 : Int) != (IntKind.i64.wrap ((-200) - x55)))
  (K false w54.drew)
  (idxP x29.a x29.l x55 2 fun a60 => ldI .i64 a60 w54.drew fun n61 => ldI .i64 (a60.add 1) w54.drew fun n62 => ldS (a1.add 4) w54.drew fun s63 => idxP s63.a s63.l x55 2 fun a64 => ldI .i64 a64 w54.drew fun n65 => ldI .i64 (a64.add 1) w54.drew fun n66 => (∃ (r67 : Bool), ∃ w68, (do eqGuard .neq 71 (.tmp 103) (.tmp 108) (.agg #[.int .i64 n61, .int .i64 n62]) (.agg #[.int .i64 n65, .int .i64 n66]); binOp .neq 71 (.agg #[.int .i64 n61, .int .i64 n62]) (.agg #[.int .i64 n65, .int .i64 n66])).run Try.prog w54.drew = .ok (.bool r67) w68 ∧ (iteB r67
  (K false w68)
  (next52 ((IntKind.i64.wrap (x55 + 1)), ()) w68)))))
  (ldB a3 w54 fun t69 => ldI .i64 (a3.add 1) w54 fun n70 => ldI .i64 (a3.add 2) w54 fun n71 => ldS (a3.add 3) w54 fun s72 => ldS (a3.add 4) w54 fun s73 => ldI .i64 (a3.add 5) w54 fun n74 => ldB a5 w54 fun t75 => ldI .i64 (a5.add 1) w54 fun n76 => ldI .i64 (a5.add 2) w54 fun n77 => ldS (a5.add 3) w54 fun s78 => ldS (a5.add 4) w54 fun s79 => ldI .i64 (a5.add 5) w54 fun n80 => c_preludelaw05_sameEffect t69 n70 n71 s72 s73 n74 t75 n76 n77 s78 s79 n80 w54 fun r81 w82 => K r81 w82)) st53.1) (0, ()) w41)) st40.1) (0, ()) w27)) st26.1 st26.2.1 st26.2.2.1) (s23, s24, 0, ()) w17.drew)) st16.1) (0, ()) w9)) st8.1) (0, ()) w6

def c_preludelaw05_apart (x_0_0 : Bool) (x_0_1 : Int) (x_0_2 : Int) (x_0_3 : Slc) (x_0_4 : Slc) (x_0_5 : Int) (x_1_0 : Bool) (x_1_1 : Int) (x_1_2 : Int) (x_1_3 : Slc) (x_1_4 : Slc) (x_1_5 : Int) (x_2_0 : Bool) (x_2_1 : Int) (x_2_2 : Int) (x_2_3 : Slc) (x_2_4 : Slc) (x_2_5 : Int) (w : World) (K : Bool → World → Prop) : Prop := Calls Try.prog 18 #[.agg #[.bool x_0_0, .int .i64 x_0_1, .int .i64 x_0_2, .slice x_0_3.a x_0_3.l x_0_3.c, .slice x_0_4.a x_0_4.l x_0_4.c, .int .i64 x_0_5], .agg #[.bool x_1_0, .int .i64 x_1_1, .int .i64 x_1_2, .slice x_1_3.a x_1_3.l x_1_3.c, .slice x_1_4.a x_1_4.l x_1_4.c, .int .i64 x_1_5], .agg #[.bool x_2_0, .int .i64 x_2_1, .int .i64 x_2_2, .slice x_2_3.a x_2_3.l x_2_3.c, .slice x_2_4.a x_2_4.l x_2_4.c, .int .i64 x_2_5]] w (onRet (fun v w' => ∃ (y0 : Bool), v = .bool y0 ∧ K y0 w'))

theorem sim_preludelaw05_apart {x_0_0 : Bool} {x_0_1 : Int} {x_0_2 : Int} {x_0_3 : Slc} {x_0_4 : Slc} {x_0_5 : Int} {x_1_0 : Bool} {x_1_1 : Int} {x_1_2 : Int} {x_1_3 : Slc} {x_1_4 : Slc} {x_1_5 : Int} {x_2_0 : Bool} {x_2_1 : Int} {x_2_2 : Int} {x_2_3 : Slc} {x_2_4 : Slc} {x_2_5 : Int} {w : World} {K : Bool → World → Prop} (h : sh_preludelaw05_apart c_preludelaw05_sameEffect x_0_0 x_0_1 x_0_2 x_0_3 x_0_4 x_0_5 x_1_0 x_1_1 x_1_2 x_1_3 x_1_4 x_1_5 x_2_0 x_2_1 x_2_2 x_2_3 x_2_4 x_2_5 w K) : c_preludelaw05_apart x_0_0 x_0_1 x_0_2 x_0_3 x_0_4 x_0_5 x_1_0 x_1_1 x_1_2 x_1_3 x_1_4 x_1_5 x_2_0 x_2_1 x_2_2 x_2_3 x_2_4 x_2_5 w K := by
  have e : sh_preludelaw05_apart c_preludelaw05_sameEffect x_0_0 x_0_1 x_0_2 x_0_3 x_0_4 x_0_5 x_1_0 x_1_1 x_1_2 x_1_3 x_1_4 x_1_5 x_2_0 x_2_1 x_2_2 x_2_3 x_2_4 x_2_5 w K = shF Try.prog 18 ⟨[(9, .of [0, 1, 2, 3, 4, 5]), (18, .of [0, 1, 2, 3, 4, 5, 6, 7, 8, 9, 10, 11, 12, 13, 14, 15, 16, 17, 18, 19]), (23, .of [0, 1, 2, 3, 4, 5, 6, 7, 8, 9, 10, 11, 12, 13, 14, 15, 16, 17, 18, 19, 20])], [(2, [(7, (.int .i64))], [3, 4, 5]), (6, [(8, (.int .i64))], [3, 4, 5]), (11, [(9, .sl), (10, .sl), (11, (.int .i64))], [3, 4, 5]), (16, [(12, (.int .i64))], [3, 4, 5, 9, 10]), (21, [(13, (.int .i64))], [3, 4, 5, 10])], []⟩ [.agg #[.bool x_0_0, .int .i64 x_0_1, .int .i64 x_0_2, .slice x_0_3.a x_0_3.l x_0_3.c, .slice x_0_4.a x_0_4.l x_0_4.c, .int .i64 x_0_5], .agg #[.bool x_1_0, .int .i64 x_1_1, .int .i64 x_1_2, .slice x_1_3.a x_1_3.l x_1_3.c, .slice x_1_4.a x_1_4.l x_1_4.c, .int .i64 x_1_5], .agg #[.bool x_2_0, .int .i64 x_2_1, .int .i64 x_2_2, .slice x_2_3.a x_2_3.l x_2_3.c, .slice x_2_4.a x_2_4.l x_2_4.c, .int .i64 x_2_5]] w (fun v w' => decV .b v fun y0 => K y0 w') := by kernel_rfl
  exact Calls.mono (calls_of _ e h) (onRet_mono (fun _ _ h => decV_spec h))

-- 14 prelude/preludelaw05.asked; callees ['vm_Machine_Step', 'preluderef05_Machine_Step', 'vm_Machine_Done', 'vm_Machine_At', 'vm_Machine_Stack', 'vm_Machine_Locals', 'preludelaw05_sameWords', 'vm_Machine_Effect', 'preluderef05_Machine_Effect', 'preludelaw05_sameEffect', 'preludelaw05_apart']
def sh_preludelaw05_asked (c_vm_Machine_Step : Option Addr → World → (Bool → World → Prop) → Prop) (c_preluderef05_Machine_Step : Option Addr → World → (Bool → World → Prop) → Prop) (c_vm_Machine_Done : Option Addr → World → (Bool → World → Prop) → Prop) (c_vm_Machine_At : Option Addr → World → (Int → World → Prop) → Prop) (c_vm_Machine_Stack : Option Addr → World → (Slc → World → Prop) → Prop) (c_vm_Machine_Locals : Option Addr → World → (Slc → World → Prop) → Prop) (c_preludelaw05_sameWords : Slc → Slc → World → (Bool → World → Prop) → Prop) (c_vm_Machine_Effect : Option Addr → World → (Bool → Int → Int → Slc → Slc → Int → World → Prop) → Prop) (c_preluderef05_Machine_Effect : Option Addr → World → (Bool → Int → Int → Slc → Slc → Int → World → Prop) → Prop) (c_preludelaw05_sameEffect : Bool → Int → Int → Slc → Slc → Int → Bool → Int → Int → Slc → Slc → Int → World → (Bool → World → Prop) → Prop) (c_preludelaw05_apart : Bool → Int → Int → Slc → Slc → Int → Bool → Int → Int → Slc → Slc → Int → Bool → Int → Int → Slc → Slc → Int → World → (Bool → World → Prop) → Prop) (x_0 : Option Addr) (x_1 : Option Addr) (x_2 : Int) (w : World) (K : Bool → World → Prop) : Prop :=
  iteB ((x_2 : Int) == 0)
  (c_vm_Machine_Step x_0 w fun r1 w2 => c_preluderef05_Machine_Step x_1 w2 fun r3 w4 => K (r1 == r3) w4)
  (iteB ((x_2 : Int) == 1)
  (nnP x_1 fun a5 => ldB (a5.add 13) w.drew fun t6 => c_vm_Machine_Done x_0 w.drew fun r7 w8 => w8.cell? (a5.add 13) = some (.bool t6) ∧ (K (r7 == t6) w8))
  (iteB ((x_2 : Int) == 2)
  (nnP x_1 fun a9 => ldI .i64 (a9.add 11) w.drew fun n10 => c_vm_Machine_At x_0 w.drew fun r11 w12 => w12.cell? (a9.add 11) = some (.int .i64 n10) ∧ (K ((r11 : Int) == n10) w12))
  (iteB ((x_2 : Int) == 3)
  (nnP x_1 fun a13 => ldS (a13.add 7) w.drew fun s14 => c_vm_Machine_Stack x_0 w.drew fun r15 w16 => w16.cell? (a13.add 7) = some (.slice s14.a s14.l s14.c) ∧ (c_vm_Machine_Stack x_0 w16 fun r17 w18 => w18.cell? (a13.add 7) = some (.slice s14.a s14.l s14.c) ∧ (iteB ((x_2 : Int) == 4)
  (nnP x_1 fun a19 => ldS (a19.add 8) w18.drew fun s20 => c_vm_Machine_Locals x_0 w18.drew fun r21 w22 => w22.cell? (a19.add 8) = some (.slice s20.a s20.l s20.c) ∧ (c_vm_Machine_Locals x_0 w22 fun r23 w24 => w24.cell? (a19.add 8) = some (.slice s20.a s20.l s20.c) ∧ (c_preludelaw05_sameWords r21 s20 w24 fun r25 w26 => iteB (!r25)
  (K false w26)
  (c_preludelaw05_sameWords r23 s20 w26 fun r27 w28 => iteB (!r27)
  (K false w28)
  (loopP (σ := Int × Unit) (fun st30 next29 w31 => (fun (x32 : Int) => iteB (decide ((x32 : Int) < (r21.l : Int)))
  (idxP r21.a r21.l x32 1 fun a33 => stP a33 (.int .i64 (-999)) w31 fun w34 => next29 ((IntKind.i64.wrap (x32 + 1)), ()) w34)
  (newP #[.int .i64 (-998)] 2 w31 fun a35 w36 => apP Try.prog #[25, 25] 25 [.slice r21.a r21.l r21.c, .slice (some a35) 1 1] w36 fun s38 w37 => c_preludelaw05_sameWords r23 s20 w37 fun r39 w40 => iteB r39
  (idxP s38.a s38.l (IntKind.i64.wrap ((s38.l : Int) - 1)) 1 fun a41 => ldI .i64 a41 w40 fun n42 => K ((n42 : Int) == (-998)) w40)
  (K false w40))) st30.1) (0, ()) w28)))))
  (c_preludelaw05_sameWords r15 s14 w18 fun r43 w44 => iteB (!r43)
  (K false w44)
  (c_preludelaw05_sameWords r17 s14 w44 fun r45 w46 => iteB (!r45)
  (K false w46)
  (loopP (σ := Int × Unit) (fun st48 next47 w49 => (fun (x50 : Int) => iteB (decide ((x50 : Int) < (r15.l : Int)))
  (idxP r15.a r15.l x50 1 fun a51 => stP a51 (.int .i64 (-999)) w49 fun w52 => next47 ((IntKind.i64.wrap (x50 + 1)), ()) w52)
  (newP #[.int .i64 (-998)] 2 w49 fun a53 w54 => apP Try.prog #[25, 25] 25 [.slice r15.a r15.l r15.c, .slice (some a53) 1 1] w54 fun s56 w55 => c_preludelaw05_sameWords r17 s14 w55 fun r57 w58 => iteB r57
  (idxP s56.a s56.l (IntKind.i64.wrap ((s56.l : Int) - 1)) 1 fun a59 => ldI .i64 a59 w58 fun n60 => K ((n60 : Int) == (-998)) w58)
  (K false w58))) st48.1) (0, ()) w46))))))
  (iteB ((x_2 : Int) == 4)
  (nnP x_1 fun a61 => ldS (a61.add 7) w.drew fun s62 => c_vm_Machine_Stack x_0 w.drew fun r63 w64 => w64.cell? (a61.add 7) = some (.slice s62.a s62.l s62.c) ∧ (c_vm_Machine_Stack x_0 w64 fun r65 w66 => w66.cell? (a61.add 7) = some (.slice s62.a s62.l s62.c) ∧ (iteB ((x_2 : Int) == 4)
  (nnP x_1 fun a67 => ldS (a67.add 8) w66.drew fun s68 => c_vm_Machine_Locals x_0 w66.drew fun r69 w70 => w70.cell? (a67.add 8) = some (.slice s68.a s68.l s68.c) ∧ (c_vm_Machine_Locals x_0 w70 fun r71 w72 => w72.cell? (a67.add 8) = some (.slice s68.a s68.l s68.c) ∧ (c_preludelaw05_sameWords r69 s68 w72 fun r73 w74 => iteB (!r73)
  (K false w74)
  (c_preludelaw05_sameWords r71 s68 w74 fun r75 w76 => iteB (!r75)
  (K false w76)
  (loopP (σ := Int × Unit) (fun st78 next77 w79 => (fun (x80 : Int) => iteB (decide ((x80 : Int) < (r69.l : Int)))
  (idxP r69.a r69.l x80 1 fun a81 => stP a81 (.int .i64 (-999)) w79 fun w82 => next77 ((IntKind.i64.wrap (x80 + 1)), ()) w82)
  (newP #[.int .i64 (-998)] 2 w79 fun a83 w84 => apP Try.prog #[25, 25] 25 [.slice r69.a r69.l r69.c, .slice (some a83) 1 1] w84 fun s86 w85 => c_preludelaw05_sameWords r71 s68 w85 fun r87 w88 => iteB r87
  (idxP s86.a s86.l (IntKind.i64.wrap ((s86.l : Int) - 1)) 1 fun a89 => ldI .i64 a89 w88 fun n90 => K ((n90 : Int) == (-998)) w88)
  (K false w88))) st78.1) (0, ()) w76)))))
  (c_preludelaw05_sameWords r63 s62 w66 fun r91 w92 => iteB (!r91)
  (K false w92)
  (c_preludelaw05_sameWords r65 s62 w92 fun r93 w94 => iteB (!r93)
  (K false w94)
  (loopP (σ := Int × Unit) (fun st96 next95 w97 => (fun (x98 : Int) => iteB (decide ((x98 : Int) < (r63.l : Int)))
  (idxP r63.a r63.l x98 1 fun a99 => stP a99 (.int .i64 (-999)) w97 fun w100 => next95 ((IntKind.i64.wrap (x98 + 1)), ()) w100)
  (newP #[.int .i64 (-998)] 2 w97 fun a101 w102 => apP Try.prog #[25, 25] 25 [.slice r63.a r63.l r63.c, .slice (some a101) 1 1] w102 fun s104 w103 => c_preludelaw05_sameWords r65 s62 w103 fun r105 w106 => iteB r105
  (idxP s104.a s104.l (IntKind.i64.wrap ((s104.l : Int) - 1)) 1 fun a107 => ldI .i64 a107 w106 fun n108 => K ((n108 : Int) == (-998)) w106)
  (K false w106))) st96.1) (0, ()) w94))))))
  (iteB ((x_2 : Int) == 5)
  (c_vm_Machine_Effect x_0 w fun r109 r110 r111 r112 r113 r114 w115 => newP #[.bool false, .int .i64 0, .int .i64 0, .slice none 0 0, .slice none 0 0, .int .i64 0] 48 w115 fun a116 w117 => stP a116 (.bool r109) w117 fun w118 => stP (a116.add 1) (.int .i64 r110) w118 fun w119 => stP (a116.add 2) (.int .i64 r111) w119 fun w120 => stP (a116.add 3) (.slice r112.a r112.l r112.c) w120 fun w121 => stP (a116.add 4) (.slice r113.a r113.l r113.c) w121 fun w122 => stP (a116.add 5) (.int .i64 r114) w122 fun w123 => c_vm_Machine_Effect x_0 w123 fun r124 r125 r126 r127 r128 r129 w130 => newP #[.bool false, .int .i64 0, .int .i64 0, .slice none 0 0, .slice none 0 0, .int .i64 0] 48 w130 fun a131 w132 => stP a131 (.bool r124) w132 fun w133 => stP (a131.add 1) (.int .i64 r125) w133 fun w134 => stP (a131.add 2) (.int .i64 r126) w134 fun w135 => stP (a131.add 3) (.slice r127.a r127.l r127.c) w135 fun w136 => stP (a131.add 4) (.slice r128.a r128.l r128.c) w136 fun w137 => stP (a131.add 5) (.int .i64 r129) w137 fun w138 => c_preluderef05_Machine_Effect x_1 w138 fun r139 r140 r141 r142 r143 r144 w145 => newP #[.bool false, .int .i64 0, .int .i64 0, .slice none 0 0, .slice none 0 0, .int .i64 0] 48 w145 fun a146 w147 => stP a146 (.bool r139) w147 fun w148 => stP (a146.add 1) (.int .i64 r140) w148 fun w149 => stP (a146.add 2) (.int .i64 r141) w149 fun w150 => stP (a146.add 3) (.slice r142.a r142.l r142.c) w150 fun w151 => stP (a146.add 4) (.slice r143.a r143.l r143.c) w151 fun w152 => stP (a146.add 5) (.int .i64 r144) w152 fun w153 => ldB a116 w153 fun t154 => ldI .i64 (a116.add 1) w153 fun n155 => ldI .i64 (a116.add 2) w153 fun n156 => ldS (a116.add 3) w153 fun s157 => ldS (a116.add 4) w153 fun s158 => ldI .i64 (a116.add 5) w153 fun n159 => ldB a146 w153 fun t160 => ldI .i64 (a146.add 1) w153 fun n161 => ldI .i64 (a146.add 2) w153 fun n162 => ldS (a146.add 3) w153 fun s163 => ldS (a146.add 4) w153 fun s164 => ldI .i64 (a146.add 5) w153 fun n165 => c_preludelaw05_sameEffect t154 n155 n156 s157 s158 n159 t160 n161 n162 s163 s164 n165 w153 fun r166 w167 => iteB r166
  (ldB a131 w167 fun t168 => ldI .i64 (a131.add 1) w167 fun n169 => ldI .i64 (a131.add 2) w167 fun n170 => ldS (a131.add 3) w167 fun s171 => ldS (a131.add 4) w167 fun s172 => ldI .i64 (a131.add 5) w167 fun n173 => ldB a146 w167 fun t174 => ldI .i64 (a146.add 1) w167 fun n175 => ldI .i64 (a146.add 2) w167 fun n176 => ldS (a146.add 3) w167 fun s177 => ldS (a146.add 4) w167 fun s178 => ldI .i64 (a146.add 5) w167 fun n179 => c_preludelaw05_sameEffect t168 n169 n170 s171 s172 n173 t174 n175 n176 s177 s178 n179 w167 fun r180 w181 => iteB r180
  (ldB a116 w181 fun t182 => ldI .i64 (a116.add 1) w181 fun n183 => ldI .i64 (a116.add 2) w181 fun n184 => ldS (a116.add 3) w181 fun s185 => ldS (a116.add 4) w181 fun s186 => ldI .i64 (a116.add 5) w181 fun n187 => ldB a131 w181 fun t188 => ldI .i64 (a131.add 1) w181 fun n189 => ldI .i64 (a131.add 2) w181 fun n190 => ldS (a131.add 3) w181 fun s191 => ldS (a131.add 4) w181 fun s192 => ldI .i64 (a131.add 5) w181 fun n193 => ldB a146 w181 fun t194 => ldI .i64 (a146.add 1) w181 fun n195 => ldI .i64 (a146.add 2) w181 fun n196 => ldS (a146.add 3) w181 fun s197 => ldS (a146.add 4) w181 fun s198 => ldI .i64 (a146.add 5) w181 fun n199 => c_preludelaw05_apart t182 n183 n184 s185 s186 n187 t188 n189 n190 s191 s192 n193 t194 n195 n196 s197 s198 n199 w181 fun r200 w201 => K r200 w201)
  (K false w181))
  (K false w167))
  (K true w))))))

def c_preludelaw05_asked (x_0 : Option Addr) (x_1 : Option Addr) (x_2 : Int) (w : World) (K : Bool → World → Prop) : Prop := Calls Try.prog 14 #[.pointer x_0, .pointer x_1, .int .i64 x_2] w (onRet (fun v w' => ∃ (y0 : Bool), v = .bool y0 ∧ K y0 w'))

theorem sim_preludelaw05_asked {x_0 : Option Addr} {x_1 : Option Addr} {x_2 : Int} {w : World} {K : Bool → World → Prop} (h : sh_preludelaw05_asked c_vm_Machine_Step c_preluderef05_Machine_Step c_vm_Machine_Done c_vm_Machine_At c_vm_Machine_Stack c_vm_Machine_Locals c_preludelaw05_sameWords c_vm_Machine_Effect c_preluderef05_Machine_Effect c_preludelaw05_sameEffect c_preludelaw05_apart x_0 x_1 x_2 w K) : c_preludelaw05_asked x_0 x_1 x_2 w K := by
  have e : sh_preludelaw05_asked c_vm_Machine_Step c_preluderef05_Machine_Step c_vm_Machine_Done c_vm_Machine_At c_vm_Machine_Stack c_vm_Machine_Locals c_preludelaw05_sameWords c_vm_Machine_Effect c_preluderef05_Machine_Effect c_preludelaw05_sameEffect c_preludelaw05_apart x_0 x_1 x_2 w K = shF Try.prog 14 ⟨[(7, .of [0, 2, 3, 4, 5, 1, 6, 7]), (9, .of [0, 2, 3, 4, 5, 1, 6, 7]), (12, .of [0, 2, 4, 5, 6, 7, 1, 3, 8, 9, 10]), (14, .of [0, 2, 4, 5, 6, 7, 1, 3, 8, 9, 10])], [(18, [(12, (.int .i64))], [9, 10, 11])], []⟩ [.pointer x_0, .pointer x_1, .int .i64 x_2] w (fun v w' => decV .b v fun y0 => K y0 w') := by kernel_rfl
  exact Calls.mono (calls_of _ e h) (onRet_mono (fun _ _ h => decV_spec h))

-- 3 prelude/preludelaw05.VmSteps; callees ['preludelaw05_given', 'vm_New', 'preluderef05_New', 'preludelaw05_kept', 'preludelaw05_spoil', 'preludelaw05_asked']
def sh_preludelaw05_VmSteps (c_preludelaw05_given : Int → Int → Int → Int → Slc → Slc → Slc → World → (Int → Int → Int → Int → Slc → Slc → Slc → World → Prop) → Prop) (c_vm_New : Int → Int → Int → Int → Slc → Slc → Slc → World → (Option Addr → Int → World → Prop) → Prop) (c_preluderef05_New : Int → Int → Int → Int → Slc → Slc → Slc → World → (Option Addr → Int → World → Prop) → Prop) (c_preludelaw05_kept : Int → Int → Int → Int → Slc → Slc → Slc → Int → Int → Int → Int → Slc → Slc → Slc → World → (Bool → World → Prop) → Prop) (c_preludelaw05_spoil : Int → Int → Int → Int → Slc → Slc → Slc → World → (World → Prop) → Prop) (c_preludelaw05_asked : Option Addr → Option Addr → Int → World → (Bool → World → Prop) → Prop) (x_0_0 : Int) (x_0_1 : Int) (x_0_2 : Int) (x_0_3 : Int) (x_0_4 : Slc) (x_0_5 : Slc) (x_0_6 : Slc) (x_1_0 : Int) (x_1_1 : Int) (x_1_2 : Int) (x_1_3 : Int) (x_1_4 : Slc) (x_1_5 : Slc) (x_1_6 : Slc) (x_2 : Slc) (w : World) (K : Bool → World → Prop) : Prop :=
  newP #[.int .i64 x_0_0, .int .i64 x_0_1, .int .i64 x_0_2, .int .i64 x_0_3, .slice x_0_4.a x_0_4.l x_0_4.c, .slice x_0_5.a x_0_5.l x_0_5.c, .slice x_0_6.a x_0_6.l x_0_6.c] 28 w fun a1 w2 => newP #[.int .i64 x_1_0, .int .i64 x_1_1, .int .i64 x_1_2, .int .i64 x_1_3, .slice x_1_4.a x_1_4.l x_1_4.c, .slice x_1_5.a x_1_5.l x_1_5.c, .slice x_1_6.a x_1_6.l x_1_6.c] 28 w2 fun a3 w4 => ldI .i64 a1 w4 fun n5 => ldI .i64 (a1.add 1) w4 fun n6 => ldI .i64 (a1.add 2) w4 fun n7 => ldI .i64 (a1.add 3) w4 fun n8 => ldS (a1.add 4) w4 fun s9 => ldS (a1.add 5) w4 fun s10 => ldS (a1.add 6) w4 fun s11 => ldI .i64 a3 w4 fun n12 => ldI .i64 (a3.add 1) w4 fun n13 => ldI .i64 (a3.add 2) w4 fun n14 => ldI .i64 (a3.add 3) w4 fun n15 => ldS (a3.add 4) w4 fun s16 => ldS (a3.add 5) w4 fun s17 => ldS (a3.add 6) w4 fun s18 => newP #[.int .i64 0, .int .i64 0, .int .i64 0, .int .i64 0, .slice none 0 0, .slice none 0 0, .slice none 0 0, .int .i64 0, .int .i64 0, .int .i64 0, .int .i64 0, .slice none 0 0, .slice none 0 0, .slice none 0 0] 30 w4 fun a19 w20 => stP a19 (.int .i64 n5) w20 fun w21 => stP (a19.add 1) (.int .i64 n6) w21 fun w22 => stP (a19.add 2) (.int .i64 n7) w22 fun w23 => stP (a19.add 3) (.int .i64 n8) w23 fun w24 => stP (a19.add 4) (.slice s9.a s9.l s9.c) w24 fun w25 => stP (a19.add 5) (.slice s10.a s10.l s10.c) w25 fun w26 => stP (a19.add 6) (.slice s11.a s11.l s11.c) w26 fun w27 => stP (a19.add 7) (.int .i64 n12) w27 fun w28 => stP (a19.add 8) (.int .i64 n13) w28 fun w29 => stP (a19.add 9) (.int .i64 n14) w29 fun w30 => stP (a19.add 10) (.int .i64 n15) w30 fun w31 => stP (a19.add 11) (.slice s16.a s16.l s16.c) w31 fun w32 => stP (a19.add 12) (.slice s17.a s17.l s17.c) w32 fun w33 => stP (a19.add 13) (.slice s18.a s18.l s18.c) w33 fun w34 => newP #[.pointer none, .pointer none] 32 w34 fun a35 w36 => newP #[.pointer none, .pointer none] 34 w36 fun a37 w38 => loopP (σ := Int × Unit) (fun st40 next39 w41 => (fun (x42 : Int) => iteB (decide ((x42 : Int) < 2))
  (arrP 2 x42 (ldI .i64 (a19.add (Int.toNat x42 * 7)) w41 fun n43 => ldI .i64 ((a19.add (Int.toNat x42 * 7)).add 1) w41 fun n44 => ldI .i64 ((a19.add (Int.toNat x42 * 7)).add 2) w41 fun n45 => ldI .i64 ((a19.add (Int.toNat x42 * 7)).add 3) w41 fun n46 => ldS ((a19.add (Int.toNat x42 * 7)).add 4) w41 fun s47 => ldS ((a19.add (Int.toNat x42 * 7)).add 5) w41 fun s48 => ldS ((a19.add (Int.toNat x42 * 7)).add 6) w41 fun s49 => c_preludelaw05_given n43 n44 n45 n46 s47 s48 s49 w41 fun r50 r51 r52 r53 r54 r55 r56 w57 => newP #[.int .i64 0, .int .i64 0, .int .i64 0, .int .i64 0, .slice none 0 0, .slice none 0 0, .slice none 0 0] 28 w57 fun a58 w59 => stP a58 (.int .i64 r50) w59 fun w60 => stP (a58.add 1) (.int .i64 r51) w60 fun w61 => stP (a58.add 2) (.int .i64 r52) w61 fun w62 => stP (a58.add 3) (.int .i64 r53) w62 fun w63 => stP (a58.add 4) (.slice r54.a r54.l r54.c) w63 fun w64 => stP (a58.add 5) (.slice r55.a r55.l r55.c) w64 fun w65 => stP (a58.add 6) (.slice r56.a r56.l r56.c) w65 fun w66 => ldI .i64 a58 w66 fun n67 => ldI .i64 (a58.add 1) w66 fun n68 => ldI .i64 (a58.add 2) w66 fun n69 => ldI .i64 (a58.add 3) w66 fun n70 => ldS (a58.add 4) w66 fun s71 => ldS (a58.add 5) w66 fun s72 => ldS (a58.add 6) w66 fun s73 => c_vm_New n67 n68 n69 n70 s71 s72 s73 w66 fun r74 r75 w76 => arrP 2 x42 (ldI .i64 (a19.add (Int.toNat x42 * 7)) w76.drew fun n77 => ldI .i64 ((a19.add (Int.toNat x42 * 7)).add 1) w76.drew fun n78 => ldI .i64 ((a19.add (Int.toNat x42 * 7)).add 2) w76.drew fun n79 => ldI .i64 ((a19.add (Int.toNat x42 * 7)).add 3) w76.drew fun n80 => ldS ((a19.add (Int.toNat x42 * 7)).add 4) w76.drew fun s81 => arrP 2 x42 (ldS ((a19.add (Int.toNat x42 * 7)).add 5) w76.drew fun s82 => arrP 2 x42 (ldS ((a19.add (Int.toNat x42 * 7)).add 6) w76.drew fun s83 => c_preluderef05_New n77 n78 n79 n80 s81 s82 s83 w76.drew fun r84 r85 w86 => iteB ((r75 : Int) != r85)
  (K false w86.drew)
  (iteB (!((r74).isNone == (r84).isNone))
  (K false w86.drew)
  (ldI .i64 a58 w86.drew fun n87 => ldI .i64 (a58.add 1) w86.drew fun n88 => ldI .i64 (a58.add 2) w86.drew fun n89 => ldI .i64 (a58.add 3) w86.drew fun n90 => ldS (a58.add 4) w86.drew fun s91 => ldS (a58.add 5) w86.drew fun s92 => ldS (a58.add 6) w86.drew fun s93 => arrP 2 x42 (ldI .i64 (a19.add (Int.toNat x42 * 7)) w86.drew fun n94 => ldI .i64 ((a19.add (Int.toNat x42 * 7)).add 1) w86.drew fun n95 => ldI .i64 ((a19.add (Int.toNat x42 * 7)).add 2) w86.drew fun n96 => ldI .i64 ((a19.add (Int.toNat x42 * 7)).add 3) w86.drew fun n97 => ldS ((a19.add (Int.toNat x42 * 7)).add 4) w86.drew fun s98 => ldS ((a19.add (Int.toNat x42 * 7)).add 5) w86.drew fun s99 => ldS ((a19.add (Int.toNat x42 * 7)).add 6) w86.drew fun s100 => c_preludelaw05_kept n87 n88 n89 n90 s91 s92 s93 n94 n95 n96 n97 s98 s99 s100 w86.drew fun r101 w102 => iteB (!r101)
  (K false w102)
  (ldI .i64 a58 w102 fun n103 => ldI .i64 (a58.add 1) w102 fun n104 => ldI .i64 (a58.add 2) w102 fun n105 => ldI .i64 (a58.add 3) w102 fun n106 => ldS (a58.add 4) w102 fun s107 => ldS (a58.add 5) w102 fun s108 => ldS (a58.add 6) w102 fun s109 => c_preludelaw05_spoil n103 n104 n105 n106 s107 s108 s109 w102 fun w110 => arrP 2 x42 (stP (a35.add (Int.toNat x42 * 1)) (.pointer r74) w110 fun w111 => arrP 2 x42 (stP (a37.add (Int.toNat x42 * 1)) (.pointer r84) w111 fun w112 => next39 ((IntKind.i64.wrap (x42 + 1)), ()) w112)))))))))))
  (loopP (σ := Int × Unit) (fun st114 next113 w115 => (fun (x116 : Int) => iteB (decide ((x116 : Int) < (x_2.l : Int)))
  (idxP x_2.a x_2.l x116 1 fun a117 => ldI .i64 a117 w115 fun n118 => shP 3 (arrP 2 (bAnd .i64 (Int.fdiv n118 (2 ^ (min (Int.toNat 3) (IntKind.bits .i64)))) 1) (ldP (a37.add (Int.toNat (bAnd .i64 (Int.fdiv n118 (2 ^ (min (Int.toNat 3) (IntKind.bits .i64)))) 1) * 1)) w115.drew fun p119 => iteB (!(p119).isNone)
  (arrP 2 (bAnd .i64 (Int.fdiv n118 (2 ^ (min (Int.toNat 3) (IntKind.bits .i64)))) 1) (ldP (a35.add (Int.toNat (bAnd .i64 (Int.fdiv n118 (2 ^ (min (Int.toNat 3) (IntKind.bits .i64)))) 1) * 1)) w115.drew fun p120 => arrP 2 (bAnd .i64 (Int.fdiv n118 (2 ^ (min (Int.toNat 3) (IntKind.bits .i64)))) 1) (ldP (a37.add (Int.toNat (bAnd .i64 (Int.fdiv n118 (2 ^ (min (Int.toNat 3) (IntKind.bits .i64)))) 1) * 1)) w115.drew fun p121 => idxP x_2.a x_2.l x116 1 fun a122 => ldI .i64 a122 w115.drew fun n123 => c_preludelaw05_asked p120 p121 (bAnd .i64 n123 7) w115.drew fun r124 w125 => iteB (!r124)
  (K false w125)
  (next113 ((IntKind.i64.wrap (x116 + 1)), ()) w125))))
  (next113 ((IntKind.i64.wrap (x116 + 1)), ()) w115.drew))))
  (loopP (σ := Int × Unit) (fun st127 next126 w128 => (fun (x129 : Int) => iteB (decide ((x129 : Int) < 2))
  (arrP 2 x129 (ldP (a37.add (Int.toNat x129 * 1)) w128 fun p130 => iteB ((p130).isNone)
  (next126 ((IntKind.i64.wrap (x129 + 1)), ()) w128)
  (loopP (σ := Int × Unit) (fun st132 next131 w133 => (fun (x134 : Int) => iteB (decide ((x134 : Int) < 300))
  (arrP 2 x129 (ldP (a35.add (Int.toNat x129 * 1)) w133.drew fun p135 => arrP 2 x129 (ldP (a37.add (Int.toNat x129 * 1)) w133.drew fun p136 => c_preludelaw05_asked p135 p136 0 w133.drew fun r137 w138 => iteB r137
  (arrP 2 x129 (ldP (a35.add (Int.toNat x129 * 1)) w138 fun p139 => arrP 2 x129 (ldP (a37.add (Int.toNat x129 * 1)) w138 fun p140 => c_preludelaw05_asked p139 p140 3 w138 fun r141 w142 => iteB r141
  (arrP 2 x129 (ldP (a35.add (Int.toNat x129 * 1)) w142 fun p143 => arrP 2 x129 (ldP (a37.add (Int.toNat x129 * 1)) w142 fun p144 => c_preludelaw05_asked p143 p144 2 w142 fun r145 w146 => iteB (!r145)
  (K false w146)
  (next131 ((IntKind.i64.wrap (x134 + 1)), ()) w146))))
  (K false w142))))
  (K false w138))))
  (loopP (σ := Int × Unit) (fun st148 next147 w149 => (fun (x150 : Int) => iteB (decide ((x150 : Int) ≤ 5))
  (arrP 2 x129 (ldP (a35.add (Int.toNat x129 * 1)) w149.drew fun p151 => arrP 2 x129 (ldP (a37.add (Int.toNat x129 * 1)) w149.drew fun p152 => c_preludelaw05_asked p151 p152 x150 w149.drew fun r153 w154 => iteB (!r153)
  (K false w154)
  (next147 ((IntKind.i64.wrap (x150 + 1)), ()) w154))))
  (next126 ((IntKind.i64.wrap (x129 + 1)), ()) w149)) st148.1) (1, ()) w133)) st132.1) (0, ()) w128)))
  (K true w128)) st127.1) (0, ()) w115)) st114.1) (0, ()) w41)) st40.1) (0, ()) w38

def c_preludelaw05_VmSteps (x_0_0 : Int) (x_0_1 : Int) (x_0_2 : Int) (x_0_3 : Int) (x_0_4 : Slc) (x_0_5 : Slc) (x_0_6 : Slc) (x_1_0 : Int) (x_1_1 : Int) (x_1_2 : Int) (x_1_3 : Int) (x_1_4 : Slc) (x_1_5 : Slc) (x_1_6 : Slc) (x_2 : Slc) (w : World) (K : Bool → World → Prop) : Prop := Calls Try.prog 3 #[.agg #[.int .i64 x_0_0, .int .i64 x_0_1, .int .i64 x_0_2, .int .i64 x_0_3, .slice x_0_4.a x_0_4.l x_0_4.c, .slice x_0_5.a x_0_5.l x_0_5.c, .slice x_0_6.a x_0_6.l x_0_6.c], .agg #[.int .i64 x_1_0, .int .i64 x_1_1, .int .i64 x_1_2, .int .i64 x_1_3, .slice x_1_4.a x_1_4.l x_1_4.c, .slice x_1_5.a x_1_5.l x_1_5.c, .slice x_1_6.a x_1_6.l x_1_6.c], .slice x_2.a x_2.l x_2.c] w (onRet (fun v w' => ∃ (y0 : Bool), v = .bool y0 ∧ K y0 w'))

theorem sim_preludelaw05_VmSteps {x_0_0 : Int} {x_0_1 : Int} {x_0_2 : Int} {x_0_3 : Int} {x_0_4 : Slc} {x_0_5 : Slc} {x_0_6 : Slc} {x_1_0 : Int} {x_1_1 : Int} {x_1_2 : Int} {x_1_3 : Int} {x_1_4 : Slc} {x_1_5 : Slc} {x_1_6 : Slc} {x_2 : Slc} {w : World} {K : Bool → World → Prop} (h : sh_preludelaw05_VmSteps c_preludelaw05_given c_vm_New c_preluderef05_New c_preludelaw05_kept c_preludelaw05_spoil c_preludelaw05_asked x_0_0 x_0_1 x_0_2 x_0_3 x_0_4 x_0_5 x_0_6 x_1_0 x_1_1 x_1_2 x_1_3 x_1_4 x_1_5 x_1_6 x_2 w K) : c_preludelaw05_VmSteps x_0_0 x_0_1 x_0_2 x_0_3 x_0_4 x_0_5 x_0_6 x_1_0 x_1_1 x_1_2 x_1_3 x_1_4 x_1_5 x_1_6 x_2 w K := by
  have e : sh_preludelaw05_VmSteps c_preludelaw05_given c_vm_New c_preluderef05_New c_preludelaw05_kept c_preludelaw05_spoil c_preludelaw05_asked x_0_0 x_0_1 x_0_2 x_0_3 x_0_4 x_0_5 x_0_6 x_1_0 x_1_1 x_1_2 x_1_3 x_1_4 x_1_5 x_1_6 x_2 w K = shF Try.prog 3 ⟨[(9, .of [0, 1, 2, 3, 4, 5, 6, 7, 8, 9, 10, 11, 12, 13, 14, 15, 16, 17]), (10, .of [0, 1, 2, 3, 4, 5, 6, 7, 8, 9, 10, 11, 12, 13, 14, 15, 16, 17]), (19, .of [0, 1, 2, 3, 4, 5, 6, 7, 8, 9, 10, 11, 12, 13, 14, 15, 16, 17, 18]), (28, .of [0, 1, 2, 3, 4, 5, 6, 7, 8, 9, 10, 11, 12, 13, 14, 15, 16, 17, 18, 19, 20, 21, 22, 23, 24, 25]), (34, .of [0, 1, 2, 3, 4, 5, 6, 7, 8])], [(5, [(10, (.int .i64))], [2, 7, 8, 9]), (16, [(16, (.int .i64))], [2, 8, 9]), (22, [(18, (.int .i64))], [8, 9]), (26, [(19, (.int .i64))], [8, 9, 18]), (32, [(21, (.int .i64))], [8, 9, 18])], []⟩ [.agg #[.int .i64 x_0_0, .int .i64 x_0_1, .int .i64 x_0_2, .int .i64 x_0_3, .slice x_0_4.a x_0_4.l x_0_4.c, .slice x_0_5.a x_0_5.l x_0_5.c, .slice x_0_6.a x_0_6.l x_0_6.c], .agg #[.int .i64 x_1_0, .int .i64 x_1_1, .int .i64 x_1_2, .int .i64 x_1_3, .slice x_1_4.a x_1_4.l x_1_4.c, .slice x_1_5.a x_1_5.l x_1_5.c, .slice x_1_6.a x_1_6.l x_1_6.c], .slice x_2.a x_2.l x_2.c] w (fun v w' => decV .b v fun y0 => K y0 w') := by kernel_rfl
  exact Calls.mono (calls_of _ e h) (onRet_mono (fun _ _ h => decV_spec h))

-- 15 prelude/vm.Run; callees ['vm_New', 'vm_Machine_Step', 'vm_Machine_Effect']
def sh_vm_Run (c_vm_New : Int → Int → Int → Int → Slc → Slc → Slc → World → (Option Addr → Int → World → Prop) → Prop) (c_vm_Machine_Step : Option Addr → World → (Bool → World → Prop) → Prop) (c_vm_Machine_Effect : Option Addr → World → (Bool → Int → Int → Slc → Slc → Int → World → Prop) → Prop) (p_0_0 : Int) (p_0_1 : Int) (p_0_2 : Int) (p_0_3 : Int) (p_0_4 : Slc) (args_1 : Slc) (reads_2 : Slc) (w : World) (K : Bool → Int → Int → Slc → Slc → Int → Int → World → Prop) : Prop :=
  newP #[.int .i64 p_0_0, .int .i64 p_0_1, .int .i64 p_0_2, .int .i64 p_0_3, .slice p_0_4.a p_0_4.l p_0_4.c] 24 w fun a1 w2 => newP #[.bool false, .int .i64 0, .int .i64 0, .slice none 0 0, .slice none 0 0, .int .i64 0] 48 w2 fun a3 w4 => ldI .i64 a1 w4 fun n5 => ldI .i64 (a1.add 1) w4 fun n6 => ldI .i64 (a1.add 2) w4 fun n7 => ldI .i64 (a1.add 3) w4 fun n8 => ldS (a1.add 4) w4 fun s9 => c_vm_New n5 n6 n7 n8 s9 args_1 reads_2 w4 fun r10 r11 w12 => iteB ((r11 : Int) != 0)
  (stP a3 (.bool false) w12 fun w13 => stP (a3.add 1) (.int .i64 0) w13 fun w14 => stP (a3.add 2) (.int .i64 0) w14 fun w15 => stP (a3.add 3) (.slice none 0 0) w15 fun w16 => stP (a3.add 4) (.slice none 0 0) w16 fun w17 => stP (a3.add 5) (.int .i64 0) w17 fun w18 => ldB a3 w18 fun t19 => ldI .i64 (a3.add 1) w18 fun n20 => ldI .i64 (a3.add 2) w18 fun n21 => ldS (a3.add 3) w18 fun s22 => ldS (a3.add 4) w18 fun s23 => ldI .i64 (a3.add 5) w18 fun n24 => K t19 n20 n21 s22 s23 n24 r11 w18)
  (loopP (σ := Unit) (fun st26 next25 w27 => c_vm_Machine_Step r10 w27 fun r28 w29 => iteB r28
  (next25 (()) w29)
  (c_vm_Machine_Effect r10 w29 fun r30 r31 r32 r33 r34 r35 w36 => stP a3 (.bool r30) w36 fun w37 => stP (a3.add 1) (.int .i64 r31) w37 fun w38 => stP (a3.add 2) (.int .i64 r32) w38 fun w39 => stP (a3.add 3) (.slice r33.a r33.l r33.c) w39 fun w40 => stP (a3.add 4) (.slice r34.a r34.l r34.c) w40 fun w41 => stP (a3.add 5) (.int .i64 r35) w41 fun w42 => ldB a3 w42 fun t43 => ldI .i64 (a3.add 1) w42 fun n44 => ldI .i64 (a3.add 2) w42 fun n45 => ldS (a3.add 3) w42 fun s46 => ldS (a3.add 4) w42 fun s47 => ldI .i64 (a3.add 5) w42 fun n48 => K t43 n44 n45 s46 s47 n48 0 w42)) (()) w12)

def c_vm_Run (p_0_0 : Int) (p_0_1 : Int) (p_0_2 : Int) (p_0_3 : Int) (p_0_4 : Slc) (args_1 : Slc) (reads_2 : Slc) (w : World) (K : Bool → Int → Int → Slc → Slc → Int → Int → World → Prop) : Prop := Calls Try.prog 15 #[.agg #[.int .i64 p_0_0, .int .i64 p_0_1, .int .i64 p_0_2, .int .i64 p_0_3, .slice p_0_4.a p_0_4.l p_0_4.c], .slice args_1.a args_1.l args_1.c, .slice reads_2.a reads_2.l reads_2.c] w (onRet (fun v w' => ∃ (y0 : Bool), ∃ (y1 : Int), ∃ (y2 : Int), ∃ (y3 : Slc), ∃ (y4 : Slc), ∃ (y5 : Int), ∃ (y6 : Int), v = .tuple #[.agg #[.bool y0, .int .i64 y1, .int .i64 y2, .slice y3.a y3.l y3.c, .slice y4.a y4.l y4.c, .int .i64 y5], .int .i64 y6] ∧ K y0 y1 y2 y3 y4 y5 y6 w'))

theorem sim_vm_Run {p_0_0 : Int} {p_0_1 : Int} {p_0_2 : Int} {p_0_3 : Int} {p_0_4 : Slc} {args_1 : Slc} {reads_2 : Slc} {w : World} {K : Bool → Int → Int → Slc → Slc → Int → Int → World → Prop} (h : sh_vm_Run c_vm_New c_vm_Machine_Step c_vm_Machine_Effect p_0_0 p_0_1 p_0_2 p_0_3 p_0_4 args_1 reads_2 w K) : c_vm_Run p_0_0 p_0_1 p_0_2 p_0_3 p_0_4 args_1 reads_2 w K := by
  have e : sh_vm_Run c_vm_New c_vm_Machine_Step c_vm_Machine_Effect p_0_0 p_0_1 p_0_2 p_0_3 p_0_4 args_1 reads_2 w K = shF Try.prog 15 ⟨[], [(5, [], [6, 8, 10])], []⟩ [.agg #[.int .i64 p_0_0, .int .i64 p_0_1, .int .i64 p_0_2, .int .i64 p_0_3, .slice p_0_4.a p_0_4.l p_0_4.c], .slice args_1.a args_1.l args_1.c, .slice reads_2.a reads_2.l reads_2.c] w (fun v w' => decT [(true, [.b, (.int .i64), (.int .i64), .sl, .sl, (.int .i64)]), (false, [(.int .i64)])] v fun s => (fun (y0 : Bool) (y1 : Int) (y2 : Int) (y3 : Slc) (y4 : Slc) (y5 : Int) (y6 : Int) => K y0 y1 y2 y3 y4 y5 y6 w') s.1 s.2.1 s.2.2.1 s.2.2.2.1 s.2.2.2.2.1 s.2.2.2.2.2.1 s.2.2.2.2.2.2.1) := by kernel_rfl
  exact Calls.mono (calls_of _ e h) (onRet_mono (fun _ _ h => by obtain ⟨s, h1, h2⟩ := decT_spec h; exact ⟨s.1, s.2.1, s.2.2.1, s.2.2.2.1, s.2.2.2.2.1, s.2.2.2.2.2.1, s.2.2.2.2.2.2.1, h1, h2⟩))

-- 16 prelude/preluderef05.Run; callees ['preluderef05_New', 'preluderef05_Machine_Step', 'preluderef05_Machine_Effect']
def sh_preluderef05_Run (c_preluderef05_New : Int → Int → Int → Int → Slc → Slc → Slc → World → (Option Addr → Int → World → Prop) → Prop) (c_preluderef05_Machine_Step : Option Addr → World → (Bool → World → Prop) → Prop) (c_preluderef05_Machine_Effect : Option Addr → World → (Bool → Int → Int → Slc → Slc → Int → World → Prop) → Prop) (p_0_0 : Int) (p_0_1 : Int) (p_0_2 : Int) (p_0_3 : Int) (p_0_4 : Slc) (args_1 : Slc) (reads_2 : Slc) (w : World) (K : Bool → Int → Int → Slc → Slc → Int → Int → World → Prop) : Prop :=
  newP #[.int .i64 p_0_0, .int .i64 p_0_1, .int .i64 p_0_2, .int .i64 p_0_3, .slice p_0_4.a p_0_4.l p_0_4.c] 24 w fun a1 w2 => newP #[.bool false, .int .i64 0, .int .i64 0, .slice none 0 0, .slice none 0 0, .int .i64 0] 48 w2 fun a3 w4 => ldI .i64 a1 w4 fun n5 => ldI .i64 (a1.add 1) w4 fun n6 => ldI .i64 (a1.add 2) w4 fun n7 => ldI .i64 (a1.add 3) w4 fun n8 => ldS (a1.add 4) w4 fun s9 => c_preluderef05_New n5 n6 n7 n8 s9 args_1 reads_2 w4 fun r10 r11 w12 => iteB ((r11 : Int) != 0)
  (stP a3 (.bool false) w12 fun w13 => stP (a3.add 1) (.int .i64 0) w13 fun w14 => stP (a3.add 2) (.int .i64 0) w14 fun w15 => stP (a3.add 3) (.slice none 0 0) w15 fun w16 => stP (a3.add 4) (.slice none 0 0) w16 fun w17 => stP (a3.add 5) (.int .i64 0) w17 fun w18 => ldB a3 w18 fun t19 => ldI .i64 (a3.add 1) w18 fun n20 => ldI .i64 (a3.add 2) w18 fun n21 => ldS (a3.add 3) w18 fun s22 => ldS (a3.add 4) w18 fun s23 => ldI .i64 (a3.add 5) w18 fun n24 => K t19 n20 n21 s22 s23 n24 r11 w18)
  (loopP (σ := Unit) (fun st26 next25 w27 => nnP r10 fun a28 => ldB (a28.add 13) w27 fun t29 => iteB (!t29)
  (c_preluderef05_Machine_Step r10 w27 fun r30 w31 => next25 (()) w31)
  (c_preluderef05_Machine_Effect r10 w27 fun r32 r33 r34 r35 r36 r37 w38 => stP a3 (.bool r32) w38 fun w39 => stP (a3.add 1) (.int .i64 r33) w39 fun w40 => stP (a3.add 2) (.int .i64 r34) w40 fun w41 => stP (a3.add 3) (.slice r35.a r35.l r35.c) w41 fun w42 => stP (a3.add 4) (.slice r36.a r36.l r36.c) w42 fun w43 => stP (a3.add 5) (.int .i64 r37) w43 fun w44 => ldB a3 w44 fun t45 => ldI .i64 (a3.add 1) w44 fun n46 => ldI .i64 (a3.add 2) w44 fun n47 => ldS (a3.add 3) w44 fun s48 => ldS (a3.add 4) w44 fun s49 => ldI .i64 (a3.add 5) w44 fun n50 => K t45 n46 n47 s48 s49 n50 0 w44)) (()) w12)

def c_preluderef05_Run (p_0_0 : Int) (p_0_1 : Int) (p_0_2 : Int) (p_0_3 : Int) (p_0_4 : Slc) (args_1 : Slc) (reads_2 : Slc) (w : World) (K : Bool → Int → Int → Slc → Slc → Int → Int → World → Prop) : Prop := Calls Try.prog 16 #[.agg #[.int .i64 p_0_0, .int .i64 p_0_1, .int .i64 p_0_2, .int .i64 p_0_3, .slice p_0_4.a p_0_4.l p_0_4.c], .slice args_1.a args_1.l args_1.c, .slice reads_2.a reads_2.l reads_2.c] w (onRet (fun v w' => ∃ (y0 : Bool), ∃ (y1 : Int), ∃ (y2 : Int), ∃ (y3 : Slc), ∃ (y4 : Slc), ∃ (y5 : Int), ∃ (y6 : Int), v = .tuple #[.agg #[.bool y0, .int .i64 y1, .int .i64 y2, .slice y3.a y3.l y3.c, .slice y4.a y4.l y4.c, .int .i64 y5], .int .i64 y6] ∧ K y0 y1 y2 y3 y4 y5 y6 w'))

theorem sim_preluderef05_Run {p_0_0 : Int} {p_0_1 : Int} {p_0_2 : Int} {p_0_3 : Int} {p_0_4 : Slc} {args_1 : Slc} {reads_2 : Slc} {w : World} {K : Bool → Int → Int → Slc → Slc → Int → Int → World → Prop} (h : sh_preluderef05_Run c_preluderef05_New c_preluderef05_Machine_Step c_preluderef05_Machine_Effect p_0_0 p_0_1 p_0_2 p_0_3 p_0_4 args_1 reads_2 w K) : c_preluderef05_Run p_0_0 p_0_1 p_0_2 p_0_3 p_0_4 args_1 reads_2 w K := by
  have e : sh_preluderef05_Run c_preluderef05_New c_preluderef05_Machine_Step c_preluderef05_Machine_Effect p_0_0 p_0_1 p_0_2 p_0_3 p_0_4 args_1 reads_2 w K = shF Try.prog 16 ⟨[], [(4, [], [6, 8])], []⟩ [.agg #[.int .i64 p_0_0, .int .i64 p_0_1, .int .i64 p_0_2, .int .i64 p_0_3, .slice p_0_4.a p_0_4.l p_0_4.c], .slice args_1.a args_1.l args_1.c, .slice reads_2.a reads_2.l reads_2.c] w (fun v w' => decT [(true, [.b, (.int .i64), (.int .i64), .sl, .sl, (.int .i64)]), (false, [(.int .i64)])] v fun s => (fun (y0 : Bool) (y1 : Int) (y2 : Int) (y3 : Slc) (y4 : Slc) (y5 : Int) (y6 : Int) => K y0 y1 y2 y3 y4 y5 y6 w') s.1 s.2.1 s.2.2.1 s.2.2.2.1 s.2.2.2.2.1 s.2.2.2.2.2.1 s.2.2.2.2.2.2.1) := by kernel_rfl
  exact Calls.mono (calls_of _ e h) (onRet_mono (fun _ _ h => by obtain ⟨s, h1, h2⟩ := decT_spec h; exact ⟨s.1, s.2.1, s.2.2.1, s.2.2.2.1, s.2.2.2.2.1, s.2.2.2.2.2.1, s.2.2.2.2.2.2.1, h1, h2⟩))

-- 37 prelude/preludelaw05.move; callees []
def sh_preludelaw05_move (w : World) (K : Int → Int → Int → Int → Slc → World → Prop) : Prop :=
  newP #[.int .i64 0, .int .i64 0, .int .i64 0, .int .i64 0, .slice none 0 0] 24 w fun a1 w2 => newP #[.int .i64 7, .int .i64 0, .int .i64 6, .int .i64 0, .int .i64 24, .int .i64 0, .int .i64 31, .int .i64 6, .int .i64 1, .int .i64 1, .int .i64 36, .int .i64 0, .int .i64 7, .int .i64 0, .int .i64 6, .int .i64 0, .int .i64 11, .int .i64 0, .int .i64 32, .int .i64 0, .int .i64 7, .int .i64 1, .int .i64 6, .int .i64 0, .int .i64 10, .int .i64 0, .int .i64 32, .int .i64 1] 60 w2 fun a3 w4 => stP a1 (.int .i64 1) w4 fun w5 => stP (a1.add 1) (.int .i64 2) w5 fun w6 => stP (a1.add 2) (.int .i64 2) w6 fun w7 => stP (a1.add 3) (.int .i64 0) w7 fun w8 => stP (a1.add 4) (.slice (some a3) 14 14) w8 fun w9 => ldI .i64 a1 w9 fun n10 => ldI .i64 (a1.add 1) w9 fun n11 => ldI .i64 (a1.add 2) w9 fun n12 => ldI .i64 (a1.add 3) w9 fun n13 => ldS (a1.add 4) w9 fun s14 => K n10 n11 n12 n13 s14 w9

def c_preludelaw05_move (w : World) (K : Int → Int → Int → Int → Slc → World → Prop) : Prop := Calls Try.prog 37 #[] w (onRet (fun v w' => ∃ (y0 : Int), ∃ (y1 : Int), ∃ (y2 : Int), ∃ (y3 : Int), ∃ (y4 : Slc), v = .agg #[.int .i64 y0, .int .i64 y1, .int .i64 y2, .int .i64 y3, .slice y4.a y4.l y4.c] ∧ K y0 y1 y2 y3 y4 w'))

theorem sim_preludelaw05_move {w : World} {K : Int → Int → Int → Int → Slc → World → Prop} (h : sh_preludelaw05_move w K) : c_preludelaw05_move  w K := by
  have e : sh_preludelaw05_move w K = shF Try.prog 37 ⟨[], [], []⟩ [] w (fun v w' => decA [(.int .i64), (.int .i64), (.int .i64), (.int .i64), .sl] v fun s => (fun (y0 : Int) (y1 : Int) (y2 : Int) (y3 : Int) (y4 : Slc) => K y0 y1 y2 y3 y4 w') s.1 s.2.1 s.2.2.1 s.2.2.2.1 s.2.2.2.2.1) := by kernel_rfl
  exact Calls.mono (calls_of _ e h) (onRet_mono (fun _ _ h => by obtain ⟨s, h1, h2⟩ := decA_spec h; exact ⟨s.1, s.2.1, s.2.2.1, s.2.2.2.1, s.2.2.2.2.1, h1, h2⟩))

-- 19 prelude/preludelaw05.awake; callees ['preludelaw05_move', 'vm_Run']
def sh_preludelaw05_awake (c_preludelaw05_move : World → (Int → Int → Int → Int → Slc → World → Prop) → Prop) (c_vm_Run : Int → Int → Int → Int → Slc → Slc → Slc → World → (Bool → Int → Int → Slc → Slc → Int → Int → World → Prop) → Prop) (w : World) (K : Bool → World → Prop) : Prop :=
  c_preludelaw05_move  w fun r1 r2 r3 r4 r5 w6 => newP #[.int .i64 4] 2 w6 fun a7 w8 => newP #[.bool true, .int .i64 10, .bool true, .int .i64 5] 58 w8 fun a9 w10 => c_vm_Run r1 r2 r3 r4 r5 ⟨(some a7), 1, 1⟩ ⟨(some a9), 2, 2⟩ w10 fun r11 r12 r13 r14 r15 r16 r17 w18 => newP #[.bool false, .int .i64 0, .int .i64 0, .slice none 0 0, .slice none 0 0, .int .i64 0] 48 w18 fun a19 w20 => stP a19 (.bool r11) w20 fun w21 => stP (a19.add 1) (.int .i64 r12) w21 fun w22 => stP (a19.add 2) (.int .i64 r13) w22 fun w23 => stP (a19.add 3) (.slice r14.a r14.l r14.c) w23 fun w24 => stP (a19.add 4) (.slice r15.a r15.l r15.c) w24 fun w25 => stP (a19.add 5) (.int .i64 r16) w25 fun w26 => c_preludelaw05_move  w26 fun r27 r28 r29 r30 r31 w32 => newP #[.int .i64 20] 2 w32 fun a33 w34 => newP #[.bool true, .int .i64 6, .bool true, .int .i64 9] 58 w34 fun a35 w36 => c_vm_Run r27 r28 r29 r30 r31 ⟨(some a33), 1, 1⟩ ⟨(some a35), 2, 2⟩ w36 fun r37 r38 r39 r40 r41 r42 r43 w44 => newP #[.bool false, .int .i64 0, .int .i64 0, .slice none 0 0, .slice none 0 0, .int .i64 0] 48 w44 fun a45 w46 => stP a45 (.bool r37) w46 fun w47 => stP (a45.add 1) (.int .i64 r38) w47 fun w48 => stP (a45.add 2) (.int .i64 r39) w48 fun w49 => stP (a45.add 3) (.slice r40.a r40.l r40.c) w49 fun w50 => stP (a45.add 4) (.slice r41.a r41.l r41.c) w50 fun w51 => stP (a45.add 5) (.int .i64 r42) w51 fun w52 => iteB ((r17 : Int) != 0)
  (K false w52)
  (iteB ((r43 : Int) != 0)
  (K false w52)
  (ldB a19 w52 fun t53 => iteB (!t53)
  (K false w52)
  (ldI .i64 (a19.add 5) w52 fun n54 => iteB ((n54 : Int) != 12)
  (K false w52)
  (ldS (a19.add 4) w52 fun s55 => iteB (((s55.l : Int) : Int) != 2)
  (K false w52)
  (ldB a45 w52 fun t56 => iteB t56
  (K false w52)
  (ldI .i64 (a45.add 5) w52 fun n57 => iteB ((n57 : Int) != 6)
  (K false w52)
  (ldS (a19.add 4) w52 fun s58 => idxP s58.a s58.l 0 2 fun a59 => ldI .i64 a59 w52 fun n60 => ldI .i64 (a59.add 1) w52 fun n61 => (∃ (r62 : Bool), ∃ w63, (do eqGuard .eql 71 (.tmp 57) (.tmp 58) (.agg #[.int .i64 n60, .int .i64 n61]) (.agg #[.int .i64 1, .int .i64 6]); binOp .eql 71 (.agg #[.int .i64 n60, .int .i64 n61]) (.agg #[.int .i64 1, .int .i64 6])).run Try.prog w52 = .ok (.bool r62) w63 ∧ (iteB r62
  (ldS (a19.add 4) w63 fun s64 => idxP s64.a s64.l 1 2 fun a65 => ldI .i64 a65 w63 fun n66 => ldI .i64 (a65.add 1) w63 fun n67 => (∃ (r68 : Bool), ∃ w69, (do eqGuard .eql 71 (.tmp 64) (.tmp 65) (.agg #[.int .i64 n66, .int .i64 n67]) (.agg #[.int .i64 1, .int .i64 9]); binOp .eql 71 (.agg #[.int .i64 n66, .int .i64 n67]) (.agg #[.int .i64 1, .int .i64 9])).run Try.prog w63 = .ok (.bool r68) w69 ∧ (iteB r68
  (ldI .i64 (a45.add 1) w69 fun n70 => iteB ((n70 : Int) == 200)
  (ldI .i64 (a45.add 2) w69 fun n71 => K ((n71 : Int) == 1) w69)
  (K false w69))
  (K false w69))))
  (K false w63))))))))))

def c_preludelaw05_awake (w : World) (K : Bool → World → Prop) : Prop := Calls Try.prog 19 #[] w (onRet (fun v w' => ∃ (y0 : Bool), v = .bool y0 ∧ K y0 w'))

theorem sim_preludelaw05_awake {w : World} {K : Bool → World → Prop} (h : sh_preludelaw05_awake c_preludelaw05_move c_vm_Run w K) : c_preludelaw05_awake  w K := by
  have e : sh_preludelaw05_awake c_preludelaw05_move c_vm_Run w K = shF Try.prog 19 ⟨[], [], []⟩ [] w (fun v w' => decV .b v fun y0 => K y0 w') := by kernel_rfl
  exact Calls.mono (calls_of _ e h) (onRet_mono (fun _ _ h => decV_spec h))

-- 25 prelude/lang.Longest; callees ['lang_Verify', 'lang_ways']
def sh_lang_Longest (c_lang_Verify : Int → Int → Int → Int → Slc → World → (Int → World → Prop) → Prop) (c_lang_ways : Int → Int → Int → World → (Slc → World → Prop) → Prop) (p_0_0 : Int) (p_0_1 : Int) (p_0_2 : Int) (p_0_3 : Int) (p_0_4 : Slc) (w : World) (K : Int → Int → World → Prop) : Prop :=
  newP #[.int .i64 p_0_0, .int .i64 p_0_1, .int .i64 p_0_2, .int .i64 p_0_3, .slice p_0_4.a p_0_4.l p_0_4.c] 24 w fun a1 w2 => ldI .i64 a1 w2 fun n3 => ldI .i64 (a1.add 1) w2 fun n4 => ldI .i64 (a1.add 2) w2 fun n5 => ldI .i64 (a1.add 3) w2 fun n6 => ldS (a1.add 4) w2 fun s7 => c_lang_Verify n3 n4 n5 n6 s7 w2 fun r8 w9 => iteB ((r8 : Int) != 0)
  (K 0 r8 w9)
  (ldS (a1.add 4) w9 fun s10 => mkP Try.prog 29 (.int .i64 (IntKind.i64.wrap ((s10.l : Int) + 1))) (.int .i64 (IntKind.i64.wrap ((s10.l : Int) + 1))) w9 fun s11 w12 => ldS (a1.add 4) w12 fun s13 => loopP (σ := Int × Unit) (fun st15 next14 w16 => (fun (at_17 : Int) => iteB (decide ((at_17 : Int) ≥ 0))
  (ldS (a1.add 4) w16 fun s18 => idxP s18.a s18.l at_17 2 fun a19 => ldI .i64 a19 w16 fun n20 => ldI .i64 (a19.add 1) w16 fun n21 => c_lang_ways n20 n21 at_17 w16 fun r22 w23 => loopP (σ := Int × Unit) (fun st25 next24 w26 => (fun (x27 : Int) => iteB (decide ((x27 : Int) < (r22.l : Int)))
  (idxP r22.a r22.l x27 1 fun a28 => ldI .i64 a28 w26 fun n29 => idxP s11.a s11.l at_17 1 fun a30 => ldI .i64 a30 w26.drew fun n31 => idxP s11.a s11.l n29 1 fun a32 => ldI .i64 a32 w26.drew fun n33 => idxP s11.a s11.l at_17 1 fun a34 => stP a34 (.int .i64 (if (n33 : Int) > n31 then n33 else n31)) w26.drew fun w35 => next24 ((IntKind.i64.wrap (x27 + 1)), ()) w35)
  (idxP s11.a s11.l at_17 1 fun a36 => ldI .i64 a36 w26 fun n37 => idxP s11.a s11.l at_17 1 fun a38 => stP a38 (.int .i64 (IntKind.i64.wrap (n37 + 1))) w26 fun w39 => next14 ((IntKind.i64.wrap (at_17 - 1)), ()) w39)) st25.1) (0, ()) w23)
  (idxP s11.a s11.l 0 1 fun a40 => ldI .i64 a40 w16 fun n41 => K n41 0 w16)) st15.1) ((IntKind.i64.wrap ((s13.l : Int) - 1)), ()) w12)

def c_lang_Longest (p_0_0 : Int) (p_0_1 : Int) (p_0_2 : Int) (p_0_3 : Int) (p_0_4 : Slc) (w : World) (K : Int → Int → World → Prop) : Prop := Calls Try.prog 25 #[.agg #[.int .i64 p_0_0, .int .i64 p_0_1, .int .i64 p_0_2, .int .i64 p_0_3, .slice p_0_4.a p_0_4.l p_0_4.c]] w (onRet (fun v w' => ∃ (y0 : Int), ∃ (y1 : Int), v = .tuple #[.int .i64 y0, .int .i64 y1] ∧ K y0 y1 w'))

theorem sim_lang_Longest {p_0_0 : Int} {p_0_1 : Int} {p_0_2 : Int} {p_0_3 : Int} {p_0_4 : Slc} {w : World} {K : Int → Int → World → Prop} (h : sh_lang_Longest c_lang_Verify c_lang_ways p_0_0 p_0_1 p_0_2 p_0_3 p_0_4 w K) : c_lang_Longest p_0_0 p_0_1 p_0_2 p_0_3 p_0_4 w K := by
  have e : sh_lang_Longest c_lang_Verify c_lang_ways p_0_0 p_0_1 p_0_2 p_0_3 p_0_4 w K = shF Try.prog 25 ⟨[(11, .of [0, 1, 2, 3, 4, 5, 6, 7, 8, 9, 10, 11, 12])], [(6, [(6, (.int .i64))], [1, 5]), (9, [(35, (.int .i64))], [1, 5, 6, 33, 34])], []⟩ [.agg #[.int .i64 p_0_0, .int .i64 p_0_1, .int .i64 p_0_2, .int .i64 p_0_3, .slice p_0_4.a p_0_4.l p_0_4.c]] w (fun v w' => decT [(false, [(.int .i64)]), (false, [(.int .i64)])] v fun s => (fun (y0 : Int) (y1 : Int) => K y0 y1 w') s.1 s.2.1) := by kernel_rfl
  exact Calls.mono (calls_of _ e h) (onRet_mono (fun _ _ h => by obtain ⟨s, h1, h2⟩ := decT_spec h; exact ⟨s.1, s.2.1, h1, h2⟩))

-- 46 prelude/vm.pairs$1; callees []
def sh_vm_pairs_1 (x_0 : Int) (y_1 : Int) (w : World) (K : Int → World → Prop) : Prop :=
  K (IntKind.i64.wrap (x_0 + y_1)) w

def c_vm_pairs_1 (x_0 : Int) (y_1 : Int) (w : World) (K : Int → World → Prop) : Prop := Calls Try.prog 46 #[.int .i64 x_0, .int .i64 y_1] w (onRet (fun v w' => ∃ (y0 : Int), v = .int .i64 y0 ∧ K y0 w'))

theorem sim_vm_pairs_1 {x_0 : Int} {y_1 : Int} {w : World} {K : Int → World → Prop} (h : sh_vm_pairs_1 x_0 y_1 w K) : c_vm_pairs_1 x_0 y_1 w K := by
  have e : sh_vm_pairs_1 x_0 y_1 w K = shF Try.prog 46 ⟨[], [], []⟩ [.int .i64 x_0, .int .i64 y_1] w (fun v w' => decV (.int .i64) v fun y0 => K y0 w') := by kernel_rfl
  exact Calls.mono (calls_of _ e h) (onRet_mono (fun _ _ h => decV_spec h))

-- 47 prelude/vm.pairs$2; callees []
def sh_vm_pairs_2 (x_0 : Int) (y_1 : Int) (w : World) (K : Int → World → Prop) : Prop :=
  K (IntKind.i64.wrap (x_0 - y_1)) w

def c_vm_pairs_2 (x_0 : Int) (y_1 : Int) (w : World) (K : Int → World → Prop) : Prop := Calls Try.prog 47 #[.int .i64 x_0, .int .i64 y_1] w (onRet (fun v w' => ∃ (y0 : Int), v = .int .i64 y0 ∧ K y0 w'))

theorem sim_vm_pairs_2 {x_0 : Int} {y_1 : Int} {w : World} {K : Int → World → Prop} (h : sh_vm_pairs_2 x_0 y_1 w K) : c_vm_pairs_2 x_0 y_1 w K := by
  have e : sh_vm_pairs_2 x_0 y_1 w K = shF Try.prog 47 ⟨[], [], []⟩ [.int .i64 x_0, .int .i64 y_1] w (fun v w' => decV (.int .i64) v fun y0 => K y0 w') := by kernel_rfl
  exact Calls.mono (calls_of _ e h) (onRet_mono (fun _ _ h => decV_spec h))

-- 48 prelude/vm.pairs$3; callees []
def sh_vm_pairs_3 (x_0 : Int) (y_1 : Int) (w : World) (K : Int → World → Prop) : Prop :=
  K (IntKind.i64.wrap (x_0 * y_1)) w

def c_vm_pairs_3 (x_0 : Int) (y_1 : Int) (w : World) (K : Int → World → Prop) : Prop := Calls Try.prog 48 #[.int .i64 x_0, .int .i64 y_1] w (onRet (fun v w' => ∃ (y0 : Int), v = .int .i64 y0 ∧ K y0 w'))

theorem sim_vm_pairs_3 {x_0 : Int} {y_1 : Int} {w : World} {K : Int → World → Prop} (h : sh_vm_pairs_3 x_0 y_1 w K) : c_vm_pairs_3 x_0 y_1 w K := by
  have e : sh_vm_pairs_3 x_0 y_1 w K = shF Try.prog 48 ⟨[], [], []⟩ [.int .i64 x_0, .int .i64 y_1] w (fun v w' => decV (.int .i64) v fun y0 => K y0 w') := by kernel_rfl
  exact Calls.mono (calls_of _ e h) (onRet_mono (fun _ _ h => decV_spec h))

-- 50 prelude/vm.pairs$4; callees []
def sh_vm_pairs_4 (x_0 : Int) (y_1 : Int) (w : World) (K : Int → World → Prop) : Prop :=
  dzP y_1 (K (IntKind.i64.wrap (Int.tdiv x_0 y_1)) w)

def c_vm_pairs_4 (x_0 : Int) (y_1 : Int) (w : World) (K : Int → World → Prop) : Prop := Calls Try.prog 50 #[.int .i64 x_0, .int .i64 y_1] w (onRet (fun v w' => ∃ (y0 : Int), v = .int .i64 y0 ∧ K y0 w'))

theorem sim_vm_pairs_4 {x_0 : Int} {y_1 : Int} {w : World} {K : Int → World → Prop} (h : sh_vm_pairs_4 x_0 y_1 w K) : c_vm_pairs_4 x_0 y_1 w K := by
  have e : sh_vm_pairs_4 x_0 y_1 w K = shF Try.prog 50 ⟨[], [], []⟩ [.int .i64 x_0, .int .i64 y_1] w (fun v w' => decV (.int .i64) v fun y0 => K y0 w') := by kernel_rfl
  exact Calls.mono (calls_of _ e h) (onRet_mono (fun _ _ h => decV_spec h))

-- 51 prelude/vm.pairs$5; callees []
def sh_vm_pairs_5 (x_0 : Int) (y_1 : Int) (w : World) (K : Int → World → Prop) : Prop :=
  dzP y_1 (K (Int.tmod x_0 y_1) w)

def c_vm_pairs_5 (x_0 : Int) (y_1 : Int) (w : World) (K : Int → World → Prop) : Prop := Calls Try.prog 51 #[.int .i64 x_0, .int .i64 y_1] w (onRet (fun v w' => ∃ (y0 : Int), v = .int .i64 y0 ∧ K y0 w'))

theorem sim_vm_pairs_5 {x_0 : Int} {y_1 : Int} {w : World} {K : Int → World → Prop} (h : sh_vm_pairs_5 x_0 y_1 w K) : c_vm_pairs_5 x_0 y_1 w K := by
  have e : sh_vm_pairs_5 x_0 y_1 w K = shF Try.prog 51 ⟨[], [], []⟩ [.int .i64 x_0, .int .i64 y_1] w (fun v w' => decV (.int .i64) v fun y0 => K y0 w') := by kernel_rfl
  exact Calls.mono (calls_of _ e h) (onRet_mono (fun _ _ h => decV_spec h))

-- 52 prelude/vm.pairs$6; callees []
def sh_vm_pairs_6 (x_0 : Int) (y_1 : Int) (w : World) (K : Int → World → Prop) : Prop :=
  K (bAnd .i64 x_0 y_1) w

def c_vm_pairs_6 (x_0 : Int) (y_1 : Int) (w : World) (K : Int → World → Prop) : Prop := Calls Try.prog 52 #[.int .i64 x_0, .int .i64 y_1] w (onRet (fun v w' => ∃ (y0 : Int), v = .int .i64 y0 ∧ K y0 w'))

theorem sim_vm_pairs_6 {x_0 : Int} {y_1 : Int} {w : World} {K : Int → World → Prop} (h : sh_vm_pairs_6 x_0 y_1 w K) : c_vm_pairs_6 x_0 y_1 w K := by
  have e : sh_vm_pairs_6 x_0 y_1 w K = shF Try.prog 52 ⟨[], [], []⟩ [.int .i64 x_0, .int .i64 y_1] w (fun v w' => decV (.int .i64) v fun y0 => K y0 w') := by kernel_rfl
  exact Calls.mono (calls_of _ e h) (onRet_mono (fun _ _ h => decV_spec h))

-- 53 prelude/vm.pairs$7; callees []
def sh_vm_pairs_7 (x_0 : Int) (y_1 : Int) (w : World) (K : Int → World → Prop) : Prop :=
  K (bOr .i64 x_0 y_1) w

def c_vm_pairs_7 (x_0 : Int) (y_1 : Int) (w : World) (K : Int → World → Prop) : Prop := Calls Try.prog 53 #[.int .i64 x_0, .int .i64 y_1] w (onRet (fun v w' => ∃ (y0 : Int), v = .int .i64 y0 ∧ K y0 w'))

theorem sim_vm_pairs_7 {x_0 : Int} {y_1 : Int} {w : World} {K : Int → World → Prop} (h : sh_vm_pairs_7 x_0 y_1 w K) : c_vm_pairs_7 x_0 y_1 w K := by
  have e : sh_vm_pairs_7 x_0 y_1 w K = shF Try.prog 53 ⟨[], [], []⟩ [.int .i64 x_0, .int .i64 y_1] w (fun v w' => decV (.int .i64) v fun y0 => K y0 w') := by kernel_rfl
  exact Calls.mono (calls_of _ e h) (onRet_mono (fun _ _ h => decV_spec h))

-- 54 prelude/vm.pairs$8; callees []
def sh_vm_pairs_8 (x_0 : Int) (y_1 : Int) (w : World) (K : Int → World → Prop) : Prop :=
  K (bXor .i64 x_0 y_1) w

def c_vm_pairs_8 (x_0 : Int) (y_1 : Int) (w : World) (K : Int → World → Prop) : Prop := Calls Try.prog 54 #[.int .i64 x_0, .int .i64 y_1] w (onRet (fun v w' => ∃ (y0 : Int), v = .int .i64 y0 ∧ K y0 w'))

theorem sim_vm_pairs_8 {x_0 : Int} {y_1 : Int} {w : World} {K : Int → World → Prop} (h : sh_vm_pairs_8 x_0 y_1 w K) : c_vm_pairs_8 x_0 y_1 w K := by
  have e : sh_vm_pairs_8 x_0 y_1 w K = shF Try.prog 54 ⟨[], [], []⟩ [.int .i64 x_0, .int .i64 y_1] w (fun v w' => decV (.int .i64) v fun y0 => K y0 w') := by kernel_rfl
  exact Calls.mono (calls_of _ e h) (onRet_mono (fun _ _ h => decV_spec h))

-- 56 prelude/vm.pairs$9; callees []
def sh_vm_pairs_9 (x_0 : Int) (y_1 : Int) (w : World) (K : Int → World → Prop) : Prop :=
  shP (IntKind.u64.wrap y_1) (K (IntKind.i64.wrap (x_0 * 2 ^ (min (Int.toNat (IntKind.u64.wrap y_1)) (IntKind.bits .i64)))) w)

def c_vm_pairs_9 (x_0 : Int) (y_1 : Int) (w : World) (K : Int → World → Prop) : Prop := Calls Try.prog 56 #[.int .i64 x_0, .int .i64 y_1] w (onRet (fun v w' => ∃ (y0 : Int), v = .int .i64 y0 ∧ K y0 w'))

theorem sim_vm_pairs_9 {x_0 : Int} {y_1 : Int} {w : World} {K : Int → World → Prop} (h : sh_vm_pairs_9 x_0 y_1 w K) : c_vm_pairs_9 x_0 y_1 w K := by
  have e : sh_vm_pairs_9 x_0 y_1 w K = shF Try.prog 56 ⟨[], [], []⟩ [.int .i64 x_0, .int .i64 y_1] w (fun v w' => decV (.int .i64) v fun y0 => K y0 w') := by kernel_rfl
  exact Calls.mono (calls_of _ e h) (onRet_mono (fun _ _ h => decV_spec h))

-- 57 prelude/vm.pairs$10; callees []
def sh_vm_pairs_10 (x_0 : Int) (y_1 : Int) (w : World) (K : Int → World → Prop) : Prop :=
  shP (IntKind.u64.wrap y_1) (K (Int.fdiv x_0 (2 ^ (min (Int.toNat (IntKind.u64.wrap y_1)) (IntKind.bits .i64)))) w)

def c_vm_pairs_10 (x_0 : Int) (y_1 : Int) (w : World) (K : Int → World → Prop) : Prop := Calls Try.prog 57 #[.int .i64 x_0, .int .i64 y_1] w (onRet (fun v w' => ∃ (y0 : Int), v = .int .i64 y0 ∧ K y0 w'))

theorem sim_vm_pairs_10 {x_0 : Int} {y_1 : Int} {w : World} {K : Int → World → Prop} (h : sh_vm_pairs_10 x_0 y_1 w K) : c_vm_pairs_10 x_0 y_1 w K := by
  have e : sh_vm_pairs_10 x_0 y_1 w K = shF Try.prog 57 ⟨[], [], []⟩ [.int .i64 x_0, .int .i64 y_1] w (fun v w' => decV (.int .i64) v fun y0 => K y0 w') := by kernel_rfl
  exact Calls.mono (calls_of _ e h) (onRet_mono (fun _ _ h => decV_spec h))

-- 59 prelude/vm.pairs$11; callees []
def sh_vm_pairs_11 (x_0 : Int) (y_1 : Int) (w : World) (K : Bool → World → Prop) : Prop :=
  K ((x_0 : Int) == y_1) w

def c_vm_pairs_11 (x_0 : Int) (y_1 : Int) (w : World) (K : Bool → World → Prop) : Prop := Calls Try.prog 59 #[.int .i64 x_0, .int .i64 y_1] w (onRet (fun v w' => ∃ (y0 : Bool), v = .bool y0 ∧ K y0 w'))

theorem sim_vm_pairs_11 {x_0 : Int} {y_1 : Int} {w : World} {K : Bool → World → Prop} (h : sh_vm_pairs_11 x_0 y_1 w K) : c_vm_pairs_11 x_0 y_1 w K := by
  have e : sh_vm_pairs_11 x_0 y_1 w K = shF Try.prog 59 ⟨[], [], []⟩ [.int .i64 x_0, .int .i64 y_1] w (fun v w' => decV .b v fun y0 => K y0 w') := by kernel_rfl
  exact Calls.mono (calls_of _ e h) (onRet_mono (fun _ _ h => decV_spec h))

-- 60 prelude/vm.pairs$12; callees []
def sh_vm_pairs_12 (x_0 : Int) (y_1 : Int) (w : World) (K : Bool → World → Prop) : Prop :=
  K ((x_0 : Int) != y_1) w

def c_vm_pairs_12 (x_0 : Int) (y_1 : Int) (w : World) (K : Bool → World → Prop) : Prop := Calls Try.prog 60 #[.int .i64 x_0, .int .i64 y_1] w (onRet (fun v w' => ∃ (y0 : Bool), v = .bool y0 ∧ K y0 w'))

theorem sim_vm_pairs_12 {x_0 : Int} {y_1 : Int} {w : World} {K : Bool → World → Prop} (h : sh_vm_pairs_12 x_0 y_1 w K) : c_vm_pairs_12 x_0 y_1 w K := by
  have e : sh_vm_pairs_12 x_0 y_1 w K = shF Try.prog 60 ⟨[], [], []⟩ [.int .i64 x_0, .int .i64 y_1] w (fun v w' => decV .b v fun y0 => K y0 w') := by kernel_rfl
  exact Calls.mono (calls_of _ e h) (onRet_mono (fun _ _ h => decV_spec h))

-- 61 prelude/vm.pairs$13; callees []
def sh_vm_pairs_13 (x_0 : Int) (y_1 : Int) (w : World) (K : Bool → World → Prop) : Prop :=
  K (decide ((x_0 : Int) < y_1)) w

def c_vm_pairs_13 (x_0 : Int) (y_1 : Int) (w : World) (K : Bool → World → Prop) : Prop := Calls Try.prog 61 #[.int .i64 x_0, .int .i64 y_1] w (onRet (fun v w' => ∃ (y0 : Bool), v = .bool y0 ∧ K y0 w'))

theorem sim_vm_pairs_13 {x_0 : Int} {y_1 : Int} {w : World} {K : Bool → World → Prop} (h : sh_vm_pairs_13 x_0 y_1 w K) : c_vm_pairs_13 x_0 y_1 w K := by
  have e : sh_vm_pairs_13 x_0 y_1 w K = shF Try.prog 61 ⟨[], [], []⟩ [.int .i64 x_0, .int .i64 y_1] w (fun v w' => decV .b v fun y0 => K y0 w') := by kernel_rfl
  exact Calls.mono (calls_of _ e h) (onRet_mono (fun _ _ h => decV_spec h))

-- 62 prelude/vm.pairs$14; callees []
def sh_vm_pairs_14 (x_0 : Int) (y_1 : Int) (w : World) (K : Bool → World → Prop) : Prop :=
  K (decide ((x_0 : Int) ≤ y_1)) w

def c_vm_pairs_14 (x_0 : Int) (y_1 : Int) (w : World) (K : Bool → World → Prop) : Prop := Calls Try.prog 62 #[.int .i64 x_0, .int .i64 y_1] w (onRet (fun v w' => ∃ (y0 : Bool), v = .bool y0 ∧ K y0 w'))

theorem sim_vm_pairs_14 {x_0 : Int} {y_1 : Int} {w : World} {K : Bool → World → Prop} (h : sh_vm_pairs_14 x_0 y_1 w K) : c_vm_pairs_14 x_0 y_1 w K := by
  have e : sh_vm_pairs_14 x_0 y_1 w K = shF Try.prog 62 ⟨[], [], []⟩ [.int .i64 x_0, .int .i64 y_1] w (fun v w' => decV .b v fun y0 => K y0 w') := by kernel_rfl
  exact Calls.mono (calls_of _ e h) (onRet_mono (fun _ _ h => decV_spec h))

-- 63 prelude/vm.pairs$15; callees []
def sh_vm_pairs_15 (x_0 : Int) (y_1 : Int) (w : World) (K : Bool → World → Prop) : Prop :=
  K (decide ((x_0 : Int) > y_1)) w

def c_vm_pairs_15 (x_0 : Int) (y_1 : Int) (w : World) (K : Bool → World → Prop) : Prop := Calls Try.prog 63 #[.int .i64 x_0, .int .i64 y_1] w (onRet (fun v w' => ∃ (y0 : Bool), v = .bool y0 ∧ K y0 w'))

theorem sim_vm_pairs_15 {x_0 : Int} {y_1 : Int} {w : World} {K : Bool → World → Prop} (h : sh_vm_pairs_15 x_0 y_1 w K) : c_vm_pairs_15 x_0 y_1 w K := by
  have e : sh_vm_pairs_15 x_0 y_1 w K = shF Try.prog 63 ⟨[], [], []⟩ [.int .i64 x_0, .int .i64 y_1] w (fun v w' => decV .b v fun y0 => K y0 w') := by kernel_rfl
  exact Calls.mono (calls_of _ e h) (onRet_mono (fun _ _ h => decV_spec h))

-- 64 prelude/vm.pairs$16; callees []
def sh_vm_pairs_16 (x_0 : Int) (y_1 : Int) (w : World) (K : Bool → World → Prop) : Prop :=
  K (decide ((x_0 : Int) ≥ y_1)) w

def c_vm_pairs_16 (x_0 : Int) (y_1 : Int) (w : World) (K : Bool → World → Prop) : Prop := Calls Try.prog 64 #[.int .i64 x_0, .int .i64 y_1] w (onRet (fun v w' => ∃ (y0 : Bool), v = .bool y0 ∧ K y0 w'))

theorem sim_vm_pairs_16 {x_0 : Int} {y_1 : Int} {w : World} {K : Bool → World → Prop} (h : sh_vm_pairs_16 x_0 y_1 w K) : c_vm_pairs_16 x_0 y_1 w K := by
  have e : sh_vm_pairs_16 x_0 y_1 w K = shF Try.prog 64 ⟨[], [], []⟩ [.int .i64 x_0, .int .i64 y_1] w (fun v w' => decV .b v fun y0 => K y0 w') := by kernel_rfl
  exact Calls.mono (calls_of _ e h) (onRet_mono (fun _ _ h => decV_spec h))

-- 65 prelude/vm.pairs$17; callees []
def sh_vm_pairs_17 (x_0 : Int) (y_1 : Int) (w : World) (K : Int → World → Prop) : Prop :=
  K (if (y_1 : Int) < x_0 then y_1 else x_0) w

def c_vm_pairs_17 (x_0 : Int) (y_1 : Int) (w : World) (K : Int → World → Prop) : Prop := Calls Try.prog 65 #[.int .i64 x_0, .int .i64 y_1] w (onRet (fun v w' => ∃ (y0 : Int), v = .int .i64 y0 ∧ K y0 w'))

theorem sim_vm_pairs_17 {x_0 : Int} {y_1 : Int} {w : World} {K : Int → World → Prop} (h : sh_vm_pairs_17 x_0 y_1 w K) : c_vm_pairs_17 x_0 y_1 w K := by
  have e : sh_vm_pairs_17 x_0 y_1 w K = shF Try.prog 65 ⟨[], [], []⟩ [.int .i64 x_0, .int .i64 y_1] w (fun v w' => decV (.int .i64) v fun y0 => K y0 w') := by kernel_rfl
  exact Calls.mono (calls_of _ e h) (onRet_mono (fun _ _ h => decV_spec h))

-- 66 prelude/vm.pairs$18; callees []
def sh_vm_pairs_18 (x_0 : Int) (y_1 : Int) (w : World) (K : Int → World → Prop) : Prop :=
  K (if (y_1 : Int) > x_0 then y_1 else x_0) w

def c_vm_pairs_18 (x_0 : Int) (y_1 : Int) (w : World) (K : Int → World → Prop) : Prop := Calls Try.prog 66 #[.int .i64 x_0, .int .i64 y_1] w (onRet (fun v w' => ∃ (y0 : Int), v = .int .i64 y0 ∧ K y0 w'))

theorem sim_vm_pairs_18 {x_0 : Int} {y_1 : Int} {w : World} {K : Int → World → Prop} (h : sh_vm_pairs_18 x_0 y_1 w K) : c_vm_pairs_18 x_0 y_1 w K := by
  have e : sh_vm_pairs_18 x_0 y_1 w K = shF Try.prog 66 ⟨[], [], []⟩ [.int .i64 x_0, .int .i64 y_1] w (fun v w' => decV (.int .i64) v fun y0 => K y0 w') := by kernel_rfl
  exact Calls.mono (calls_of _ e h) (onRet_mono (fun _ _ h => decV_spec h))

-- 80 prelude/vm.plain$1; callees []
def sh_vm_plain_1 (x_0 : Int) (y_1 : Int) (cap_0 : Addr) (w : World) (K : Int → Int → World → Prop) : Prop :=
  ldV cap_0 w fun v1 => cvP Try.prog v1 [.int .i64 x_0, .int .i64 y_1] w fun v4 w3 => ∃ (r2 : Int), v4 = .int .i64 r2 ∧ (K r2 0 w3)

def c_vm_plain_1 (x_0 : Int) (y_1 : Int) (cap_0 : Addr) (w : World) (K : Int → Int → World → Prop) : Prop := Calls Try.prog 80 #[.int .i64 x_0, .int .i64 y_1, .pointer (some cap_0)] w (onRet (fun v w' => ∃ (y0 : Int), ∃ (y1 : Int), v = .tuple #[.int .i64 y0, .int .i64 y1] ∧ K y0 y1 w'))

theorem sim_vm_plain_1 {x_0 : Int} {y_1 : Int} {cap_0 : Addr} {w : World} {K : Int → Int → World → Prop} (h : sh_vm_plain_1 x_0 y_1 cap_0 w K) : c_vm_plain_1 x_0 y_1 cap_0 w K := by
  have e : sh_vm_plain_1 x_0 y_1 cap_0 w K = shF Try.prog 80 ⟨[], [], []⟩ [.int .i64 x_0, .int .i64 y_1, .pointer (some cap_0)] w (fun v w' => decT [(false, [(.int .i64)]), (false, [(.int .i64)])] v fun s => (fun (y0 : Int) (y1 : Int) => K y0 y1 w') s.1 s.2.1) := by kernel_rfl
  exact Calls.mono (calls_of _ e h) (onRet_mono (fun _ _ h => by obtain ⟨s, h1, h2⟩ := decT_spec h; exact ⟨s.1, s.2.1, h1, h2⟩))

-- 81 prelude/vm.divides$1; callees []
def sh_vm_divides_1 (x_0 : Int) (y_1 : Int) (cap_0 : Addr) (w : World) (K : Int → Int → World → Prop) : Prop :=
  iteB ((y_1 : Int) == 0)
  (K 0 201 w)
  (ldV cap_0 w fun v1 => cvP Try.prog v1 [.int .i64 x_0, .int .i64 y_1] w fun v4 w3 => ∃ (r2 : Int), v4 = .int .i64 r2 ∧ (K r2 0 w3))

def c_vm_divides_1 (x_0 : Int) (y_1 : Int) (cap_0 : Addr) (w : World) (K : Int → Int → World → Prop) : Prop := Calls Try.prog 81 #[.int .i64 x_0, .int .i64 y_1, .pointer (some cap_0)] w (onRet (fun v w' => ∃ (y0 : Int), ∃ (y1 : Int), v = .tuple #[.int .i64 y0, .int .i64 y1] ∧ K y0 y1 w'))

theorem sim_vm_divides_1 {x_0 : Int} {y_1 : Int} {cap_0 : Addr} {w : World} {K : Int → Int → World → Prop} (h : sh_vm_divides_1 x_0 y_1 cap_0 w K) : c_vm_divides_1 x_0 y_1 cap_0 w K := by
  have e : sh_vm_divides_1 x_0 y_1 cap_0 w K = shF Try.prog 81 ⟨[], [], []⟩ [.int .i64 x_0, .int .i64 y_1, .pointer (some cap_0)] w (fun v w' => decT [(false, [(.int .i64)]), (false, [(.int .i64)])] v fun s => (fun (y0 : Int) (y1 : Int) => K y0 y1 w') s.1 s.2.1) := by kernel_rfl
  exact Calls.mono (calls_of _ e h) (onRet_mono (fun _ _ h => by obtain ⟨s, h1, h2⟩ := decT_spec h; exact ⟨s.1, s.2.1, h1, h2⟩))

-- 82 prelude/vm.shifts$1; callees []
def sh_vm_shifts_1 (x_0 : Int) (y_1 : Int) (cap_0 : Addr) (w : World) (K : Int → Int → World → Prop) : Prop :=
  iteB (decide ((y_1 : Int) < 0))
  (K 0 202 w)
  (ldV cap_0 w fun v1 => cvP Try.prog v1 [.int .i64 x_0, .int .i64 y_1] w fun v4 w3 => ∃ (r2 : Int), v4 = .int .i64 r2 ∧ (K r2 0 w3))

def c_vm_shifts_1 (x_0 : Int) (y_1 : Int) (cap_0 : Addr) (w : World) (K : Int → Int → World → Prop) : Prop := Calls Try.prog 82 #[.int .i64 x_0, .int .i64 y_1, .pointer (some cap_0)] w (onRet (fun v w' => ∃ (y0 : Int), ∃ (y1 : Int), v = .tuple #[.int .i64 y0, .int .i64 y1] ∧ K y0 y1 w'))

theorem sim_vm_shifts_1 {x_0 : Int} {y_1 : Int} {cap_0 : Addr} {w : World} {K : Int → Int → World → Prop} (h : sh_vm_shifts_1 x_0 y_1 cap_0 w K) : c_vm_shifts_1 x_0 y_1 cap_0 w K := by
  have e : sh_vm_shifts_1 x_0 y_1 cap_0 w K = shF Try.prog 82 ⟨[], [], []⟩ [.int .i64 x_0, .int .i64 y_1, .pointer (some cap_0)] w (fun v w' => decT [(false, [(.int .i64)]), (false, [(.int .i64)])] v fun s => (fun (y0 : Int) (y1 : Int) => K y0 y1 w') s.1 s.2.1) := by kernel_rfl
  exact Calls.mono (calls_of _ e h) (onRet_mono (fun _ _ h => by obtain ⟨s, h1, h2⟩ := decT_spec h; exact ⟨s.1, s.2.1, h1, h2⟩))

-- 83 prelude/vm.asks$1; callees ['vm_truth']
def sh_vm_asks_1 (c_vm_truth : Bool → World → (Int → World → Prop) → Prop) (x_0 : Int) (y_1 : Int) (cap_0 : Addr) (w : World) (K : Int → Int → World → Prop) : Prop :=
  ldV cap_0 w fun v1 => cvP Try.prog v1 [.int .i64 x_0, .int .i64 y_1] w fun v4 w3 => ∃ (r2 : Bool), v4 = .bool r2 ∧ (c_vm_truth r2 w3 fun r5 w6 => K r5 0 w6)

def c_vm_asks_1 (x_0 : Int) (y_1 : Int) (cap_0 : Addr) (w : World) (K : Int → Int → World → Prop) : Prop := Calls Try.prog 83 #[.int .i64 x_0, .int .i64 y_1, .pointer (some cap_0)] w (onRet (fun v w' => ∃ (y0 : Int), ∃ (y1 : Int), v = .tuple #[.int .i64 y0, .int .i64 y1] ∧ K y0 y1 w'))

theorem sim_vm_asks_1 {x_0 : Int} {y_1 : Int} {cap_0 : Addr} {w : World} {K : Int → Int → World → Prop} (h : sh_vm_asks_1 c_vm_truth x_0 y_1 cap_0 w K) : c_vm_asks_1 x_0 y_1 cap_0 w K := by
  have e : sh_vm_asks_1 c_vm_truth x_0 y_1 cap_0 w K = shF Try.prog 83 ⟨[], [], []⟩ [.int .i64 x_0, .int .i64 y_1, .pointer (some cap_0)] w (fun v w' => decT [(false, [(.int .i64)]), (false, [(.int .i64)])] v fun s => (fun (y0 : Int) (y1 : Int) => K y0 y1 w') s.1 s.2.1) := by kernel_rfl
  exact Calls.mono (calls_of _ e h) (onRet_mono (fun _ _ h => by obtain ⟨s, h1, h2⟩ := decT_spec h; exact ⟨s.1, s.2.1, h1, h2⟩))

-- NOT 98 (runtime.boundsError).Error: no body
-- NOT 99 (runtime.boundsError).RuntimeError: no body
-- NOT 100 (runtime.errorString).Error: no body
-- NOT 101 (runtime.errorString).RuntimeError: no body
-- NOT 102 (runtime.plainError).Error: no body
-- NOT 103 (runtime.plainError).RuntimeError: no body
-- NOT 104 (runtime.errorAddressString).Error: no body
-- NOT 105 (runtime.errorAddressString).RuntimeError: no body
-- NOT 106 (*runtime.TypeAssertionError).Error: no body
-- NOT 107 (*runtime.TypeAssertionError).RuntimeError: no body
-- NOT 108 (*runtime.PanicNilError).Error: no body
-- NOT 109 (*runtime.PanicNilError).RuntimeError: no body
-- NOT 110 (*internal/abi.Type).Align: no body
-- NOT 111 (internal/runtime/maps.unhashableTypeError).Error: no body
-- NOT 112 (internal/runtime/maps.unhashableTypeError).RuntimeError: no body
-- NOT 113 (prelude/api.Errno).Error: no body
-- NOT 114 (internal/abi.Kind).String: no body
end Go.Proofs.Ytlkgnfpjmafdkaa
