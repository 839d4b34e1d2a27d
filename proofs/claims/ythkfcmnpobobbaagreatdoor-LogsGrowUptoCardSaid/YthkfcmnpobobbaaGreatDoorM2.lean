/-
  Walks and plain laws, part 2.
-/
import Derived.Test.YthkfcmnpobobbaaGreatDoorTy
import Derived.KernelRfl
import Derived.Shelf.Strconv.Itoa3
import Derived.Shelf.Strconv.AtoiAll
import Derived.Shelf.Strings.SlTrimAscii
import Derived.Test.YthkfcmnpobobbaaGreatDoorM1
import Derived.Below
import Derived.WalkSmall
import Derived.Lib.AtoiTie
import Derived.Lib.ConvBytes
import Derived.Test.YthkfcmnpobobbaaGreatDoorAbs4
/- The library's contracts on numbers and strings, laid at this program. -/
namespace Go.Proofs
open Go.Shelf
def Tryz.shItoa_ren : Go.Shelf.Ren := ⟨fun | 171 => 82 | 243 => 151 | 246 => 190 | 283 => 196 | 284 => 197 | 285 => 198 | 286 => 199 | 129 => 224 | 317 => 238 | 318 => 239 | 319 => 240 | 320 => 241 | 337 => 273 | 338 => 274 | n => n, fun | 3 => 3 | 9 => 9 | 2 => 2 | 4 => 4 | 171 => 229 | 0 => 0 | 53 => 134 | 37 => 70 | 5 => 5 | 173 => 232 | 212 => 271 | 51 => 234 | 20 => 20 | 213 => 272 | 46 => 201 | 232 => 306 | 233 => 307 | n => n, fun | 17 => 3 | 18 => 6 | 19 => 7 | n => n⟩
theorem Tryz.shItoa : Go.Proofs.LaysM.n171 Tryz.prog Tryz.shItoa_ren := {
  mixed := by kernel_rfl
  f129 := Tryz.func224.trans (congrArg some (by kernel_rfl))
  f171 := Tryz.func82.trans (congrArg some (by kernel_rfl))
  f243 := Tryz.func151.trans (congrArg some (by kernel_rfl))
  f246 := Tryz.func190.trans (congrArg some (by kernel_rfl))
  f283 := Tryz.func196.trans (congrArg some (by kernel_rfl))
  f284 := Tryz.func197.trans (congrArg some (by kernel_rfl))
  f285 := Tryz.func198.trans (congrArg some (by kernel_rfl))
  f286 := Tryz.func199.trans (congrArg some (by kernel_rfl))
  f317 := Tryz.func238.trans (congrArg some (by kernel_rfl))
  f318 := Tryz.func239.trans (congrArg some (by kernel_rfl))
  f319 := Tryz.func240.trans (congrArg some (by kernel_rfl))
  f320 := Tryz.func241.trans (congrArg some (by kernel_rfl))
  f337 := Tryz.func273.trans (congrArg some (by kernel_rfl))
  f338 := Tryz.func274.trans (congrArg some (by kernel_rfl))
  t0 := Tryz.underlying0
  a0 := Tryz.isAgg0
  z0 := Tryz.sizeOf0
  v0 := Tryz.zeroValue0
  t2 := Tryz.underlying2
  a2 := Tryz.isAgg2
  z2 := Tryz.sizeOf2
  v2 := Tryz.zeroValue2
  t3 := Tryz.underlying3
  a3 := Tryz.isAgg3
  z3 := Tryz.sizeOf3
  v3 := Tryz.zeroValue3
  t4 := Tryz.underlying4
  a4 := Tryz.isAgg4
  z4 := Tryz.sizeOf4
  v4 := Tryz.zeroValue4
  t5 := Tryz.underlying5
  a5 := Tryz.isAgg5
  z5 := Tryz.sizeOf5
  v5 := Tryz.zeroValue5
  t9 := Tryz.underlying9
  a9 := Tryz.isAgg9
  z9 := Tryz.sizeOf9
  v9 := Tryz.zeroValue9
  t20 := Tryz.underlying20
  a20 := Tryz.isAgg20
  z20 := Tryz.sizeOf20
  v20 := Tryz.zeroValue20
  t37 := Tryz.underlying70
  a37 := Tryz.isAgg70
  z37 := Tryz.sizeOf70
  v37 := Tryz.zeroValue70
  t46 := Tryz.underlying201
  a46 := Tryz.isAgg201
  z46 := Tryz.sizeOf201
  v46 := Tryz.zeroValue201
  t51 := Tryz.underlying234
  a51 := Tryz.isAgg234
  z51 := Tryz.sizeOf234
  v51 := Tryz.zeroValue234
  t53 := Tryz.underlying134
  a53 := Tryz.isAgg134
  z53 := Tryz.sizeOf134
  v53 := Tryz.zeroValue134
  t171 := Tryz.underlying229
  a171 := Tryz.isAgg229
  z171 := Tryz.sizeOf229
  v171 := Tryz.zeroValue229
  t173 := Tryz.underlying232
  a173 := Tryz.isAgg232
  z173 := Tryz.sizeOf232
  v173 := Tryz.zeroValue232
  t212 := Tryz.underlying271
  a212 := Tryz.isAgg271
  z212 := Tryz.sizeOf271
  v212 := Tryz.zeroValue271
  t213 := Tryz.underlying272
  a213 := Tryz.isAgg272
  z213 := Tryz.sizeOf272
  t232 := Tryz.underlying306
  a232 := Tryz.isAgg306
  z232 := Tryz.sizeOf306
  v232 := Tryz.zeroValue306
  t233 := Tryz.underlying307
  a233 := Tryz.isAgg307
  z233 := Tryz.sizeOf307
  v233 := Tryz.zeroValue307
  g17 := by kernel_rfl
  g18 := by kernel_rfl
  g19 := by kernel_rfl
  i0 := by kernel_rfl
  i2 := by kernel_rfl
  i3 := by kernel_rfl
  i4 := by kernel_rfl
  i5 := by kernel_rfl
  i9 := by kernel_rfl
  i20 := by kernel_rfl
  i37 := by kernel_rfl
  i46 := by kernel_rfl
  i51 := by kernel_rfl
  i53 := by kernel_rfl
  i171 := by kernel_rfl
  i173 := by kernel_rfl
  i212 := by kernel_rfl
  i232 := by kernel_rfl
  i233 := by kernel_rfl
  m17 := by kernel_rfl
  m18 := by kernel_rfl
  m19 := by kernel_rfl }
def Tryz.shAtoi_ren : Go.Shelf.Ren := ⟨fun | 172 => 87 | 244 => 153 | 245 => 154 | 247 => 191 | 279 => 192 | 280 => 193 | 281 => 194 | 282 => 195 | 287 => 235 | 316 => 236 | 171 => 82 | 205 => 237 | 321 => 271 | 322 => 272 | 243 => 151 | 246 => 190 | 283 => 196 | 284 => 197 | 285 => 198 | 286 => 199 | 129 => 224 | 317 => 238 | 318 => 239 | 319 => 240 | 320 => 241 | 337 => 273 | 338 => 274 | n => n, fun | 9 => 9 | 3 => 3 | 75 => 120 | 76 => 121 | 4 => 4 | 5 => 5 | 167 => 223 | 37 => 70 | 0 => 0 | 85 => 224 | 2 => 2 | 168 => 226 | 53 => 134 | 175 => 265 | 46 => 201 | 210 => 268 | 127 => 211 | 145 => 293 | 143 => 291 | 21 => 21 | 171 => 229 | 173 => 232 | 212 => 271 | 51 => 234 | 20 => 20 | 213 => 272 | 232 => 306 | 233 => 307 | 80 => 48 | n => n, fun | 15 => 1 | 16 => 2 | 17 => 3 | 18 => 6 | 19 => 7 | n => n⟩
theorem Tryz.shAtoi : Go.Proofs.LaysC.n172 Tryz.prog Tryz.shAtoi_ren := {
  mixed := by kernel_rfl
  f129 := Tryz.func224.trans (congrArg some (by kernel_rfl))
  f171 := Tryz.func82.trans (congrArg some (by kernel_rfl))
  f172 := Tryz.func87.trans (congrArg some (by kernel_rfl))
  f205 := Tryz.func237.trans (congrArg some (by kernel_rfl))
  f243 := Tryz.func151.trans (congrArg some (by kernel_rfl))
  f244 := Tryz.func153.trans (congrArg some (by kernel_rfl))
  f245 := Tryz.func154.trans (congrArg some (by kernel_rfl))
  f246 := Tryz.func190.trans (congrArg some (by kernel_rfl))
  f247 := Tryz.func191.trans (congrArg some (by kernel_rfl))
  f279 := Tryz.func192.trans (congrArg some (by kernel_rfl))
  f280 := Tryz.func193.trans (congrArg some (by kernel_rfl))
  f281 := Tryz.func194.trans (congrArg some (by kernel_rfl))
  f282 := Tryz.func195.trans (congrArg some (by kernel_rfl))
  f283 := Tryz.func196.trans (congrArg some (by kernel_rfl))
  f284 := Tryz.func197.trans (congrArg some (by kernel_rfl))
  f285 := Tryz.func198.trans (congrArg some (by kernel_rfl))
  f286 := Tryz.func199.trans (congrArg some (by kernel_rfl))
  f287 := Tryz.func235.trans (congrArg some (by kernel_rfl))
  f316 := Tryz.func236.trans (congrArg some (by kernel_rfl))
  f317 := Tryz.func238.trans (congrArg some (by kernel_rfl))
  f318 := Tryz.func239.trans (congrArg some (by kernel_rfl))
  f319 := Tryz.func240.trans (congrArg some (by kernel_rfl))
  f320 := Tryz.func241.trans (congrArg some (by kernel_rfl))
  f321 := Tryz.func271.trans (congrArg some (by kernel_rfl))
  f322 := Tryz.func272.trans (congrArg some (by kernel_rfl))
  f337 := Tryz.func273.trans (congrArg some (by kernel_rfl))
  f338 := Tryz.func274.trans (congrArg some (by kernel_rfl))
  t0 := Tryz.underlying0
  a0 := Tryz.isAgg0
  z0 := Tryz.sizeOf0
  v0 := Tryz.zeroValue0
  t2 := Tryz.underlying2
  a2 := Tryz.isAgg2
  z2 := Tryz.sizeOf2
  v2 := Tryz.zeroValue2
  t3 := Tryz.underlying3
  a3 := Tryz.isAgg3
  z3 := Tryz.sizeOf3
  v3 := Tryz.zeroValue3
  t4 := Tryz.underlying4
  a4 := Tryz.isAgg4
  z4 := Tryz.sizeOf4
  v4 := Tryz.zeroValue4
  t5 := Tryz.underlying5
  a5 := Tryz.isAgg5
  z5 := Tryz.sizeOf5
  v5 := Tryz.zeroValue5
  t9 := Tryz.underlying9
  a9 := Tryz.isAgg9
  z9 := Tryz.sizeOf9
  v9 := Tryz.zeroValue9
  t20 := Tryz.underlying20
  a20 := Tryz.isAgg20
  z20 := Tryz.sizeOf20
  v20 := Tryz.zeroValue20
  t21 := Tryz.underlying21
  a21 := Tryz.isAgg21
  z21 := Tryz.sizeOf21
  v21 := Tryz.zeroValue21
  t37 := Tryz.underlying70
  a37 := Tryz.isAgg70
  z37 := Tryz.sizeOf70
  v37 := Tryz.zeroValue70
  t46 := Tryz.underlying201
  a46 := Tryz.isAgg201
  z46 := Tryz.sizeOf201
  v46 := Tryz.zeroValue201
  t51 := Tryz.underlying234
  a51 := Tryz.isAgg234
  z51 := Tryz.sizeOf234
  v51 := Tryz.zeroValue234
  t53 := Tryz.underlying134
  a53 := Tryz.isAgg134
  z53 := Tryz.sizeOf134
  v53 := Tryz.zeroValue134
  t75 := Tryz.underlying120
  a75 := Tryz.isAgg120
  z75 := Tryz.sizeOf120
  v75 := Tryz.zeroValue120
  t76 := Tryz.underlying121
  a76 := Tryz.isAgg121
  z76 := Tryz.sizeOf121
  v76 := Tryz.zeroValue121
  t85 := Tryz.underlying224
  a85 := Tryz.isAgg224
  z85 := Tryz.sizeOf224
  v85 := Tryz.zeroValue224
  t127 := Tryz.underlying211
  a127 := Tryz.isAgg211
  z127 := Tryz.sizeOf211
  v127 := Tryz.zeroValue211
  t143 := Tryz.underlying291
  a143 := Tryz.isAgg291
  z143 := Tryz.sizeOf291
  v143 := Tryz.zeroValue291
  t145 := Tryz.underlying293
  a145 := Tryz.isAgg293
  z145 := Tryz.sizeOf293
  v145 := Tryz.zeroValue293
  t167 := Tryz.underlying223
  a167 := Tryz.isAgg223
  z167 := Tryz.sizeOf223
  v167 := Tryz.zeroValue223
  t168 := Tryz.underlying226
  a168 := Tryz.isAgg226
  z168 := Tryz.sizeOf226
  v168 := Tryz.zeroValue226
  t171 := Tryz.underlying229
  a171 := Tryz.isAgg229
  z171 := Tryz.sizeOf229
  v171 := Tryz.zeroValue229
  t173 := Tryz.underlying232
  a173 := Tryz.isAgg232
  z173 := Tryz.sizeOf232
  v173 := Tryz.zeroValue232
  t175 := Tryz.underlying265
  a175 := Tryz.isAgg265
  z175 := Tryz.sizeOf265
  v175 := Tryz.zeroValue265
  t210 := Tryz.underlying268
  a210 := Tryz.isAgg268
  z210 := Tryz.sizeOf268
  v210 := Tryz.zeroValue268
  t212 := Tryz.underlying271
  a212 := Tryz.isAgg271
  z212 := Tryz.sizeOf271
  v212 := Tryz.zeroValue271
  t213 := Tryz.underlying272
  a213 := Tryz.isAgg272
  z213 := Tryz.sizeOf272
  t232 := Tryz.underlying306
  a232 := Tryz.isAgg306
  z232 := Tryz.sizeOf306
  v232 := Tryz.zeroValue306
  t233 := Tryz.underlying307
  a233 := Tryz.isAgg307
  z233 := Tryz.sizeOf307
  v233 := Tryz.zeroValue307
  g15 := by kernel_rfl
  g16 := by kernel_rfl
  g17 := by kernel_rfl
  g18 := by kernel_rfl
  g19 := by kernel_rfl
  t80 := Tryz.underlying48
  a80 := Tryz.isAgg48
  z80 := Tryz.sizeOf48
  v80 := Tryz.zeroValue48
  i0 := by kernel_rfl
  i2 := by kernel_rfl
  i3 := by kernel_rfl
  i4 := by kernel_rfl
  i5 := by kernel_rfl
  i9 := by kernel_rfl
  i20 := by kernel_rfl
  i21 := by kernel_rfl
  i37 := by kernel_rfl
  i46 := by kernel_rfl
  i51 := by kernel_rfl
  i53 := by kernel_rfl
  i75 := by kernel_rfl
  i76 := by kernel_rfl
  i80 := by kernel_rfl
  i85 := by kernel_rfl
  i127 := by kernel_rfl
  i143 := by kernel_rfl
  i145 := by kernel_rfl
  i167 := by kernel_rfl
  i168 := by kernel_rfl
  i171 := by kernel_rfl
  i173 := by kernel_rfl
  i175 := by kernel_rfl
  i210 := by kernel_rfl
  i212 := by kernel_rfl
  i232 := by kernel_rfl
  i233 := by kernel_rfl
  m15 := by kernel_rfl
  m16 := by kernel_rfl
  m17 := by kernel_rfl
  m18 := by kernel_rfl
  m19 := by kernel_rfl
  c0 := by kernel_rfl
  c2 := by kernel_rfl
  c3 := by kernel_rfl
  c4 := by kernel_rfl
  c5 := by kernel_rfl
  c9 := by kernel_rfl
  c20 := by kernel_rfl
  c21 := by kernel_rfl
  c37 := by kernel_rfl
  c46 := by kernel_rfl
  c51 := by kernel_rfl
  c53 := by kernel_rfl
  c75 := by kernel_rfl
  c76 := by kernel_rfl
  c80 := by kernel_rfl
  c85 := by kernel_rfl
  c127 := by kernel_rfl
  c143 := by kernel_rfl
  c145 := by kernel_rfl
  c167 := by kernel_rfl
  c168 := by kernel_rfl
  c171 := by kernel_rfl
  c173 := by kernel_rfl
  c175 := by kernel_rfl
  c210 := by kernel_rfl
  c212 := by kernel_rfl
  c213 := by kernel_rfl
  c232 := by kernel_rfl
  c233 := by kernel_rfl }
def Tryz.shTrim_ren : Go.Shelf.Ren := ⟨fun | 160 => 181 | 232 => 227 | 231 => 226 | 227 => 228 | 234 => 230 | 233 => 229 | 236 => 232 | 235 => 231 | 228 => 267 | 271 => 269 | 151 => 268 | 197 => 233 | 120 => 284 | 152 => 283 | 260 => 270 | 137 => 188 | 119 => 287 | 224 => 209 | 225 => 208 | 217 => 207 | 266 => 251 | n => n, fun | 9 => 9 | 4 => 4 | 3 => 3 | 5 => 5 | 117 => 258 | 116 => 257 | 0 => 0 | 124 => 261 | 21 => 21 | 105 => 262 | 46 => 201 | 119 => 302 | 139 => 305 | 138 => 304 | n => n, fun | 3 => 4 | 4 => 5 | n => n⟩
theorem Tryz.shTrim : Go.Proofs.Lays.n160 Tryz.prog Tryz.shTrim_ren := {
  mixed := by kernel_rfl
  f119 := Tryz.func287.trans (congrArg some (by kernel_rfl))
  f120 := Tryz.func284.trans (congrArg some (by kernel_rfl))
  f137 := Tryz.func188.trans (congrArg some (by kernel_rfl))
  f151 := Tryz.func268.trans (congrArg some (by kernel_rfl))
  f152 := Tryz.func283.trans (congrArg some (by kernel_rfl))
  f160 := Tryz.func181.trans (congrArg some (by kernel_rfl))
  f197 := Tryz.func233.trans (congrArg some (by kernel_rfl))
  f217 := Tryz.func207.trans (congrArg some (by kernel_rfl))
  f224 := Tryz.func209.trans (congrArg some (by kernel_rfl))
  f225 := Tryz.func208.trans (congrArg some (by kernel_rfl))
  f227 := Tryz.func228.trans (congrArg some (by kernel_rfl))
  f228 := Tryz.func267.trans (congrArg some (by kernel_rfl))
  f231 := Tryz.func226.trans (congrArg some (by kernel_rfl))
  f232 := Tryz.func227.trans (congrArg some (by kernel_rfl))
  f233 := Tryz.func229.trans (congrArg some (by kernel_rfl))
  f234 := Tryz.func230.trans (congrArg some (by kernel_rfl))
  f235 := Tryz.func231.trans (congrArg some (by kernel_rfl))
  f236 := Tryz.func232.trans (congrArg some (by kernel_rfl))
  f260 := Tryz.func270.trans (congrArg some (by kernel_rfl))
  f266 := Tryz.func251.trans (congrArg some (by kernel_rfl))
  f271 := Tryz.func269.trans (congrArg some (by kernel_rfl))
  t0 := Tryz.underlying0
  a0 := Tryz.isAgg0
  z0 := Tryz.sizeOf0
  v0 := Tryz.zeroValue0
  t3 := Tryz.underlying3
  a3 := Tryz.isAgg3
  z3 := Tryz.sizeOf3
  v3 := Tryz.zeroValue3
  t4 := Tryz.underlying4
  a4 := Tryz.isAgg4
  z4 := Tryz.sizeOf4
  v4 := Tryz.zeroValue4
  t5 := Tryz.underlying5
  a5 := Tryz.isAgg5
  z5 := Tryz.sizeOf5
  v5 := Tryz.zeroValue5
  t9 := Tryz.underlying9
  a9 := Tryz.isAgg9
  z9 := Tryz.sizeOf9
  v9 := Tryz.zeroValue9
  t21 := Tryz.underlying21
  a21 := Tryz.isAgg21
  z21 := Tryz.sizeOf21
  v21 := Tryz.zeroValue21
  t46 := Tryz.underlying201
  a46 := Tryz.isAgg201
  z46 := Tryz.sizeOf201
  v46 := Tryz.zeroValue201
  t105 := Tryz.underlying262
  a105 := Tryz.isAgg262
  z105 := Tryz.sizeOf262
  v105 := Tryz.zeroValue262
  t116 := Tryz.underlying257
  a116 := Tryz.isAgg257
  z116 := Tryz.sizeOf257
  t117 := Tryz.underlying258
  a117 := Tryz.isAgg258
  z117 := Tryz.sizeOf258
  v117 := Tryz.zeroValue258
  t119 := Tryz.underlying302
  a119 := Tryz.isAgg302
  z119 := Tryz.sizeOf302
  t124 := Tryz.underlying261
  a124 := Tryz.isAgg261
  z124 := Tryz.sizeOf261
  v124 := Tryz.zeroValue261
  t138 := Tryz.underlying304
  a138 := Tryz.isAgg304
  z138 := Tryz.sizeOf304
  v138 := Tryz.zeroValue304
  t139 := Tryz.underlying305
  a139 := Tryz.isAgg305
  z139 := Tryz.sizeOf305
  v139 := Tryz.zeroValue305
  g3 := by kernel_rfl
  g4 := by kernel_rfl }
end Go.Proofs

/- Contracts of the library on numbers and strings, at the level of the abstract machine. -/
namespace Go.Abs
open Go.RowKit
set_option linter.unusedSimpArgs false
set_option linter.unusedVariables false
section
variable {P : Program} {C : Cx} {H : Heap} {w : World}
/-- Nothing that lay has turned. -/
theorem Rel.keptB (hrel : Rel P C H w) {w' : World} (hb : Below w.heap.size w w') : Le C H w C H w' ∧ Rel P C H w' := by
  have hle : Le C H w C H w' := by
    refine ⟨Nat.le_refl _, fun _ _ => rfl, rfl, fun b s h => ?_, fun b off h => ⟨⟨Nat.lt_of_lt_of_le h.1 hb.size, h.2⟩, ?_⟩, hb.mono hrel.base⟩
    · have hlt : b < w.heap.size := by
        rcases Nat.lt_or_ge b w.heap.size with h' | h'
        · exact h'
        · simp [World.shape?, Array.getElem?_eq_none h'] at h
      unfold World.shape? at *
      rw [hb.block b hlt]; exact h
    · unfold World.cell?
      rw [hb.block b h.1]
  refine ⟨hle, fun id o ho => ?_, hrel.inj, Nat.le_trans hrel.base hb.size, hrel.tab.le hle⟩
  obtain ⟨h1, h2, h3⟩ := hrel.live id o ho
  exact ⟨h1, h2, h3.mono hle (hb.block _ h3.lt)⟩
theorem below_grow (w : World) (os : Array Obj) (k : Nat) : Below w.heap.size w (Sort.grow (w.drewN k) os) := by
  refine (below_drewN (Below.refl _ w) k).trans ⟨rfl, rfl, rfl, by simp [Sort.grow], fun j hj => ?_⟩
  unfold Sort.grow
  simp only
  exact Array.getElem?_append_left hj
theorem below_bw (w : World) (e : TypeId) (s : ByteArray) : Below w.heap.size w (Lib.bytesWorld w e s) := ⟨rfl, rfl, rfl, by rw [Lib.bytesWorld_size]; omega, fun j hj => Lib.bytesWorld_at_old w e s j hj⟩
/-- A function that turns nothing that lay. -/
theorem pure_bridge {f : FuncId} {fn : Func} (hf : P.funcs[f]? = some fn) (hn : (fn.name == "runtime.NumGoroutine") = false) (hb : fn.body.isNone = false) {xs : List AV} {v : AV}
    (h : ∀ C H w vs, Rel P C H w → ReprL C H w xs vs → Calls P f vs.toArray w fun e w' => ∃ u, e = .returned u ∧ Below w.heap.size w w' ∧ Repr C H w' v u) (H : Heap) : ACalls P f xs H fun x H' => x = v ∧ H' = H := by
  refine ⟨fun C w vs hrel hv => ?_⟩
  rw [callFunc_enter hf hn hb]
  refine ⟨rfl, ?_⟩
  refine (h C H w vs hrel hv).mono ?_
  rintro e w' ⟨u, rfl, hbl, hr⟩
  obtain ⟨l1, r1⟩ := hrel.keptB hbl
  exact ⟨C, H, v, u, rfl, r1, l1, hr, rfl, rfl⟩
theorem args1 {x : AV} {vs : List Value} (h : ReprL C H w [x] vs) : ∃ u, vs = [u] ∧ Repr C H w x u := by
  obtain ⟨h1, h2⟩ := h
  match vs, h1 with
  | [u], _ => exact ⟨u, rfl, h2 0 (by simp)⟩
theorem args2 {x y : AV} {vs : List Value} (h : ReprL C H w [x, y] vs) : ∃ u v, vs = [u, v] ∧ Repr C H w x u ∧ Repr C H w y v := by
  obtain ⟨h1, h2⟩ := h
  match vs, h1 with
  | [u, v], _ => exact ⟨u, v, rfl, h2 0 (by simp), h2 1 (by simp)⟩
end
end Go.Abs
namespace Go.Proofs
open Go Go.Abs Go.Shelf
open Go.RowKit (Below)
set_option linter.unusedVariables false
set_option linter.unusedSimpArgs false
set_option maxRecDepth 20000
theorem tabIs_of {P : Program} {base : Nat} {w : World} (h : TabN P base w) {name : String} {g : Nat} {k : IntKind} {zs : List Int} (hg : P.globalNamed name = some g) (ht : tabOf P g = some (k, zs)) : Lib.TabIs P w name k zs := by
  obtain ⟨-, ty, fr, e⟩ := h g k zs ht
  unfold Lib.TabIs World.var?
  rw [hg, Option.bind_some, e]
theorem itoa_calls (n : Int) (h0 : -9223372036854775808 ≤ n) (h1 : n ≤ 9223372036854775807) (H : Heap) :
    ACalls Tryz.prog 82 [.int .i64 n] H fun x H' => x = .str (Lib.itoa n) ∧ H' = H := by
  refine pure_bridge (fn := Tryz.f82) Tryz.func82 (by kernel_rfl) (by kernel_rfl) (fun C H w vs hrel hv => ?_) H
  obtain ⟨u, rfl, hu⟩ := args1 hv
  cases hu
  refine (Any.strconv_Itoa Tryz.shItoa n h0 h1 w (tabIs_of hrel.tab.1 (by kernel_rfl) (g := 3) (by kernel_rfl))).mono ?_
  rintro e w' ⟨rfl, k, os, rfl⟩
  exact ⟨_, rfl, below_grow w os k, .str _ _ rfl⟩
/-- What strconv.Atoi answers; an error is something that is not nil. -/
def atoiA (s : Bytes) : AV := match Lib.atoiAll s with
  | .ok v => .tup [.int .i64 v, .nilIface]
  | .range => .tup [.int .i64 (Lib.atoiSat s), .iface (Tryz.shAtoi_ren.t 168) .junk]
  | _ => .tup [.int .i64 0, .iface (Tryz.shAtoi_ren.t 168) .junk]
theorem str_arg {C : Cx} {H : Heap} {w : World} {l : Bytes} {u : Value} (h : Repr C H w (.str l) u) : ∃ s : ByteArray, u = .string s ∧ s.data.toList = l ∧ s.size = l.length := by
  cases h with
  | str _ s h => exact ⟨s, rfl, h, by rw [← h]; show s.data.size = _; rw [Array.length_toList]⟩
theorem atoi_calls (s : Bytes) (hs : s.length ≤ 1099511627776) (H : Heap) : ACalls Tryz.prog 87 [.str s] H fun x H' => x = atoiA s ∧ H' = H := by
  refine pure_bridge (fn := Tryz.f87) Tryz.func87 (by kernel_rfl) (by kernel_rfl) (fun C H w vs hrel hv => ?_) H
  obtain ⟨u, rfl, hu⟩ := args1 hv
  obtain ⟨b, rfl, hb, hz⟩ := str_arg hu
  have hE := hrel.tab.2
  cases ha : Lib.atoiAll s with
  | ok v =>
    have hv := atoiA.eq_1 s
    rw [ha] at hv
    rw [hv]
    refine (Any.strconv_Atoi_ok Tryz.shAtoi b (by omega) v (by rw [hb]; exact ha) w).mono ?_
    rintro e w' ⟨rfl, hw⟩
    refine ⟨_, rfl, ?_, .tup _ _ rfl fun j hj => ?_⟩
    · rcases hw with rfl | ⟨t, rfl⟩
      · exact Below.refl _ _
      · exact below_bw _ _ _
    · match j, hj with
      | 0, _ => exact .int _ _
      | 1, _ => exact .nilIface
  | range =>
    have hv := atoiA.eq_1 s
    rw [ha] at hv
    rw [hv, ← hb]
    obtain ⟨-, ev, hc, hev⟩ := hE (Tryz.shAtoi_ren.g 16) (by kernel_rfl)
    refine (Any.strconv_Atoi_range Tryz.shAtoi b (by omega) (by rw [hb]; exact ha) ev w hc hev).mono ?_
    rintro e w' ⟨N, rfl, h1, h2, h3⟩
    refine ⟨_, rfl, h3, .tup _ _ rfl fun j hj => ?_⟩
    match j, hj with
    | 0, _ => exact .int _ _
    | 1, _ => exact .iface _ _ _ (.junk _)
  | _ =>
    have hv := atoiA.eq_1 s
    rw [ha] at hv
    rw [hv]
    obtain ⟨-, ev, hc, hev⟩ := hE (Tryz.shAtoi_ren.g 15) (by kernel_rfl)
    refine (Any.strconv_Atoi_syntax Tryz.shAtoi b (by omega) (by rw [hb]; exact ha) ev w hc hev).mono ?_
    rintro e w' ⟨N, rfl, h1, h2, h3⟩
    refine ⟨_, rfl, h3, .tup _ _ rfl fun j hj => ?_⟩
    match j, hj with
    | 0, _ => exact .int _ _
    | 1, _ => exact .iface _ _ _ (.junk _)
theorem trim_calls (s cs : Bytes) (hs : s.length ≤ 1099511627776) (hl : cs.length ≤ 1099511627) (hc : ∀ (j : Nat) b, cs[j]? = some b → b.toNat < 128) (H : Heap) :
    ACalls Tryz.prog 181 [.str s, .str cs] H fun x H' => x = .str (Lib.trimS s cs) ∧ H' = H := by
  refine pure_bridge (fn := Tryz.f181) Tryz.func181 (by kernel_rfl) (by kernel_rfl) (fun C H w vs hrel hv => ?_) H
  obtain ⟨u, v, rfl, hu, hw⟩ := args2 hv
  obtain ⟨b, rfl, rfl, hz⟩ := str_arg hu
  obtain ⟨c, rfl, rfl, hz2⟩ := str_arg hw
  refine (Any.strings_Trim_laid Tryz.shTrim (by kernel_rfl) b c w (by omega) (by omega) hc).mono ?_
  rintro e w' ⟨rfl, hw⟩
  exact ⟨_, rfl, hw, .str _ _ rfl⟩
end Go.Proofs

/- The sum of a text: plain Lean, no program. -/
namespace Go.Proofs
open Go Go.Abs
set_option linter.unusedSimpArgs false
set_option linter.unusedVariables false
/-- The digit of a number below 16. -/
def dig (n : Nat) : UInt8 := ([48, 49, 50, 51, 52, 53, 54, 55, 56, 57, 97, 98, 99, 100, 101, 102] : List UInt8).getD n 0
/-- So many digits of a number. -/
def hexPad : Nat → Nat → Bytes
  | 0, _ => []
  | k + 1, n => hexPad k (n / 16) ++ [dig (n % 16)]
def hexMin (n : Nat) : Bytes := if h : n < 16 then [dig n] else hexMin (n / 16) ++ [dig (n % 16)]
termination_by n
decreasing_by omega
theorem hexMin_small {n : Nat} (h : n < 16) : hexMin n = [dig n] := by rw [hexMin, dif_pos h]
theorem hexMin_big {n : Nat} (h : ¬ n < 16) : hexMin n = hexMin (n / 16) ++ [dig (n % 16)] := by rw [hexMin, dif_neg h]
theorem hexPad_zero : ∀ k, hexPad k 0 = List.replicate k 48
  | 0 => rfl
  | k + 1 => by
    rw [hexPad, show 0 / 16 = 0 from rfl, hexPad_zero k, List.replicate_succ']
    rfl
theorem hexPad_len : ∀ k n, (hexPad k n).length = k
  | 0, _ => rfl
  | k + 1, n => by simp [hexPad, hexPad_len k]
theorem hexMin_pad : ∀ (k n : Nat), n < 16 ^ (k + 1) → (hexMin n).length ≤ k + 1 ∧ hexPad (k + 1) n = List.replicate (k + 1 - (hexMin n).length) 48 ++ hexMin n := by
  intro k
  induction k with
  | zero =>
    intro n h
    have h : n < 16 := by simpa using h
    rw [hexMin_small h, hexPad, hexPad]
    simp [Nat.mod_eq_of_lt h]
  | succ k ih =>
    intro n h
    by_cases hn : n < 16
    · rw [hexMin_small hn, hexPad, show n / 16 = 0 from by omega, hexPad_zero, Nat.mod_eq_of_lt hn]
      simp
    · have hd : n / 16 < 16 ^ (k + 1) := by
        rw [Nat.div_lt_iff_lt_mul (by omega)]
        have : 16 ^ (k + 1 + 1) = 16 ^ (k + 1) * 16 := Nat.pow_succ ..
        omega
      obtain ⟨i1, i2⟩ := ih (n / 16) hd
      rw [hexMin_big hn, hexPad, i2]
      refine ⟨by simp; omega, ?_⟩
      rw [← List.append_assoc]
      congr 3
      simp
theorem hexPad_get : ∀ (k n i : Nat), i < k → (hexPad k n)[i]? = some (dig (n / 16 ^ (k - 1 - i) % 16))
  | 0, _, _, h => by omega
  | k + 1, n, i, h => by
    rw [hexPad]
    by_cases hi : i < k
    · rw [List.getElem?_append_left (by rw [hexPad_len]; exact hi), hexPad_get k _ i hi]
      have e : k + 1 - 1 - i = (k - 1 - i) + 1 := by omega
      rw [e, Nat.pow_succ, Nat.mul_comm, Nat.div_div_eq_div_mul]
    · have e : i = k := by omega
      subst e
      rw [List.getElem?_append_right (by rw [hexPad_len]; omega), hexPad_len]
      simp
theorem pow16 : ∀ i, i < 16 → 16 ^ (16 - 1 - i) = 2 ^ (60 - 4 * i) := by decide
theorem hexPad_get2 (n i : Nat) (h : i < 16) : (hexPad 16 n)[i]? = some (dig (n / 2 ^ (60 - 4 * i) % 16)) := by
  rw [← pow16 i h]; exact hexPad_get 16 n i h
/-- One step of the sum, as the machine takes it. -/
def fnvStep (h : Int) (c : UInt8) : Int := IntKind.u64.wrap (xorI .u64 h (c.toNat : Int) * 1099511628211)
def fnv (s : Bytes) : Int := s.foldl fnvStep 14695981039346656037
theorem fnv_succ {s : Bytes} {i : Nat} {c : UInt8} (hc : s[i]? = some c) : fnv (s.take (i + 1)) = fnvStep (fnv (s.take i)) c := by
  unfold fnv
  rw [List.take_add_one, hc]
  simp
theorem u64_range (n : Int) : 0 ≤ IntKind.u64.wrap n ∧ IntKind.u64.wrap n < 18446744073709551616 := by
  have h1 : IntKind.u64.wrap n = n % 18446744073709551616 := by
    unfold IntKind.wrap
    simp [IntKind.signed, IntKind.bits]
  rw [h1]; omega
theorem fnvStep_range (h : Int) (c : UInt8) : 0 ≤ fnvStep h c ∧ fnvStep h c < 18446744073709551616 := u64_range _
theorem foldl_range (s : Bytes) : ∀ h : Int, 0 ≤ h ∧ h < 18446744073709551616 → 0 ≤ s.foldl fnvStep h ∧ s.foldl fnvStep h < 18446744073709551616 := by
  induction s with
  | nil => intro h hh; exact hh
  | cons c s ih => intro h _; exact ih _ (fnvStep_range _ _)
theorem fnv_range (s : Bytes) : 0 ≤ fnv s ∧ fnv s < 18446744073709551616 := foldl_range s _ (by omega)
def fnvN (s : Bytes) : Nat := (fnv s).toNat
theorem fnvN_eq (s : Bytes) : fnv s = (fnvN s : Int) := by have := fnv_range s; unfold fnvN; omega
theorem fnvN_lt (s : Bytes) : fnvN s < 18446744073709551616 := by have := fnv_range s; unfold fnvN; omega
def sumOf (s : Bytes) : Bytes := hexPad 16 (fnvN s)
theorem sumOf_len (s : Bytes) : (sumOf s).length = 16 := hexPad_len _ _
theorem u64_byte (c : UInt8) : IntKind.u64.wrap (c.toNat : Int) = (c.toNat : Int) := Go.IntWalk.u64_in _ (by have := c.toNat_lt; omega)
theorem and15 (n : Nat) (h : n < 18446744073709551616) : andI .u64 (n : Int) 15 = ((n % 16 : Nat) : Int) := by
  have e : (BitVec.ofInt IntKind.u64.bits (n : Int) &&& BitVec.ofInt IntKind.u64.bits 15).toNat = n % 16 := by
    show (BitVec.ofInt 64 (n : Int) &&& BitVec.ofInt 64 ((15 : Nat) : Int)).toNat = n % 16
    rw [BitVec.ofInt_natCast, BitVec.ofInt_natCast, BitVec.toNat_and]
    simp only [BitVec.toNat_ofNat]
    rw [Nat.mod_eq_of_lt (show n < 2 ^ 64 by simpa using h), Nat.mod_eq_of_lt (show 15 < 2 ^ 64 by decide)]
    exact Nat.and_two_pow_sub_one_eq_mod n 4
  unfold andI
  rw [e]
  exact Go.IntWalk.u64_in _ (by omega)
theorem shrN (n b : Nat) (z : Int) (hz : z = b) (h : b ≤ 64) : shrI .u64 (n : Int) z = ((n / 2 ^ b : Nat) : Int) := by
  subst hz
  unfold shrI
  have e : min (b : Int).toNat IntKind.u64.bits = b := Nat.min_eq_left h
  rw [e, show ((2 : Int) ^ b) = ((2 ^ b : Nat) : Int) from by simp, Int.fdiv_eq_ediv_of_nonneg _ (Int.natCast_nonneg _)]
  rfl
theorem dig_get (m : Nat) (h : m < 16) : ([48, 49, 50, 51, 52, 53, 54, 55, 56, 57, 97, 98, 99, 100, 101, 102] : List UInt8)[m]? = some (dig m) := by
  unfold dig
  rw [List.getD]
  cases hh : ([48, 49, 50, 51, 52, 53, 54, 55, 56, 57, 97, 98, 99, 100, 101, 102] : List UInt8)[m]? with
  | none => rw [List.getElem?_eq_none_iff] at hh; simp at hh; omega
  | some v => rfl
theorem dig_get36 (m : Nat) (h : m < 16) : ([48, 49, 50, 51, 52, 53, 54, 55, 56, 57, 97, 98, 99, 100, 101, 102, 103, 104, 105, 106, 107, 108, 109, 110, 111, 112, 113, 114, 115, 116, 117, 118, 119, 120, 121, 122] : List UInt8)[m]? = some (dig m) := by
  rw [← dig_get m h]
  have : ([48, 49, 50, 51, 52, 53, 54, 55, 56, 57, 97, 98, 99, 100, 101, 102, 103, 104, 105, 106, 107, 108, 109, 110, 111, 112, 113, 114, 115, 116, 117, 118, 119, 120, 121, 122] : List UInt8) = [48, 49, 50, 51, 52, 53, 54, 55, 56, 57, 97, 98, 99, 100, 101, 102] ++ [103, 104, 105, 106, 107, 108, 109, 110, 111, 112, 113, 114, 115, 116, 117, 118, 119, 120, 121, 122] := rfl
  rw [this, List.getElem?_append_left (by simpa using h)]
theorem and32 (n : Nat) (h : n < 4294967296) : andI .u64 (n : Int) 4294967295 = (n : Int) := by
  have e : (BitVec.ofInt IntKind.u64.bits (n : Int) &&& BitVec.ofInt IntKind.u64.bits 4294967295).toNat = n := by
    show (BitVec.ofInt 64 (n : Int) &&& BitVec.ofInt 64 ((4294967295 : Nat) : Int)).toNat = n
    rw [BitVec.ofInt_natCast, BitVec.ofInt_natCast, BitVec.toNat_and]
    simp only [BitVec.toNat_ofNat]
    rw [Nat.mod_eq_of_lt (show n < 2 ^ 64 by simp; omega), Nat.mod_eq_of_lt (show 4294967295 < 2 ^ 64 by decide)]
    exact (Nat.and_two_pow_sub_one_eq_mod n 32).trans (Nat.mod_eq_of_lt h)
  unfold andI
  rw [e]
  exact Go.IntWalk.u64_in _ (by omega)
theorem shr32 (n : Nat) (h : n < 4294967296) : shrI .u64 (n : Int) 32 = 0 := by
  rw [shrN n 32 32 rfl (by omega), Nat.div_eq_of_lt (by simpa using h)]; rfl
end Go.Proofs

/- Pieces and deltas: plain Lean, no program. -/
namespace Go.Proofs
open Go Go.Abs
set_option linter.unusedSimpArgs false
set_option linter.unusedVariables false
structure PieceV where
  at_ : Int
  long : Int
  data : Bytes
  deriving DecidableEq
structure DeltaV where
  old : Int
  new : Int
  osum : Bytes
  nsum : Bytes
  ps : List PieceV
  deriving DecidableEq
def inI (n : Int) : Prop := -9223372036854775808 ≤ n ∧ n ≤ 9223372036854775807
instance (n : Int) : Decidable (inI n) := inferInstanceAs (Decidable (_ ∧ _))
def pcR (p : PieceV) : Prop := inI p.at_ ∧ inI p.long ∧ p.data.length ≤ 4194304
instance (p : PieceV) : Decidable (pcR p) := inferInstanceAs (Decidable (_ ∧ _ ∧ _))
/-- The first that is not 0. -/
def fst0 : List Int → Int
  | [] => 0
  | e :: l => if e = 0 then fst0 l else e
theorem fst0_at {l : List Int} {i : Nat} {e : Int} (h : fst0 (l.take i) = 0) (he : l[i]? = some e) (hne : e ≠ 0) : fst0 l = e := by
  induction l generalizing i with
  | nil => simp at he
  | cons d l ih =>
    cases i with
    | zero => simp at he; subst he; simp [fst0, hne]
    | succ i =>
      simp only [List.take_succ_cons, fst0] at h
      split at h
      · rename_i hd; simp only [fst0, hd, if_true]; exact ih h (by simpa using he)
      · exact absurd h ‹_›
theorem fst0_succ {l : List Int} {i : Nat} {e : Int} (h : fst0 (l.take i) = 0) (he : l[i]? = some e) (h0 : e = 0) : fst0 (l.take (i + 1)) = 0 := by
  induction l generalizing i with
  | nil => simp at he
  | cons d l ih =>
    cases i with
    | zero => simp at he; subst he; simp [fst0, h0]
    | succ i =>
      simp only [List.take_succ_cons, fst0] at h ⊢
      split at h
      · rename_i hd; simp only [hd, if_true]; exact ih h (by simpa using he)
      · exact absurd h ‹_›
def psR (l : List PieceV) : Prop := l.length ≤ 1099511627776 ∧ ∀ p ∈ l, pcR p
instance (l : List PieceV) : Decidable (psR l) := inferInstanceAs (Decidable (_ ∧ _))
def dlR (d : DeltaV) : Prop := inI d.old ∧ inI d.new ∧ d.osum.length ≤ 1099511627776 ∧ d.nsum.length ≤ 1099511627776 ∧ psR d.ps
instance (d : DeltaV) : Decidable (dlR d) := inferInstanceAs (Decidable (_ ∧ _ ∧ _ ∧ _ ∧ _))
def DeltaV.zero : DeltaV := ⟨0, 0, [], [], []⟩
end Go.Proofs

/- Walks of small things: the first error, lists that are compared. -/
namespace Go.Proofs
open Go Go.Abs
set_option linter.unusedSimpArgs false
set_option linter.unusedVariables false
def encIn (n : Int) : List AV := [.int .i64 n]
def decIn : List AV → Option Int
  | [.int .i64 n] => some n
  | _ => none
theorem decIn_some {c : List AV} {n : Int} (h : decIn c = some n) : c = encIn n := by
  unfold decIn at h; split at h
  · cases h; rfl
  · cases h
theorem first_calls (l : List Int) (t : Tail) (H : Heap) (hl : l.length ≤ 1099511627776) : ACalls Tryz.prog 62 [.sl (l.map encIn) t] H fun x H' => x = .int .i64 (fst0 l) ∧ H' = H := by
  refine ACalls.of_code (X := { pure := pu0 }) pu0_ok Tryz.func62 (by kernel_rfl) rfl (by kernel_rfl) (Nat.le_of_ble_eq_true rfl) ?_
  simp -implicitDefEqProofs only [go_sem, Tryz.f62]
  refine aloop_intro (σ := Nat) (fun i => [(5, .sl (l.map encIn) t), (6, .int .i64 l.length), (7, .int .i64 i)]) (fun i G => G = H ∧ i ≤ l.length ∧ fst0 (l.take i) = 0) (fun i => l.length - i) 0 ?_ ?_ ?_
  · simp -implicitDefEqProofs only [go_sem]
  · simp [fst0]
  · intro i r G hv hI
    have h5 := hv.1
    have h6 := hv.2.1
    have h7 := hv.2.2.1
    have hG := hI.1.symm
    have hi := hI.2.1
    have hz := hI.2.2
    clear hv hI
    subst hG
    simp -implicitDefEqProofs only [go_sem, h5, h6, h7]
    refine cnd_intro (fun h => ?_) (fun h => ?_)
    · simp only [decide_eq_true_eq] at h
      obtain ⟨c, hc⟩ : ∃ c, l[i]? = some c := ⟨l[i]'(by omega), List.getElem?_eq_getElem _⟩
      simp -implicitDefEqProofs only [go_sem, h5, h6, h7, hc, encIn]
      refine cnd_intro (fun g => ?_) (fun g => ?_)
      · simp -implicitDefEqProofs only [go_sem, h5, h6, h7, hc]
        simp only [decide_eq_true_eq] at g
        exact Done.now ⟨by rw [fst0_at hz hc g], rfl⟩
      · simp -implicitDefEqProofs (disch := omega) only [go_sem, Go.IntWalk.i64_in, h5, h6, h7, hc]
        simp only [decide_eq_false_iff_not, Decidable.not_not] at g
        exact Again.mk (i + 1) (by simp -implicitDefEqProofs only [go_sem, h5, h6, h7]; exact rfl) ⟨rfl, by omega, fst0_succ hz hc g⟩ (by omega)
    · simp only [decide_eq_false_iff_not] at h
      have e : i = l.length := by omega
      subst e
      rw [List.take_length] at hz
      simp -implicitDefEqProofs only [go_sem, h5, h6, h7]
      exact Done.now ⟨by rw [hz], rfl⟩
theorem when_calls (b : Bool) (e : Int) (H : Heap) : ACalls Tryz.prog 64 [.bool b, .int .i64 e] H fun x H' => x = .int .i64 (if b then e else 0) ∧ H' = H := by
  refine ACalls.of_code (X := { pure := pu0 }) pu0_ok Tryz.func64 (by kernel_rfl) rfl (by kernel_rfl) (Nat.le_of_ble_eq_true rfl) ?_
  simp -implicitDefEqProofs only [go_sem, Tryz.f64]
  repeat' (first | (with_reducible refine gd_intro (fun h => ?_) (fun h => ?_) <;> first | (exact absurd h (by decide)) | (simp at h; done) | simp -implicitDefEqProofs (disch := omega) only [go_sem, Go.IntWalk.i64_in, *]) | (with_reducible refine cnd_intro (fun h => ?_) (fun h => ?_) <;> first | (exact absurd h (by decide)) | (simp at h; done) | simp -implicitDefEqProofs (disch := omega) only [go_sem, Go.IntWalk.i64_in, *]))
  all_goals (refine Done.now ⟨?_, rfl⟩; simp [*])
def sWhen : List AV → Option AV := fn2 .bool (.int .i64) fun b e => some (.int .i64 (if b then e else 0))
def sFirst : List AV → Option AV := fn1 (Rd.list decIn) fun l => if l.length ≤ 1099511627776 then some (.int .i64 (fst0 l)) else none
theorem sWhen_eq (b : Bool) (e : Int) : sWhen [.bool b, .int .i64 e] = some (.int .i64 (if b then e else 0)) := rfl
theorem decL_nil {α : Type} (d : List AV → Option α) : decL d [] = some [] := rfl
theorem decL_cons {α : Type} (d : List AV → Option α) (c : List AV) (es : List (List AV)) : decL d (c :: es) = (d c).bind fun a => (decL d es).map (a :: ·) := by
  rw [decL]
  cases d c <;> cases decL d es <;> rfl
theorem rdL_eq {α : Type} (d : List AV → Option α) (es : List (List AV)) (t : Tail) : (Rd.list d).rd (.sl es t) = decL d es := rfl
theorem decIn_eq (n : Int) : decIn [.int .i64 n] = some n := rfl
attribute [go_sem] decL_nil decL_cons rdL_eq decIn_eq
theorem sWhen_ok {P : Program} {f : FuncId} (h : ∀ b e H, ACalls P f [.bool b, .int .i64 e] H fun x H' => x = .int .i64 (if b then e else 0) ∧ H' = H) : ∀ xs v, sWhen xs = some v → ∀ H, ACalls P f xs H fun x H' => x = v ∧ H' = H := by
  intro xs v hv H
  obtain ⟨x, y, p, q, rfl, h1, h2, h3⟩ := fn2_some hv
  cases Rd.bool_some h1; cases Rd.int_some h2; cases h3
  exact h _ _ H
theorem sFirst_ok {P : Program} {f : FuncId} (h : ∀ (l : List Int) (t : Tail) (H : Heap), l.length ≤ 1099511627776 → ACalls P f [.sl (l.map encIn) t] H fun x H' => x = .int .i64 (fst0 l) ∧ H' = H) : ∀ xs v, sFirst xs = some v → ∀ H, ACalls P f xs H fun x H' => x = v ∧ H' = H := by
  intro xs v hv H
  obtain ⟨x, l, rfl, h1, h2⟩ := fn1_some hv
  split at h2
  · cases h2
    obtain ⟨t, rfl⟩ := Rd.list_some (enc := encIn) (fun _ _ => decIn_some) h1
    exact h l t H ‹_›
  · cases h2
theorem sFirst_eq (l : List Int) (t : Tail) (h : l.length ≤ 1099511627776) : sFirst [.sl (l.map encIn) t] = some (.int .i64 (fst0 l)) := by
  show ((Rd.list decIn).rd (.sl (l.map encIn) t)).bind _ = _
  rw [Rd.list_eq (enc := encIn) (fun _ => rfl) l t]
  simp only [Option.bind_some, if_pos h]
theorem sFirst_two (a b : Int) (t : Tail) : sFirst [.sl [[.int .i64 a], [.int .i64 b]] t] = some (.int .i64 (fst0 [a, b])) := sFirst_eq [a, b] t (by simp)
theorem sFirst_three (a b c : Int) (t : Tail) : sFirst [.sl [[.int .i64 a], [.int .i64 b], [.int .i64 c]] t] = some (.int .i64 (fst0 [a, b, c])) := sFirst_eq [a, b, c] t (by simp)
end Go.Proofs

/- Walks: versions on the reference's side: their errors. -/
namespace Go.Proofs
open Go Go.Abs
set_option linter.unusedSimpArgs false
set_option linter.unusedVariables false
set_option maxRecDepth 20000
theorem rIn_calls (n lo hi : Int) (H : Heap) : ACalls Tryz.prog 138 [.int .i64 n, .int .i64 lo, .int .i64 hi] H fun x H' => x = .bool (!outI n lo hi) ∧ H' = H := by
  have e : (!outI n lo hi) = (decide (lo ≤ n) && decide (n ≤ hi)) := by
    unfold outI
    rw [Bool.eq_iff_iff]
    simp only [Bool.not_eq_true', Bool.or_eq_false_iff, Bool.and_eq_true, decide_eq_true_eq, decide_eq_false_iff_not]
    omega
  rw [e]
  refine ACalls.of_code (X := { pure := pu0 }) pu0_ok Tryz.func138 (by kernel_rfl) rfl (by kernel_rfl) (Nat.le_of_ble_eq_true rfl) ?_
  simp -implicitDefEqProofs only [go_sem, Tryz.f138]
  cases e1 : decide (lo ≤ n) <;> cases e2 : decide (n ≤ hi)
  all_goals
    simp -implicitDefEqProofs only [go_sem, e1, e2]
    exact Done.now ⟨rfl, rfl⟩
def sInI : List AV → Option AV
  | [.int .i64 n, .int .i64 lo, .int .i64 hi] => some (.bool (!outI n lo hi))
  | _ => none
theorem sInI_eq (n lo hi : Int) : sInI [.int .i64 n, .int .i64 lo, .int .i64 hi] = some (.bool (!outI n lo hi)) := rfl
theorem sInI_ok {P : Program} {f : FuncId} (h : ∀ n lo hi H, ACalls P f [.int .i64 n, .int .i64 lo, .int .i64 hi] H fun x H' => x = .bool (!outI n lo hi) ∧ H' = H) : Pur P f sInI := by
  intro xs v hv H
  unfold sInI at hv
  split at hv
  · cases hv; exact h _ _ _ H
  · cases hv
theorem strIdxV_calls (s : Bytes) (c : Int) (H : Heap) : ACalls Tryz.prog 188 [.str s, .int .u8 c] H fun x H' => x = .int .i64 (Lib.indexByte s c.toNat.toUInt8) ∧ H' = H := by
  refine ACalls.of_code (X := { pure := puK }) puK_ok Tryz.func188 (by kernel_rfl) rfl (by kernel_rfl) (Nat.le_of_ble_eq_true rfl) ?_
  simp -implicitDefEqProofs only [go_sem, Tryz.f188, puK, puK5, puK4, puK3, puK2, sIdxB_eq]
  exact Done.now ⟨rfl, rfl⟩
def puX1 : Pures := putP 188 sIdxB puW7
theorem puX1_dyn : isDyn puX1 = false := by simp only [puX1, go_sem, Nat.reduceEqDiff]
attribute [go_sem] puX1_dyn
theorem puX1_ok : PuOK Tryz.prog puX1 := .put (puW7_ok) (sIdxB_ok strIdxV_calls)
theorem idx_has (cs : Bytes) (b : UInt8) : decide (Lib.indexByte cs b < 0) = !cs.contains b := by
  have h1 := Lib.indexByte_ge cs b
  have h2 := indexByte_none (c := b) (l := cs)
  have h3 : cs.count b = 0 ↔ ¬ b ∈ cs := List.count_eq_zero
  by_cases h : b ∈ cs
  · have : ¬ Lib.indexByte cs b = -1 := fun e => h3.1 (h2.1 e) h
    rw [show cs.contains b = true from List.contains_iff_mem.2 h]
    exact decide_eq_false (by omega)
  · have : Lib.indexByte cs b = -1 := h2.2 (h3.2 h)
    rw [this, show cs.contains b = false from by rw [Bool.eq_false_iff]; intro e; exact h (List.contains_iff_mem.1 e)]
    rfl
theorem inner_calls (s cs : Bytes) (H : Heap) (hs : s.length ≤ 1099511627776) : ACalls Tryz.prog 182 [.str s, .str cs] H fun x H' => x = .bool (ofB s cs) ∧ H' = H := by
  refine ACalls.of_code (X := { pure := puX1 }) puX1_ok Tryz.func182 (by kernel_rfl) rfl (by kernel_rfl) (Nat.le_of_ble_eq_true rfl) ?_
  simp -implicitDefEqProofs only [go_sem, Tryz.f182]
  refine aloop_intro (σ := Nat) (fun i => [(0, .str s), (1, .str cs), (7, .int .i64 s.length), (8, .int .i64 i)]) (fun i G => G = H ∧ i ≤ s.length ∧ ofB s cs = ofB (s.drop i) cs) (fun i => s.length - i) 0 ?_ ?_ ?_
  · simp -implicitDefEqProofs only [go_sem]
  · exact ⟨rfl, Nat.zero_le _, rfl⟩
  rintro i r G hv ⟨rfl, hi, hO⟩
  have h0 := hv.1
  have h1 := hv.2.1
  have h7 := hv.2.2.1
  have h8 := hv.2.2.2.1
  clear hv
  by_cases g : i < s.length
  rotate_left
  · have y0 : decide ((i : Int) < s.length) = false := decide_eq_false (by omega)
    obtain rfl : i = s.length := by omega
    rw [List.drop_length] at hO
    simp -implicitDefEqProofs only [go_sem, h0, h1, h7, h8, y0]
    exact Done.now ⟨by rw [hO]; rfl, rfl⟩
  have y0 : decide ((i : Int) < s.length) = true := decide_eq_true (by omega)
  obtain ⟨b, hb⟩ : ∃ b, s[i]? = some b := getD_get' g
  have ws : IntKind.i64.wrap ((i : Int) + 1) = ((i + 1 : Nat) : Int) := by rw [Go.IntWalk.i64_in _ (by omega)]; omega
  have q : sIdxB [.str cs, .int .u8 (b.toNat : Int)] = some (.int .i64 (Lib.indexByte cs b)) := by rw [sIdxB_eq, u8_back]
  have hh := idx_has cs b
  rw [dropAt hb] at hO
  have hcons : ofB (b :: s.drop (i + 1)) cs = (cs.contains b && ofB (s.drop (i + 1)) cs) := rfl
  rw [hcons] at hO
  cases e : cs.contains b with
  | true =>
    rw [e, Bool.true_and] at hO
    rw [e] at hh
    simp -implicitDefEqProofs only [go_sem, h0, h1, h7, h8, y0, hb, puX1, q, hh, ws, Bool.not_true]
    exact Again.mk (i + 1) (by simp -implicitDefEqProofs only [go_sem, h0, h1, h7, h8]) ⟨rfl, by omega, hO⟩ (by omega)
  | false =>
    rw [e, Bool.false_and] at hO
    rw [e] at hh
    simp -implicitDefEqProofs only [go_sem, h0, h1, h7, h8, y0, hb, puX1, q, hh, Bool.not_false]
    exact Done.now ⟨by rw [hO], rfl⟩
theorem cs_ascii {cs : Bytes} (h : cs = dgS ∨ cs = wdS) : cs.length ≤ 1099511627 ∧ ∀ (j : Nat) b, cs[j]? = some b → b.toNat < 128 := by
  rcases h with rfl | rfl
  · exact ⟨by decide, fun j b hj => (by decide : ∀ b ∈ dgS, b.toNat < 128) b (List.mem_of_getElem? hj)⟩
  · exact ⟨by decide, fun j b hj => (by decide : ∀ b ∈ wdS, b.toNat < 128) b (List.mem_of_getElem? hj)⟩
theorem rOf_calls (s cs : Bytes) (H : Heap) (hs : s.length ≤ 1099511627776) (hc : cs = dgS ∨ cs = wdS) : ACalls Tryz.prog 140 [.str s, .str cs] H fun x H' => x = .bool (ofB s cs) ∧ H' = H := by
  obtain ⟨c1, c2⟩ := cs_ascii hc
  have k1 := fun G => trim_calls s cs hs c1 c2 G
  have k2 := fun G => inner_calls s cs G hs
  by_cases ht : Lib.trimS s cs = []
  · have y1 : decide (Lib.trimS s cs = []) = true := decide_eq_true ht
    refine ACalls.of_code (X := { pure := pu0 }) pu0_ok Tryz.func140 (by kernel_rfl) rfl (by kernel_rfl) (Nat.le_of_ble_eq_true rfl) ?_
    simp -implicitDefEqProofs only [go_sem, Tryz.f140]
    refine (k1 H).pure_next _ ?_
    simp -implicitDefEqProofs only [go_sem, y1]
    refine (k2 H).pure_next _ ?_
    simp -implicitDefEqProofs only [go_sem]
    exact Done.now ⟨rfl, rfl⟩
  · have y1 : decide (Lib.trimS s cs = []) = false := decide_eq_false ht
    have ho : ofB s cs = false := by
      cases e : ofB s cs with
      | false => rfl
      | true => exact absurd (trim_of e) ht
    refine ACalls.of_code (X := { pure := pu0 }) pu0_ok Tryz.func140 (by kernel_rfl) rfl (by kernel_rfl) (Nat.le_of_ble_eq_true rfl) ?_
    simp -implicitDefEqProofs only [go_sem, Tryz.f140]
    refine (k1 H).pure_next _ ?_
    simp -implicitDefEqProofs only [go_sem, y1]
    exact Done.now ⟨by rw [ho], rfl⟩
noncomputable def sOf := spF (fun p : Bytes × Bytes => [AV.str p.1, AV.str p.2]) (fun p => p.1.length ≤ 1099511627776 ∧ (p.2 = dgS ∨ p.2 = wdS)) fun p => .bool (ofB p.1 p.2)
theorem sOf_eq (s cs : Bytes) (h : s.length ≤ 1099511627776 ∧ (cs = dgS ∨ cs = wdS)) : sOf [.str s, .str cs] = some (.bool (ofB s cs)) := spF_eq (enc := fun p : Bytes × Bytes => [AV.str p.1, AV.str p.2]) (fun a b e => by
  obtain ⟨a1, a2⟩ := a
  obtain ⟨b1, b2⟩ := b
  cases e; rfl) (s, cs) h
noncomputable def puX2 : Pures := putP 140 sOf (putP 138 sInI puX1)
theorem puX2_dyn : isDyn puX2 = false := by simp only [puX2, go_sem, Nat.reduceEqDiff]
attribute [go_sem] puX2_dyn
theorem puX2_ok : PuOK Tryz.prog puX2 := .put (.put (puX1_ok) (sInI_ok rIn_calls)) (spF_ok fun p H h => rOf_calls p.1 p.2 H h.1 h.2)
def verErrs : List VerV → Int
  | [] => 0
  | v :: l => if verErr v = 0 then verErrs l else verErr v
theorem wordB_long {s : Bytes} (h : 40 < s.length) : earlyB s = false := by
  unfold earlyB
  rw [Bool.and_eq_false_iff]
  exact .inr (decide_eq_false (by omega))
/-- The words of an early version, one by one. -/
def VwQ (v : VerV) (l : List VerV) (t : Tail) (i : Nat) (G0 : Heap) (r : Regs) (G : Heap) : Prop := G = G0 ∧ (earlyB v.early = true) ∧ r 9 = .sl (l.map encVer) t ∧ r 10 = .int .i64 l.length ∧ r 11 = .int .i64 i
def VnQ (v : VerV) (l : List VerV) (t : Tail) (i i4 : Nat) (G0 : Heap) (r : Regs) (G : Heap) : Prop := G = G0 ∧ verOut v = false ∧ r 4 = .ptr i4 0 ∧ r 9 = .sl (l.map encVer) t ∧ r 10 = .int .i64 l.length ∧ r 11 = .int .i64 i
set_option maxHeartbeats 6400000 in
theorem rVersionError_calls (l : List VerV) (t : Tail) (H : Heap) (hl : l.length ≤ 1099511627776) (hr : ∀ v ∈ l, verR v) : ACalls Tryz.prog 65 [.sl (l.map encVer) t] H fun x H' => x = .int .i64 (verErrs l) ∧ H' = H := by
  have hS := Heap.Sub.rfl' H
  refine ACalls.of_code (X := { pure := puX2 }) puX2_ok Tryz.func65 (by kernel_rfl) rfl (by kernel_rfl) (Nat.le_of_ble_eq_true rfl) ?_
  simp -implicitDefEqProofs only [go_sem, Tryz.f65]
  refine aloop_intro (σ := Nat) (fun i => [(9, .sl (l.map encVer) t), (10, .int .i64 l.length), (11, .int .i64 i)])
    (fun i G => H.Sub G ∧ i ≤ l.length ∧ verErrs l = verErrs (l.drop i)) (fun i => l.length - i) 0 ?_ ?_ ?_
  · simp -implicitDefEqProofs only [go_sem]
  · exact ⟨hS, Nat.zero_le _, rfl⟩
  clear hS
  rintro i r G hv ⟨hS, hi, hO⟩
  have h9 := hv.1
  have h10 := hv.2.1
  have h11 := hv.2.2.1
  clear hv
  by_cases g : i < l.length
  rotate_left
  · have y0 : decide ((i : Int) < l.length) = false := decide_eq_false (by omega)
    obtain rfl : i = l.length := by omega
    rw [List.drop_length, verErrs] at hO
    simp -implicitDefEqProofs only [go_sem, h9, h10, h11, y0]
    exact Done.drop hS ⟨by rw [hO], rfl⟩
  have y0 : decide ((i : Int) < l.length) = true := decide_eq_true (by omega)
  obtain ⟨v, hx⟩ : ∃ x, l[i]? = some x := getD_get' g
  have hvr : v.early.length ≤ 1099511627776 := hr v (List.mem_of_getElem? hx)
  have ws : IntKind.i64.wrap ((i : Int) + 1) = ((i + 1 : Nat) : Int) := by rw [Go.IntWalk.i64_in _ (by omega)]; omega
  have hU : ∀ (a : VerV), a ∈ l → (encVer a).length = 4 := fun _ _ => rfl
  rw [dropAt hx, verErrs] at hO
  have hE := verErr.eq_1 v
  simp -implicitDefEqProofs only [go_sem, h9, h10, h11, y0, hx]
  refine ⟨hU, Nat.le_refl _, ?_⟩
  simp only [encVer, List.take_succ_cons, List.take_zero, List.take_nil]
  with_reducible refine nwC_intro fun i4 hi4 => ?_
  simp -implicitDefEqProofs only [go_sem]
  generalize E4 : Heap.put G i4 _ = G4
  have hO4 := obj_new E4 hi4 hS
  have hS4 := hO4.2.1
  have g4 := hO4.2.2.1
  clear hO4 E4
  have stop : ∀ e : Int, verErr v = e → e ≠ 0 → verErrs l = e := fun e h h0 => by rw [hO, h, if_neg h0]
  have next : verErr v = 0 → verErrs l = verErrs (l.drop (i + 1)) := fun h => by rw [hO, if_pos h]
  with_reducible refine aloop_cut 2 (VnQ v l t i i4 G4) ?_ ?_
  rotate_left
  · refine aloop_intro (σ := Nat) (fun k => [(4, .ptr i4 0), (9, .sl (l.map encVer) t), (10, .int .i64 l.length), (11, .int .i64 i), (21, .sl [[.int .i64 v.major], [.int .i64 v.minor], [.int .i64 v.patch]] .exact), (22, .int .i64 3), (23, .int .i64 k)])
      (fun k G => G = G4 ∧ VerI v k) (fun k => 3 - k) 0 ?_ ?_ ?_
    · simp -implicitDefEqProofs only [go_sem, h9, h10, h11]
    · exact ⟨rfl, by omega, fun h => by omega, fun h => by omega, fun h => by omega⟩
    rintro k r G hw ⟨rfl, hk, b0, b1, b2⟩
    have e4 := hw.1
    have e9 := hw.2.1
    have e10 := hw.2.2.1
    have e11 := hw.2.2.2.1
    have e21 := hw.2.2.2.2.1
    have e22 := hw.2.2.2.2.2.1
    have e23 := hw.2.2.2.2.2.2.1
    clear hw
    have q := fun n => sInI_eq n 0 999999
    have bad : verOut v = true → verErrs l = 3 := fun e => stop 3 (by unfold verErr; rw [if_pos e]) (by decide)
    have wk : IntKind.i64.wrap ((k : Int) + 1) = ((k + 1 : Nat) : Int) := by rw [Go.IntWalk.i64_in _ (by omega)]; omega
    obtain rfl | rfl | rfl | rfl : k = 0 ∨ k = 1 ∨ k = 2 ∨ k = 3 := by omega
    · have z0 : decide (((0 : Nat) : Int) < 3) = true := rfl
      cases e : outI v.major 0 999999 with
      | true =>
        simp -implicitDefEqProofs only [go_sem, e4, e9, e10, e11, e21, e22, e23, z0, puX2, q, e, Int.toNat_natCast, Int.natCast_nonneg, Bool.not_true]
        exact Done.drop hS4 ⟨by rw [bad (by unfold verOut; rw [e]; rfl)], rfl⟩
      | false =>
        simp -implicitDefEqProofs only [go_sem, e4, e9, e10, e11, e21, e22, e23, z0, puX2, q, e, wk, Int.toNat_natCast, Int.natCast_nonneg, Bool.not_false]
        exact Again.mk 1 (by simp -implicitDefEqProofs only [go_sem, e4, e9, e10, e11, e21, e22]; exact rfl) ⟨rfl, by omega, fun _ => e, fun h => by omega, fun h => by omega⟩ (by omega)
    · have b0 := b0 (by omega)
      have z1 : decide ((1 : Int) < 3) = true := rfl
      cases e : outI v.minor 0 999999 with
      | true =>
        simp -implicitDefEqProofs only [go_sem, e4, e9, e10, e11, e21, e22, e23, z1, puX2, q, e, Int.toNat_natCast, Int.natCast_nonneg, Int.toNat_one, Bool.not_true]
        exact Done.drop hS4 ⟨by rw [bad (by unfold verOut; rw [b0, e]; rfl)], rfl⟩
      | false =>
        simp -implicitDefEqProofs only [go_sem, e4, e9, e10, e11, e21, e22, e23, z1, puX2, q, e, wk, Int.toNat_natCast, Int.natCast_nonneg, Int.toNat_one, Bool.not_false]
        exact Again.mk 2 (by simp -implicitDefEqProofs only [go_sem, e4, e9, e10, e11, e21, e22]; exact rfl) ⟨rfl, by omega, fun _ => b0, fun _ => e, fun h => by omega⟩ (by omega)
    · have b0 := b0 (by omega)
      have b1 := b1 (by omega)
      cases e : outI v.patch 0 999999 with
      | true =>
        simp -implicitDefEqProofs only [go_sem, e4, e9, e10, e11, e21, e22, e23, puX2, q, e, Int.toNat_natCast, Int.natCast_nonneg, Bool.not_true]
        exact Done.drop hS4 ⟨by rw [bad (by unfold verOut; rw [b0, b1, e]; rfl)], rfl⟩
      | false =>
        simp -implicitDefEqProofs only [go_sem, e4, e9, e10, e11, e21, e22, e23, puX2, q, e, wk, Int.toNat_natCast, Int.natCast_nonneg, Bool.not_false]
        exact Again.mk 3 (by simp -implicitDefEqProofs only [go_sem, e4, e9, e10, e11, e21, e22]; exact rfl) ⟨rfl, by omega, fun _ => b0, fun _ => b1, fun _ => e⟩ (by omega)
    · simp -implicitDefEqProofs only [go_sem, e4, e9, e10, e11, e21, e22, e23]
      exact ⟨rfl, by unfold verOut; rw [b0 (by omega), b1 (by omega), b2 (by omega)]; rfl, by simp -implicitDefEqProofs only [go_sem, e4], by simp -implicitDefEqProofs only [go_sem, e9], by simp -implicitDefEqProofs only [go_sem, e10], by simp -implicitDefEqProofs only [go_sem, e11]⟩
  clear h9 h10 h11
  rintro r G ⟨rfl, ho, h4, h9, h10, h11⟩
  rw [if_neg (by simp [ho])] at hE
  by_cases c : v.early = []
  · have y1 : decide (v.early = []) = true := decide_eq_true c
    rw [if_neg (fun h => h.1 c)] at hE
    simp -implicitDefEqProofs only [go_sem, h4, h9, h10, h11, g4, y1, ws]
    exact Again.mk (i + 1) (by simp -implicitDefEqProofs only [go_sem, h9, h10, h11]) ⟨hS4, by omega, next hE⟩ (by omega)
  have y1 : decide (v.early = []) = false := decide_eq_false c
  by_cases c2 : 40 < v.early.length
  · have y2 : decide (40 < (v.early.length : Int)) = true := decide_eq_true (by omega)
    rw [if_pos ⟨c, wordB_long c2⟩] at hE
    simp -implicitDefEqProofs only [go_sem, h4, h9, h10, h11, g4, y1, y2]
    exact Done.drop hS4 ⟨by rw [stop 2 hE (by decide)], rfl⟩
  have y2 : decide (40 < (v.early.length : Int)) = false := decide_eq_false (by omega)
  have hsp := sSplit_room v.early 46 hvr
  have hlen : (splitB 46 v.early).length ≤ 1099511627777 := by rw [splitB_len]; have := List.count_le_length (a := (46 : UInt8)) (l := v.early); omega
  have hbad : ∀ w ∈ splitB 46 v.early, wordB w = false → earlyB v.early = false := fun w hw e => by
    unfold earlyB
    have : (splitB 46 v.early).all wordB = false := by rw [List.all_eq_false]; exact ⟨w, hw, by simp [e]⟩
    rw [this]; rfl
  have hgood : (splitB 46 v.early).all wordB = true → earlyB v.early = true := fun e => by
    unfold earlyB
    rw [e, Bool.true_and]
    exact decide_eq_true (by omega)
  have hroom : ∀ {k : Nat} {w : Bytes}, (splitB 46 v.early)[k]? = some w → w.length ≤ 1099511627776 := fun h => room_part hvr h
  simp -implicitDefEqProofs only [go_sem, h4, h9, h10, h11, g4, y1, y2, puX2, puX1, puW7, puW6, puW5, puW4, puW3, puW2, puW1, puV1, puK, hsp]
  generalize splitB 46 v.early = ps at *
  with_reducible refine aloop_cut 4 (VwQ v l t i G) ?_ ?_
  rotate_left
  · refine aloop_intro (σ := Nat) (fun k => [(9, .sl (l.map encVer) t), (10, .int .i64 l.length), (11, .int .i64 i), (40, .sl (ps.map encBs) .unk), (41, .int .i64 ps.length), (42, .int .i64 k)])
      (fun k G' => G' = G ∧ k ≤ ps.length ∧ (ps.take k).all wordB = true) (fun k => ps.length - k) 0 ?_ ?_ ?_
    · simp -implicitDefEqProofs only [go_sem, h9, h10, h11]
    · exact ⟨rfl, Nat.zero_le _, rfl⟩
    rintro k r G' hw ⟨rfl, hk, hp⟩
    have e9 := hw.1
    have e10 := hw.2.1
    have e11 := hw.2.2.1
    have e40 := hw.2.2.2.1
    have e41 := hw.2.2.2.2.1
    have e42 := hw.2.2.2.2.2.1
    clear hw
    by_cases gk : k < ps.length
    rotate_left
    · have z0 : decide ((k : Int) < ps.length) = false := decide_eq_false (by omega)
      obtain rfl : k = ps.length := by omega
      rw [List.take_length] at hp
      simp -implicitDefEqProofs only [go_sem, e9, e10, e11, e40, e41, e42, z0]
      exact ⟨rfl, hgood hp, by simp -implicitDefEqProofs only [go_sem, e9], by simp -implicitDefEqProofs only [go_sem, e10], by simp -implicitDefEqProofs only [go_sem, e11]⟩
    have z0 : decide ((k : Int) < ps.length) = true := decide_eq_true (by omega)
    obtain ⟨w, hw⟩ : ∃ x, ps[k]? = some x := getD_get' gk
    have hwl := hroom hw
    have wk : IntKind.i64.wrap ((k : Int) + 1) = ((k + 1 : Nat) : Int) := by rw [Go.IntWalk.i64_in _ (by omega)]; omega
    have bad : wordB w = false → verErrs l = 2 := fun e => stop 2 (by rw [hE, if_pos ⟨c, hbad w (List.mem_of_getElem? hw) e⟩]) (by decide)
    have good : wordB w = true → (ps.take (k + 1)).all wordB = true := fun e => by
      rw [List.take_add_one, hw]
      simp [List.all_append, hp, e]
    have hW := wordB_ref w
    have q1 : sOf [.str w, .str [97, 98, 99, 100, 101, 102, 103, 104, 105, 106, 107, 108, 109, 110, 111, 112, 113, 114, 115, 116, 117, 118, 119, 120, 121, 122, 48, 49, 50, 51, 52, 53, 54, 55, 56, 57]] = some (.bool (ofB w wdS)) := sOf_eq w wdS ⟨hwl, .inr rfl⟩
    have q2 : sOf [.str w, .str [48, 49, 50, 51, 52, 53, 54, 55, 56, 57]] = some (.bool (ofB w dgS)) := sOf_eq w dgS ⟨hwl, .inl rfl⟩
    cases w with
    | nil =>
      have z1 : decide (([] : Bytes) = []) = true := rfl
      simp -implicitDefEqProofs only [go_sem, e9, e10, e11, e40, e41, e42, z0, hw, encBs, z1]
      exact Done.drop hS4 ⟨by rw [bad (by rw [hW]; rfl)], rfl⟩
    | cons b w =>
    have z1 : decide ((b :: w) = []) = false := rfl
    have hlw : (b :: w).length = w.length + 1 := rfl
    rw [decide_eq_false (show ¬ (b :: w) = [] by simp), hlw, Bool.false_or] at hW
    by_cases c3 : 10 < w.length + 1
    · have z2 : decide (10 < ((w.length + 1 : Nat) : Int)) = true := decide_eq_true (by omega)
      rw [decide_eq_true c3, Bool.true_or, Bool.true_or] at hW
      simp -implicitDefEqProofs only [go_sem, e9, e10, e11, e40, e41, e42, z0, hw, encBs, z1, z2]
      exact Done.drop hS4 ⟨by rw [bad hW], rfl⟩
    have z2 : decide (10 < ((w.length + 1 : Nat) : Int)) = false := decide_eq_false (by omega)
    rw [decide_eq_false c3, Bool.false_or] at hW
    cases c4 : ofB (b :: w) wdS with
    | false =>
      rw [c4, Bool.not_false, Bool.true_or] at hW
      rw [c4] at q1
      simp -implicitDefEqProofs only [go_sem, e9, e10, e11, e40, e41, e42, z0, hw, encBs, z1, z2, puX2, q1, Bool.not_false]
      exact Done.drop hS4 ⟨by rw [bad hW], rfl⟩
    | true =>
    rw [c4, Bool.not_true, Bool.false_or] at hW
    rw [c4] at q1
    cases c5 : ofB (b :: w) dgS with
    | false =>
      rw [c5, Bool.false_and, Bool.false_and] at hW
      rw [c5] at q2
      simp -implicitDefEqProofs only [go_sem, e9, e10, e11, e40, e41, e42, z0, hw, encBs, z1, z2, puX2, q1, q2, Bool.not_true, wk]
      exact Again.mk (k + 1) (by simp -implicitDefEqProofs only [go_sem, e9, e10, e11, e40, e41]) ⟨rfl, by omega, good hW⟩ (by omega)
    | true =>
    rw [c5, Bool.true_and] at hW
    rw [c5] at q2
    by_cases c6 : 1 < w.length + 1
    rotate_left
    · have z3 : decide (1 < ((w.length + 1 : Nat) : Int)) = false := decide_eq_false (by omega)
      rw [decide_eq_false c6, Bool.false_and] at hW
      simp -implicitDefEqProofs only [go_sem, e9, e10, e11, e40, e41, e42, z0, hw, encBs, z1, z2, z3, puX2, q1, q2, Bool.not_true, wk]
      exact Again.mk (k + 1) (by simp -implicitDefEqProofs only [go_sem, e9, e10, e11, e40, e41]) ⟨rfl, by omega, good hW⟩ (by omega)
    have z3 : decide (1 < ((w.length + 1 : Nat) : Int)) = true := decide_eq_true (by omega)
    rw [decide_eq_true c6, Bool.true_and] at hW
    by_cases c7 : b = 48
    · have z4 : decide ((b.toNat : Int) = 48) = true := decide_eq_true (by rw [c7]; rfl)
      rw [decide_eq_true (show (b :: w).head? = some 48 by simp [c7])] at hW
      simp -implicitDefEqProofs only [go_sem, e9, e10, e11, e40, e41, e42, z0, hw, encBs, z1, z2, z3, z4, puX2, q1, q2, Bool.not_true, Int.toNat_zero, Int.le_refl]
      exact Done.drop hS4 ⟨by rw [bad hW], rfl⟩
    · have z4 : decide ((b.toNat : Int) = 48) = false := decide_eq_false fun e => c7 (UInt8.toNat_inj.1 (by rw [show (48 : UInt8).toNat = 48 from rfl]; omega))
      rw [decide_eq_false (show ¬ (b :: w).head? = some 48 by simpa using c7)] at hW
      simp -implicitDefEqProofs only [go_sem, e9, e10, e11, e40, e41, e42, z0, hw, encBs, z1, z2, z3, z4, puX2, q1, q2, Bool.not_true, wk, Int.toNat_zero, Int.le_refl]
      exact Again.mk (k + 1) (by simp -implicitDefEqProofs only [go_sem, e9, e10, e11, e40, e41]) ⟨rfl, by omega, good hW⟩ (by omega)
  clear h9 h10 h11
  rintro r G' ⟨rfl, he, h9, h10, h11⟩
  rw [if_neg (fun h => by rw [he] at h; cases h.2)] at hE
  simp -implicitDefEqProofs only [go_sem, h9, h10, h11, ws]
  exact Again.mk (i + 1) (by simp -implicitDefEqProofs only [go_sem, h9, h10, h11]) ⟨hS4, by omega, next hE⟩ (by omega)
end Go.Proofs

/- Walks: versions compared, on the reference's side. -/
namespace Go.Proofs
open Go Go.Abs
set_option linter.unusedSimpArgs false
set_option linter.unusedVariables false
set_option maxRecDepth 20000
noncomputable def sAtoi := spF (fun s : Bytes => [AV.str s]) (fun s => s.length ≤ 1099511627776) atoiA
theorem sAtoi_eq (s : Bytes) (h : s.length ≤ 1099511627776) : sAtoi [.str s] = some (atoiA s) := spF_eq (enc := fun s : Bytes => [AV.str s]) (fun a b e => by cases e; rfl) s h
noncomputable def puX3 : Pures := putP 87 sAtoi puX2
theorem puX3_dyn : isDyn puX3 = false := by simp only [puX3, go_sem, Nat.reduceEqDiff]
attribute [go_sem] puX3_dyn
theorem puX3_ok : PuOK Tryz.prog puX3 := .put (puX2_ok) (spF_ok fun s H h => atoi_calls s h H)
theorem atoiA_tup (s : Bytes) : ∃ n e, atoiA s = .tup [.int .i64 n, e] ∧ (allB isDg s = true → s ≠ [] → s.length ≤ 18 → n = (decV s : Int) ∧ e = .nilIface) := by
  unfold atoiA
  cases h : Lib.atoiAll s with
  | ok v =>
    refine ⟨_, _, rfl, fun h1 h2 h3 => ?_⟩
    rw [atoiAll_dec h1 h2 h3] at h
    cases h
    exact ⟨rfl, rfl⟩
  | range =>
    refine ⟨_, _, rfl, fun h1 h2 h3 => ?_⟩
    rw [atoiAll_dec h1 h2 h3] at h
    cases h
  | _ =>
    refine ⟨_, _, rfl, fun h1 h2 h3 => ?_⟩
    rw [atoiAll_dec h1 h2 h3] at h
    cases h
theorem orI_three (a b c d : Int) : orI [a, b, c, d] = if orI [a, b, c] = 0 then d else orI [a, b, c] := by
  simp only [orI]
  by_cases h1 : a = 0 <;> by_cases h2 : b = 0 <;> by_cases h3 : c = 0 <;> by_cases h4 : d = 0 <;> simp [h1, h2, h3, h4]
set_option maxHeartbeats 6400000 in
theorem rCompareOf_calls (a b : VerV) (H : Heap) (ha : verR a) (hb : verR b) (ea : verErr a = 0) (eb : verErr b = 0) : ACalls Tryz.prog 66 [.agg (encVer a), .agg (encVer b)] H fun x H' => x = .int .i64 (orderV a b) ∧ H' = H := by
  have hS := Heap.Sub.rfl' H
  obtain ⟨-, va⟩ := verErr_ok ea
  obtain ⟨-, vb⟩ := verErr_ok eb
  have q2 := fun t => sOrI_eq [cmpI a.major b.major, cmpI a.minor b.minor, cmpI a.patch b.patch] t (by simp)
  simp only [List.map_cons, List.map_nil, encZ] at q2
  have hv := orI_three (cmpI a.major b.major) (cmpI a.minor b.minor) (cmpI a.patch b.patch) (earlyCmp a.early b.early)
  have hv : orderV a b = _ := hv
  generalize orI [cmpI a.major b.major, cmpI a.minor b.minor, cmpI a.patch b.patch] = o at *
  refine ACalls.of_code (X := { pure := puX3 }) puX3_ok Tryz.func66 (by kernel_rfl) rfl (by kernel_rfl) (Nat.le_of_ble_eq_true rfl) ?_
  simp -implicitDefEqProofs only [go_sem, Tryz.f66, encVer]
  with_reducible refine nwC_intro fun i2 hi2 => ?_
  generalize E2 : Heap.put H i2 _ = G1
  have hO_2 := obj_new E2 hi2 hS
  have n2 := hO_2.1
  have hS := hO_2.2.1
  have g2 := hO_2.2.2.1
  clear hO_2
  simp -implicitDefEqProofs only [go_sem]
  with_reducible refine nwC_intro fun i3 hi3 => ?_
  generalize E3 : Heap.put G1 i3 _ = G2
  have hO_3 := obj_new E3 hi3 hS
  have n3 := hO_3.1
  have hS := hO_3.2.1
  have g3 := hO_3.2.2.1
  have d2_3 := obj_ne g2 hi3
  have g2 := hO_3.2.2.2 _ _ g2
  clear hO_3
  by_cases h0 : o = 0
  rotate_left
  · have y0 : decide (¬ o = 0) = true := decide_eq_true h0
    rw [if_neg h0] at hv
    simp -implicitDefEqProofs only [go_sem, puX3, puX2, puX1, puW7, puW6, puW5, sCmpI_eq, q2, g2, g3, y0]
    exact Done.drop hS ⟨by rw [hv], rfl⟩
  have y0 : decide (¬ o = 0) = false := decide_eq_false (by simpa using h0)
  rw [if_pos h0] at hv
  by_cases hn : a.early = [] ∨ b.early = []
  · rw [earlyCmp_nil _ _ hn] at hv
    have fin : Done Tryz.prog (fun x H' => x = AV.int .i64 (orderV a b) ∧ H' = H) (.int .i64 (cmpI (min 1 (b.early.length : Int)) (min 1 (a.early.length : Int)))) G2 := Done.drop hS ⟨by rw [hv], rfl⟩
    by_cases n1 : a.early = []
    · have y1 : decide (a.early = []) = true := decide_eq_true n1
      simp -implicitDefEqProofs only [go_sem, puX3, puX2, puX1, puW7, puW6, puW5, sCmpI_eq, q2, g2, g3, y0, y1]
      exact fin
    · have y1 : decide (a.early = []) = false := decide_eq_false n1
      have y2 : decide (b.early = []) = true := decide_eq_true (hn.resolve_left n1)
      simp -implicitDefEqProofs only [go_sem, puX3, puX2, puX1, puW7, puW6, puW5, sCmpI_eq, q2, g2, g3, y0, y1, y2]
      exact fin
  have n1 : ¬ a.early = [] := fun e => hn (.inl e)
  have n2 : ¬ b.early = [] := fun e => hn (.inr e)
  have y1 : decide (a.early = []) = false := decide_eq_false n1
  have y2 : decide (b.early = []) = false := decide_eq_false n2
  rw [earlyCmp_ref n1 n2] at hv
  obtain ⟨wa, la⟩ := early_words (va.resolve_left n1)
  obtain ⟨wb, lb⟩ := early_words (vb.resolve_left n2)
  have s1 := sSplit_room a.early 46 ha
  have s2 := sSplit_room b.early 46 hb
  have hR : Room = 1099511627776 := rfl
  have l1 : (splitB 46 a.early).length ≤ 1099511627777 := by rw [splitB_len]; have := List.count_le_length (a := (46 : UInt8)) (l := a.early); omega
  have l2 : (splitB 46 b.early).length ≤ 1099511627777 := by rw [splitB_len]; have := List.count_le_length (a := (46 : UInt8)) (l := b.early); omega
  have mm : min ((splitB 46 a.early).length : Int) (splitB 46 b.early).length = ((min (splitB 46 a.early).length (splitB 46 b.early).length : Nat) : Int) := by omega
  simp -implicitDefEqProofs only [go_sem, puX3, puX2, puX1, puW7, puW6, puW5, puW4, puW3, puW2, puW1, puV1, puK, sCmpI_eq, q2, g2, g3, y0, y1, y2, s1, s2, mm]
  generalize splitB 46 a.early = x at *
  generalize splitB 46 b.early = y at *
  refine aloop_intro (σ := Nat) (fun i => [(6, .sl (x.map encBs) .unk), (7, .sl (y.map encBs) .unk), (63, .int .i64 ((min x.length y.length : Nat) : Int)), (64, .int .i64 i)])
    (fun i G => G = G2 ∧ i ≤ min x.length y.length ∧ wordsCmp x y = wordsCmp (x.drop i) (y.drop i)) (fun i => min x.length y.length - i) 0 ?_ ?_ ?_
  · simp -implicitDefEqProofs only [go_sem]
  · exact ⟨rfl, Nat.zero_le _, rfl⟩
  rintro i r G hw ⟨rfl, hi, hO⟩
  have h5 := hw.1
  have h6 := hw.2.1
  have h27 := hw.2.2.1
  have h28 := hw.2.2.2.1
  clear hw
  by_cases g : i < min x.length y.length
  rotate_left
  · have z0 : decide ((i : Int) < ((min x.length y.length : Nat) : Int)) = false := decide_eq_false (by omega)
    rw [wordsCmp_end x y i (by omega)] at hO
    simp -implicitDefEqProofs only [go_sem, h5, h6, h27, h28, z0, puX3, puX2, puX1, puW7, puW6, puW5, sCmpI_eq]
    exact Done.drop hS ⟨by rw [hv, hO], rfl⟩
  have z0 : decide ((i : Int) < ((min x.length y.length : Nat) : Int)) = true := decide_eq_true (by omega)
  obtain ⟨p, hp⟩ : ∃ w, x[i]? = some w := getD_get' (by omega)
  obtain ⟨q, hq⟩ : ∃ w, y[i]? = some w := getD_get' (by omega)
  have wp := wa p (List.mem_of_getElem? hp)
  have wq := wb q (List.mem_of_getElem? hq)
  have op := wordB_ok wp
  have oq := wordB_ok wq
  have a1 := sAtoi_eq p (by omega)
  have a2 := sAtoi_eq q (by omega)
  obtain ⟨m, e1, hm, hm2⟩ := atoiA_tup p
  obtain ⟨n, e2, hn', hn2⟩ := atoiA_tup q
  rw [hm] at a1
  rw [hn'] at a2
  have d1 : sOf [.str p, .str [48, 49, 50, 51, 52, 53, 54, 55, 56, 57]] = some (.bool (ofB p dgS)) := sOf_eq p dgS ⟨by omega, .inl rfl⟩
  have d2 : sOf [.str q, .str [48, 49, 50, 51, 52, 53, 54, 55, 56, 57]] = some (.bool (ofB q dgS)) := sOf_eq q dgS ⟨by omega, .inl rfl⟩
  have hR2 := wordCmp_ref wp wq
  have ws : IntKind.i64.wrap ((i : Int) + 1) = ((i + 1 : Nat) : Int) := by rw [Go.IntWalk.i64_in _ (by omega)]; omega
  rw [dropAt hp, dropAt hq, wordsCmp] at hO
  have hnum1 : ofB p dgS = true → m = (decV p : Int) := fun h => (hm2 (by rw [← ofB_dg]; exact h) op.2.1 (by omega)).1
  have hnum2 : ofB q dgS = true → n = (decV q : Int) := fun h => (hn2 (by rw [← ofB_dg]; exact h) oq.2.1 (by omega)).1
  have fin1 : ¬ wordCmp p q = 0 → Done Tryz.prog (fun x H' => x = AV.int .i64 (orderV a b) ∧ H' = H) (.int .i64 (wordCmp p q)) G := fun h => by
    rw [if_neg h] at hO
    exact Done.drop hS ⟨by rw [hv, hO], rfl⟩
  have fin2 : wordCmp p q = 0 → wordsCmp x y = wordsCmp (x.drop (i + 1)) (y.drop (i + 1)) := fun h => by rw [if_pos h] at hO; exact hO
  generalize hc : wordCmp p q = w at *
  cases b1 : ofB p dgS with
  | true =>
    rw [b1] at d1
    cases b2 : ofB q dgS with
    | true =>
      rw [b2] at d2
      rw [b1, b2, if_pos (by simp), ← hnum1 b1, ← hnum2 b2] at hR2
      by_cases h0 : w = 0
      · have z1 : decide (¬ w = 0) = false := decide_eq_false (by simpa using h0)
        simp -implicitDefEqProofs only [go_sem, h5, h6, h27, h28, z0, hp, hq, encBs, puX3, puX2, puX1, puW7, puW6, puW5, puW4, puW3, puW2, puW1, puV1, puK, puK5, sCmpS_eq, sCmpI_eq, a1, a2, d1, d2, ← hR2, z1, ws]
        exact Again.mk (i + 1) (by simp -implicitDefEqProofs only [go_sem, h5, h6, h27, h28]) ⟨rfl, by omega, fin2 h0⟩ (by omega)
      · have z1 : decide (¬ w = 0) = true := decide_eq_true h0
        simp -implicitDefEqProofs only [go_sem, h5, h6, h27, h28, z0, hp, hq, encBs, puX3, puX2, puX1, puW7, puW6, puW5, puW4, puW3, puW2, puW1, puV1, puK, puK5, sCmpS_eq, sCmpI_eq, a1, a2, d1, d2, ← hR2, z1]
        exact fin1 h0
    | false =>
      rw [b2] at d2
      rw [b1, b2, if_neg (by simp), if_pos rfl] at hR2
      simp -implicitDefEqProofs only [go_sem, h5, h6, h27, h28, z0, hp, hq, encBs, puX3, puX2, puX1, puW7, puW6, puW5, puW4, puW3, puW2, puW1, puV1, puK, puK5, sCmpS_eq, sCmpI_eq, a1, a2, d1, d2]
      rw [← hR2]
      exact fin1 (by rw [hR2]; decide)
  | false =>
    rw [b1] at d1
    cases b2 : ofB q dgS with
    | true =>
      rw [b2] at d2
      rw [b1, b2, if_neg (by simp), if_neg (by simp), if_pos rfl] at hR2
      simp -implicitDefEqProofs only [go_sem, h5, h6, h27, h28, z0, hp, hq, encBs, puX3, puX2, puX1, puW7, puW6, puW5, puW4, puW3, puW2, puW1, puV1, puK, puK5, sCmpS_eq, sCmpI_eq, a1, a2, d1, d2]
      rw [← hR2]
      exact fin1 (by rw [hR2]; decide)
    | false =>
      rw [b2] at d2
      rw [b1, b2, if_neg (by simp), if_neg (by simp), if_neg (by simp)] at hR2
      by_cases h0 : w = 0
      · have z1 : decide (¬ w = 0) = false := decide_eq_false (by simpa using h0)
        simp -implicitDefEqProofs only [go_sem, h5, h6, h27, h28, z0, hp, hq, encBs, puX3, puX2, puX1, puW7, puW6, puW5, puW4, puW3, puW2, puW1, puV1, puK, puK5, sCmpS_eq, sCmpI_eq, a1, a2, d1, d2, ← hR2, z1, ws]
        exact Again.mk (i + 1) (by simp -implicitDefEqProofs only [go_sem, h5, h6, h27, h28]) ⟨rfl, by omega, fin2 h0⟩ (by omega)
      · have z1 : decide (¬ w = 0) = true := decide_eq_true h0
        simp -implicitDefEqProofs only [go_sem, h5, h6, h27, h28, z0, hp, hq, encBs, puX3, puX2, puX1, puW7, puW6, puW5, puW4, puW3, puW2, puW1, puV1, puK, puK5, sCmpS_eq, sCmpI_eq, a1, a2, d1, d2, ← hR2, z1]
        exact fin1 h0
end Go.Proofs
