/- Parts of the proof: U40n, K40n, C30, C30b, V38b, V38c, V39, V39b, C38, C38b, C38c, C38d, C38e, C38f, C38g, C39, C39b, C39c. -/
import Derived.Test.YtheacfnopahmjaaGreatDoorG2
import Derived.Test.YtheacfnopahmjaaGreatDoorG4
import Derived.Test.YtheacfnopahmjaaGreatDoorRows
import Derived.Test.YtheacfnopahmjaaGreatDoorG3
import Derived.Shelf.Strings.Builder1
import Derived.Shelf.Strings.Split
import Derived.Shelf.Strings.Cut
set_option linter.all false
namespace Go.AM
open Go
set_option maxRecDepth 4000
set_option maxHeartbeats 1000000
attribute [local irreducible] WO Xq We
abbrev Yc6:AC:=(sR 0 [oY 1 5 0,oC 2 (.b false)] (sR 1 [oQ 8 296 [],oO 3 (.alloc [z8,z6,z6,zl]),oS 4 3 8] (sR 2 [oK 9 5 1,oO 10 (.bslice [z8,z6,zl,zl,zl] 1 [(0,(.t 9))]),oF 11 3 3,oS 1 11 10] (sR 3 [oQ 13 297 [],oK 14 4 3,oQ 15 205 [13,14],oM 12 15,oE 16 0 12,oE 17 1 12,oM 4 16,oM 5 17] (sR 4 [oQ 19 297 [],oK 20 5 1,oO 21 (.call false 207 [(.t 19),(.c (.i .i64 0)),(.t 20)]),oM 18 21,oE 22 0 18,oE 23 1 18,oM 6 22,oM 7 23] (sR 5 [oQ 24 297 [],oK 25 4 3,oQ 26 213 [24,25],oV 27 .eql 26 8,oM 28 27,gT 28 (oM 29 5),gT 28 (oV 30 .eql 29 8),oA 31 28 30,oM 32 31,gT 32 (oM 33 7),gT 32 (oV 34 .eql 33 8),oA 35 32 34,oM 2 35] .ret))))))
def Zc0:AF:={ nt:=36,res:=[.tmp 2],body:=Yc6 }
section
variable(PG:Zb)(K:Bool->Prop)
def Zgq (x0:Zl):Prop:=
  ∃c:Zw,Ze PG 296 [] (c.av)/\∃q:Zh,Ze PG 297 [] (q.av)/\∃r j,Ze PG 205 [q.av,.ag [.i .u8 c.outcome,.i .i64 c.failing,.i .i64 c.steps,.sl .ext (List.map Zl.row [x0])]] (.tup [.s r,.i .i64 j])/\∃p:Zh,Ze PG 297 [] (p.av)/\∃u k,Ze PG 207 [p.av,.i .i64 0,x0.av] (.tup [.sl .ext (List.map Zt u),.i .i64 k])/\∃o:Zh,Ze PG 297 [] (o.av)/\∃e,Ze PG 213 [o.av,.ag [.i .u8 c.outcome,.i .i64 c.failing,.i .i64 c.steps,.sl .ext (List.map Zl.row [x0])]] (.i .i64 e)/\(e=8->(j=8->K (decide (k=8)))/\(¬(j=8)->K false))/\(¬(e=8)->K false)
end
section
variable {PG:Zb}{d:Nat}{Q:AE->Sl->St->Prop}{K:Bool->Prop}(hQ:H1 AV.b 2 Q K){σ:Sl}{st:St}
include hQ
variable {x0:Zl}
variable (H0:σ 0=x0.av)
include H0 in
theorem Ykx (h:Zgq PG K x0):W PG d Yc6 σ st Q:=
 q_ J (Qa H0 J (m_ (e_ (Zp (W.reg (h.elim fun _ p=>Ya sn p.1 (Xo (Yc J (show lk _ (d,4097)=some (_,([.i .u8 0,.i .i64 0,.i .i64 0,.sl .full (List.map Zl.row ([]:List Zl))]:List AV)) from Zj) J J J (e_ (q_ J (l_ J (Zs J (Zs J Zj)) J J (Xv (f:=Zl.row) (l:=[x0]) J J (Yo J J J Xp) (by simp only [kT,jQ,Zl.row_eq];rfl) (f_ J (Yc J Zj J J J (e_ (q_ J (p.2.elim fun _ q=>Ya sn q.1 (l_ J Zj J J (x2 q.2 fun _ _ r=>Ya (Je J J J) r.1 (m_ (x_ J J (x_ J J (m_ (m_ (e_ (q_ J (r.2.elim fun _ s=>Ya sn s.1 (l_ J (Zs J (Zs J (Zs J Zj))) J J (x2 s.2 fun _ _ k=>Ya (Tt J J J J) k.1 (m_ (x_ J J (x_ J J (Yf J (m_ (e_ (q_ J (k.2.elim fun _ o=>Ya sn o.1 (l_ J Zj J J (o.2.elim fun _ c=>Ya (Je J J J) c.1 (b_ J J Xc (Xl J (Xa (g:=28) J (fun e=>Zd J (Xf J (Zd J (b_ J J Xc (z_ 2 J (Xa (g:=32) J (fun j=>Zd J (Xf J (Zd J (b_ J J Xc (z_ 2 J (Zr (hQ J ((c.2.1 e).1 j)))))))) (fun j=>z_ 4 J (Zr (hQ J ((c.2.1 e).2 j)))))))))) (fun e=>z_ 8 J (Zr (hQ J (c.2.2 e))))))))))))))))))))))))))))))))))))))))))))))
end
theorem Ywv {PG:Zb}(hf:PG.fn 295=some Zc0){x0:Zl}{K:Bool->Prop}(h:Zgq PG K x0) :∃aa:Bool,K aa/\Ze PG 295 [x0.av] (.b aa):=
 P1 hf J (Ykx (h1 J fun _=>J) J h)
abbrev Zym:AC:=(sR 0 [oC 2 (.b false)] (sR 1 [oQ 6 297 [],oM 7 0,oQ 8 299 [6,7],oM 5 8,oE 9 0 5,oE 10 1 5,oO 3 (.alloc [z8,z6,z6,zl]),oS 4 3 9,oM 4 10] (sR 2 [oM 11 4,oV 12 .eql 11 12,oM 13 12,gT 13 (oK 14 4 3),gT 13 (oO 15 (.build [z8,z6,z6,zl] [])),gT 13 (oQ 16 302 [14,15]),oA 17 13 16,oM 2 17] .ret)))
def Zdn:AF:={ nt:=18,res:=[.tmp 2],body:=Zym }
section
variable(PG:Zb)(K:Bool->Prop)
def Zhf (s0:BS):Prop:=
  ∃k:Zh,Ze PG 297 [] (k.av)/\∃j:Zw,∃c,Ze PG 299 [k.av,.s s0] (.tup [j.av,.i .i64 c])/\(c=12->∃e,Ze PG 302 [j.av,.ag [.i .u8 0,.i .i64 0,.i .i64 0,.sl .ext (List.map Zl.row ([]:List Zl))]] (.b e)/\K e)/\(¬(c=12)->K false)
end
section
variable {PG:Zb}{d:Nat}{Q:AE->Sl->St->Prop}{K:Bool->Prop}(hQ:H1 AV.b 2 Q K){σ:Sl}{st:St}
include hQ
variable {s0:BS}
variable (H0:σ 0=.s s0)
include H0 in
theorem Yp1 (h:Zhf PG K s0):W PG d Zym σ st Q:=
 q_ J (m_ (e_ (Zp (W.reg (h.elim fun _ j=>Ya sn j.1 (m_ (x2 j.2 fun _ _ c=>Ya (Je J H0 J) c.1 (m_ (x_ J J (x_ J J (Xo (Yc J (show lk _ (d,4102)=some (_,([.i .u8 0,.i .i64 0,.i .i64 0,.sl .full (List.map Zl.row ([]:List Zl))]:List AV)) from Zj) J J J (m_ (e_ (q_ J (Xf J (b_ J J Xc (Xl J (Xa (g:=13) J (fun e=>Zd J (l_ J Zj J J (Zd J (Yi Yh (Zd J ((c.2.1 e).elim fun _ k=>Ya (Je J J J) k.1 (z_ 2 J (Zr (hQ J k.2))))))))) (fun e=>z_ 5 J (Zr (hQ J (c.2.2 e)))))))))))))))))))))))
end
theorem Ylh {PG:Zb}(hf:PG.fn 298=some Zdn){s0:BS}{K:Bool->Prop}(h:Zhf PG K s0) :∃aa:Bool,K aa/\Ze PG 298 [.s s0] (.b aa):=
 P1 hf J (Yp1 (h1 J fun _=>J) J h)
def Zx1:List AI:=[oM 233 21,oV 234 .add 233 1,oM 21 234]
abbrev Zbs:AC:=(.seq (sR 3 [oM 36 2,oV 37 .lss 36 8] (.cond (.t 37) .skip (.exit 0))) (.seq (.block 1 (sR 5 [oM 41 2,oV 42 .add 41 1,oO 43 (.cvi .u8 (.t 42)),oQ 44 209 [43],oM 40 44,oE 45 0 40,oE 46 1 40,oM 3 45,oM 4 46] (sR 6 [oM 48 1,oM 49 2,oX 50 1 48 49,oL 51 50,oQ 52 211 [51],oM 47 52,oE 53 0 47,oE 54 1 47,oM 5 53,oM 6 54] (sR 7 [oM 55 4,oV 56 .neq 55 0,oM 57 56,gF 57 (oM 58 3),gF 57 (oM 59 1),gF 57 (oM 60 2),gF 57 (oX 61 1 59 60),gF 57 (oL 62 61),gF 57 (oT 63 .neq 58 62),oR 64 57 63,oM 65 64,gF 65 (oM 66 6),gF 65 (oV 67 .neq 66 0),oR 68 65 67,oM 69 68,gF 69 (oM 70 5),gF 69 (oM 71 2),gF 69 (oV 72 .add 71 1),gF 69 (oO 73 (.cvi .u8 (.t 72))),gF 69 (oT 74 .neq 70 73),oR 75 69 74] (.cond (.t 75) (sR 8 [oC 0 (.b false)] .ret) .skip))))) (.reg 4 [oM 38 2,oV 39 .add 38 1,oM 2 39])))
abbrev Zz8:AC:=(sR 42 [oQ 269 297 [],oK 270 4 22,oQ 271 205 [269,270],oM 268 271,oE 272 0 268,oE 273 1 268,oM 24 272,oM 25 273] (.reg 43 [oM 274 20,oM 275 274,gT 275 (oQ 276 297 []),gT 275 (oK 277 4 22),gT 275 (oQ 278 213 [276,277]),gT 275 (oV 279 .eql 278 8),oA 280 275 279,oM 281 280,gT 281 (oM 282 25),gT 281 (oV 283 .eql 282 8),oA 284 281 283,oM 20 284]))
abbrev Ay:AC:=(.seq (sR 20 [oM 231 21,oV 232 .lss 231 7] (.cond (.t 232) .skip (.exit 2))) (.seq (.block 3 (sR 22 [oQ 235 296 [],oO 22 (.alloc [z8,z6,z6,zl]),oS 4 22 235] (.seq (sR 23 [oM 236 21] (.block 4 (sR 24 [oV 238 .eql 236 0,oM 237 238] (.cond (.t 237) (.reg 25 [oF 239 0 22,⟨none,.store 1 (.t 239) (.c (.i .u8 0)),none⟩]) (sR 26 [oV 241 .eql 236 1,oM 240 241] (.cond (.t 240) (.reg 27 [oF 242 0 22,⟨none,.store 1 (.t 242) (.c (.i .u8 9)),none⟩]) (sR 28 [oV 244 .eql 236 2,oM 243 244] (.cond (.t 243) (.reg 29 [oF 245 1 22,⟨none,.store 1 (.t 245) (.c (.i .i64 1)),none⟩]) (sR 30 [oV 247 .eql 236 3,oM 246 247] (.cond (.t 246) (.reg 31 [oF 248 1 22,⟨none,.store 1 (.t 248) (.c (.i .i64 (-2))),none⟩]) (sR 32 [oV 250 .eql 236 4,oM 249 250] (.cond (.t 249) (.reg 33 [oF 251 2 22,⟨none,.store 1 (.t 251) (.c (.i .i64 5001)),none⟩]) (sR 34 [oV 253 .eql 236 5,oM 252 253] (.cond (.t 252) (.reg 35 [oF 254 2 22,⟨none,.store 1 (.t 254) (.c (.i .i64 (-1))),none⟩]) (sR 36 [oV 256 .eql 236 6,oM 255 256] (.cond (.t 255) (.hand Lh) .skip)))))))))))))))) Zz8))) (.reg 21 Zx1)))
abbrev Yd2:AC:=(.seq (sR 48 [oQ 356 297 [],oO 357 (.mks [z8] 1 (.c (.i .i64 300001)) (.c (.i .i64 300001))),oO 358 (.b2s (.t 357)),oQ 359 299 [356,358],oM 355 359,oE 360 0 355,oE 361 1 355,oO 33 (.alloc [z8,z6,z6,zl]),oS 4 33 360,oM 34 361] (.frz 33)) (sR 49 [oC 362 (.b true),gT 362 (oM 363 8),gT 362 (oV 364 .eql 363 2),oA 365 362 364,oM 366 365,gT 366 (oM 367 10),gT 366 (oV 368 .eql 367 2),oA 369 366 368,oM 370 369,gT 370 (oM 371 12),gT 370 (oV 372 .eql 371 12),oA 373 370 372,oM 374 373,gT 374 (oM 375 14),gT 374 (oV 376 .eql 375 12),oA 377 374 376,oM 378 377,gT 378 (oM 379 18),oA 380 378 379,oM 381 380,gT 381 (oM 382 19),oA 383 381 382,oM 384 383,gT 384 (oM 385 20),oA 386 384 385,oM 387 386,gT 387 (oM 388 26),oA 389 387 388,oM 390 389,gT 390 (oM 391 28),gT 390 (oV 392 .eql 391 2),oA 393 390 392,oM 394 393,gT 394 (oM 395 30),gT 394 (oV 396 .eql 395 2),oA 397 394 396,oM 398 397,gT 398 (oM 399 32),gT 398 (oV 400 .eql 399 0),oA 401 398 400,oM 402 401,gT 402 (oM 403 31),gT 402 (oO 404 (.bslice [zs] 1 [(0,(.c (.s [103,111,114,111,117,116,105,110,101,32,49,53,58,32,100,111,110,101])))])),gT 402 (oQ 405 29 [403,404]),oA 406 402 405,oM 407 406,gT 407 (oM 408 34),gT 407 (oV 409 .eql 408 4),oA 410 407 409,oM 411 410,gT 411 (oQ 412 290 []),oA 413 411 412,oM 0 413] .ret))
abbrev Zr7:AC:=(sR 47 [oQ 350 297 [],oK 351 5 15,oO 352 (.call false 207 [(.t 350),(.c (.i .i64 15)),(.t 351)]),oM 349 352,oE 353 0 349,oE 354 1 349,oM 31 353,oM 32 354] Yd2)
abbrev Yd5:AC:=(sR 46 [oQ 344 297 [],oK 345 5 15,oO 346 (.call false 207 [(.t 344),(.c (.i .i64 (-1))),(.t 345)]),oM 343 346,oE 347 0 343,oE 348 1 343,oM 29 347,oM 30 348] Zr7)
abbrev Zzh:AC:=(sR 45 [oQ 338 297 [],oK 339 5 15,oO 340 (.call false 207 [(.t 338),(.c (.i .i64 16)),(.t 339)]),oM 337 340,oE 341 0 337,oE 342 1 337,oM 27 341,oM 28 342] Yd5)
abbrev Za4:AC:=(sR 44 [oO 285 (.call false 298 [(.c (.s []))]),oM 286 285,gT 286 (oO 287 (.call false 298 [(.c (.s [111,117,116,99,111,109,101,32,112,97,110,105,99,44,32,102,97,105,108,105,110,103,32,48,44,32,115,116,101,112,115,32,49,55]))])),oA 288 286 287,oM 289 288,gT 289 (oO 290 (.call false 298 [(.c (.s [111,117,116,99,111,109,101,32,112,97,110,105,99,44,32,102,97,105,108,105,110,103,32,48,44,32,115,116,101,112,115,32,49,55,10]))])),oA 291 289 290,oM 292 291,gT 292 (oO 293 (.call false 298 [(.c (.s [111,117,116,99,111,109,101,32,112,97,110,105,99,44,32,102,97,105,108,105,110,103,32,48,44,32,115,116,101,112,115,32,49,55,10,103,111,114,111,117,116,105,110,101,32,48,58,32,114,101,97,100,121,10]))])),oA 294 292 293,oM 295 294,gT 295 (oO 296 (.call false 298 [(.c (.s [111,117,116,99,111,109,101,32,112,97,110,105,99,44,32,102,97,105,108,105,110,103,32,48,44,32,115,116,101,112,115,32,49,55,10,103,111,114,111,117,116,105,110,101,32,48,58,32,114,101,97,100,121,10,32,32,35,49,32,48,32,34,109,97,105,110,34,32,97,116,32,52,32,99,97,108,108,10]))])),oA 297 295 296,oM 298 297,gT 298 (oO 299 (.call false 298 [(.c (.s [111,117,116,99,111,109,101,32,112,97,110,105,99,44,32,102,97,105,108,105,110,103,32,48,44,32,115,116,101,112,115,32,49,55,10,103,111,114,111,117,116,105,110,101,32,48,58,32,114,101,97,100,121,10,32,32,35,48,32,48,32,34,102,34,32,97,116,32,52,32,99,97,108,108,10]))])),oA 300 298 299,oM 301 300,gT 301 (oO 302 (.call false 298 [(.c (.s [111,117,116,99,111,109,101,32,112,97,110,105,99,44,32,102,97,105,108,105,110,103,32,48,44,32,115,116,101,112,115,32,49,55,10,103,111,114,111,117,116,105,110,101,32,48,58,32,114,101,97,100,121,10,35,48,32,48,32,34,109,97,105,110,34,32,97,116,32,52,32,99,97,108,108,10]))])),oA 303 301 302,oM 304 303,gT 304 (oO 305 (.call false 298 [(.c (.s [111,117,116,99,111,109,101,32,112,97,110,105,99,44,32,102,97,105,108,105,110,103,32,48,44,32,115,116,101,112,115,32,49,55,10,103,111,114,111,117,116,105,110,101,32,48,58,32,114,101,97,100,121,10,32,32,35,48,32,48,32,34,109,97,105,110,34,32,97,116,32,52,32,99,97,108,108,10,32,32,112,97,110,105,99,32,53,10,32,32,35,49,32,48,32,34,109,97,105,110,34,32,97,116,32,52,32,99,97,108,108,10]))])),oA 306 304 305,oM 307 306,gT 307 (oO 308 (.call false 298 [(.c (.s [111,117,116,99,111,109,101,32,112,97,110,105,99,44,32,102,97,105,108,105,110,103,32,48,44,32,115,116,101,112,115,32,49,55,10,103,111,114,111,117,116,105,110,101,32,48,58,32,114,101,97,100,121,10,32,32,35,48,32,48,32,34,109,97,105,110,34,32,97,116,32,52,32,99,97,108,108,10,32,32,112,97,110,105,99,32,53,10,32,32,100,101,102,101,114,32,48,32,48,32,34,109,97,105,110,34,10]))])),oA 309 307 308,oM 310 309,gT 310 (oO 311 (.call false 298 [(.c (.s [111,117,116,99,111,109,101,32,112,97,110,105,99,44,32,102,97,105,108,105,110,103,32,48,44,32,115,116,101,112,115,32,49,55,10,103,111,114,111,117,116,105,110,101,32,48,58,32,114,101,97,100,121,10,32,32,35,48,32,48,32,34,109,97,105,110,34,32,97,116,32,52,32,99,97,108,108,10,32,32,100,101,102,101,114,32,48,32,48,32,34,109,97,105,110,34,32,119,105,116,104,10]))])),oA 312 310 311,oM 313 312,gT 313 (oO 314 (.call false 298 [(.c (.s [111,117,116,99,111,109,101,32,112,97,110,105,99,44,32,102,97,105,108,105,110,103,32,48,44,32,115,116,101,112,115,32,49,55,10,103,111,114,111,117,116,105,110,101,32,48,58,32,114,101,97,100,121,10,32,32,35,48,32,48,32,34,109,97,105,110,34,32,97,116,32,52,32,99,97,108,108,10,32,32,100,101,102,101,114,32,48,32,49,32,34,109,97,105,110,34,10]))])),oA 315 313 314,oM 316 315,gT 316 (oO 317 (.call false 298 [(.c (.s [111,117,116,99,111,109,101,32,112,97,110,105,99,44,32,102,97,105,108,105,110,103,32,48,44,32,115,116,101,112,115,32,49,55,10,103,111,114,111,117,116,105,110,101,32,48,58,32,114,101,97,100,121,10,32,32,35,48,32,48,32,34,109,97,105,110,34,32,97,116,32,52,32,99,97,108,108,10,103,111,114,111,117,116,105,110,101,32,50,58,32,100,111,110,101,10]))])),oA 318 316 317,oM 319 318,gT 319 (oO 320 (.call false 298 [(.c (.s [111,117,116,99,111,109,101,32,112,97,110,105,99,44,32,102,97,105,108,105,110,103,32,48,44,32,115,116,101,112,115,32,49,55,10,103,111,114,111,117,116,105,110,101,32,48,58,32,114,101,97,100,121,10,32,32,35,48,32,48,32,34,109,97,105,110,34,32,97,116,32,52,32,99,97,108,108,10,103,111,114,111,117,116,105,110,101,32,49,58,32,98,108,111,99,107,101,100,10]))])),oA 321 319 320,oM 322 321,gT 322 (oO 323 (.call false 298 [(.c (.s [103,111,114,111,117,116,105,110,101,32,48,58,32,100,111,110,101,10]))])),oA 324 322 323,oM 325 324,gT 325 (oO 326 (.call false 298 [(.c (.s [111,117,116,99,111,109,101,32,112,97,110,105,99,44,32,102,97,105,108,105,110,103,32,45,49,44,32,115,116,101,112,115,32,48,49,55,10]))])),oA 327 325 326,oM 328 327,gT 328 (oO 329 (.call false 298 [(.c (.s [111,117,116,99,111,109,101,32,112,97,110,105,99,44,32,102,97,105,108,105,110,103,32,45,49,44,32,115,116,101,112,115,32,49,55,32,10]))])),oA 330 328 329,oM 331 330,gT 331 (oO 332 (.call false 298 [(.c (.s [111,117,116,99,111,109,101,32,112,97,110,105,99,44,32,102,97,105,108,105,110,103,32,45,49,44,32,115,116,101,112,115,32,49,55,10,10]))])),oA 333 331 332,oM 334 333,gT 334 (oO 335 (.call false 298 [(.c (.s [111,117,116,99,111,109,101,32,112,97,110,105,99,44,32,102,97,105,108,105,110,103,32,45,49,44,32,115,116,101,112,115,32,49,55,10,32,32,35,48,32,48,32,34,109,97,105,110,34,32,97,116,32,52,32,99,97,108,108,10]))])),oA 336 334 335,oM 26 336] Zzh)
abbrev Yds:AC:=(.seq (sR 19 [oI 21 0] (.block 2 (.loop Ay))) Za4)
abbrev Zy8:AC:=(sR 18 [oC 20 (.b true)] Yds)
abbrev Yal:AC:=(sR 17 [oO 122 (.build [z8,z6,zl,zl,zl] []),oQ 123 295 [122],oM 124 123,gT 124 (oO 125 (.build [z8,z6,zl,zl,zl] [(0,1,(.c (.i .u8 1)))])),gT 124 (oQ 126 295 [125]),oA 127 124 126,oM 128 127,gT 128 (oO 129 (.build [z8,z6,zl,zl,zl] [(0,1,(.c (.i .u8 2))),(1,1,(.c (.i .i64 1)))])),gT 128 (oQ 130 295 [129]),oA 131 128 130,oM 132 131,gT 132 (oM 133 16),gT 132 (oO 134 (.build [z8,z6,zl,zl,zl] [(0,1,(.c (.i .u8 4))),(2,1,(.t 133))])),gT 132 (oQ 135 295 [134]),oA 136 132 135,oM 137 136,gT 137 (oM 138 16),gT 137 (oO 139 (.build [z8,z6,zl,zl,zl] [(0,1,(.c (.i .u8 1))),(1,1,(.c (.i .i64 1))),(2,1,(.t 138))])),gT 137 (oQ 140 295 [139]),oA 141 137 140,oM 142 141,gT 142 (oO 143 (.build [z8,z6,zl,zl,zl] [(0,1,(.c (.i .u8 3))),(1,1,(.c (.i .i64 1)))])),gT 142 (oQ 144 295 [143]),oA 145 142 144,oM 146 145,gT 146 (oM 147 16),gT 146 (oO 148 (.build [z8,z6,zl,zl,zl] [(0,1,(.c (.i .u8 3))),(2,1,(.t 147))])),gT 146 (oQ 149 295 [148]),oA 150 146 149,oM 151 150,gT 151 (oO 152 (.build [z6,z6,zb,z8,z6,zs,zl,zb] [])),gT 151 (oO 153 (.bslice [z6,z6,zb,z8,z6,zs,zl,zb] 1 [(0,(.t 152))])),gT 151 (oO 154 (.build [z8,z6,zl,zl,zl] [(0,1,(.c (.i .u8 3))),(3,1,(.t 153))])),gT 151 (oQ 155 295 [154]),oA 156 151 155,oM 157 156,gT 157 (oO 158 (.build [z7,z8,z6,zs,zl,zb,z7] [(6,1,(.c (.i .u64 2)))])),gT 157 (oO 159 (.bslice [z7,z8,z6,zs,zl,zb,z7] 1 [(0,(.t 158))])),gT 157 (oO 160 (.build [z8,z6,zl,zl,zl] [(0,1,(.c (.i .u8 3))),(4,1,(.t 159))])),gT 157 (oQ 161 295 [160]),oA 162 157 161,oM 163 162,gT 163 (oO 164 (.build [z6,z6,z7,zl] [(1,1,(.c (.i .i64 6)))])),gT 163 (oO 165 (.bslice [z6,z6,z7,zl] 1 [(0,(.t 164))])),gT 163 (oO 166 (.build [z8,z6,zl,zl,zl] [(0,1,(.c (.i .u8 1))),(2,1,(.t 165))])),gT 163 (oQ 167 295 [166]),oA 168 163 167,oM 169 168,gT 169 (oO 170 (.mks [z6,z6,z7,zl] 48 (.c (.i .i64 171)) (.c (.i .i64 171)))),gT 169 (oO 171 (.build [z8,z6,zl,zl,zl] [(0,1,(.c (.i .u8 1))),(2,1,(.t 170))])),gT 169 (oQ 172 295 [171]),oA 173 169 172,oM 174 173,gT 174 (oM 175 16),gT 174 (oO 176 (.build [z6,z6,zb,z8,z6,zs,zl,zb] [(0,1,(.c (.i .i64 1)))])),gT 174 (oO 177 (.bslice [z6,z6,zb,z8,z6,zs,zl,zb] 1 [(0,(.t 176))])),gT 174 (oO 178 (.build [z8,z6,zl,zl,zl] [(0,1,(.c (.i .u8 1))),(2,1,(.t 175)),(3,1,(.t 177))])),gT 174 (oQ 179 295 [178]),oA 180 174 179,oM 181 180,gT 181 (oM 182 16),gT 181 (oO 183 (.build [z6,z6,zb,z8,z6,zs,zl,zb] [(0,1,(.c (.i .i64 (-1))))])),gT 181 (oO 184 (.bslice [z6,z6,zb,z8,z6,zs,zl,zb] 1 [(0,(.t 183))])),gT 181 (oO 185 (.build [z8,z6,zl,zl,zl] [(0,1,(.c (.i .u8 1))),(2,1,(.t 182)),(3,1,(.t 184))])),gT 181 (oQ 186 295 [185]),oA 187 181 186,oM 188 187,gT 188 (oM 189 16),gT 188 (oO 190 (.build [z6,z6,zb,z8,z6,zs,zl,zb] [(1,1,(.c (.i .i64 2)))])),gT 188 (oO 191 (.bslice [z6,z6,zb,z8,z6,zs,zl,zb] 1 [(0,(.t 190))])),gT 188 (oO 192 (.build [z8,z6,zl,zl,zl] [(0,1,(.c (.i .u8 1))),(2,1,(.t 189)),(3,1,(.t 191))])),gT 188 (oQ 193 295 [192]),oA 194 188 193,oM 195 194,gT 195 (oM 196 16),gT 195 (oO 197 (.call false 292 [(.c (.i .i64 0))])),gT 195 (oO 198 (.build [z6,z6,zb,z8,z6,zs,zl,zb] [(3,5,(.t 197))])),gT 195 (oO 199 (.bslice [z6,z6,zb,z8,z6,zs,zl,zb] 1 [(0,(.t 198))])),gT 195 (oO 200 (.build [z8,z6,zl,zl,zl] [(0,1,(.c (.i .u8 1))),(2,1,(.t 196)),(3,1,(.t 199))])),gT 195 (oQ 201 295 [200]),oA 202 195 201,oM 203 202,gT 203 (oM 204 16),gT 203 (oO 205 (.build [z6,z6,zb,z8,z6,zs,zl,zb] [(2,1,(.c (.b true)))])),gT 203 (oO 206 (.bslice [z6,z6,zb,z8,z6,zs,zl,zb] 1 [(0,(.t 205))])),gT 203 (oO 207 (.build [z8,z6,zl,zl,zl] [(0,1,(.c (.i .u8 1))),(2,1,(.t 204)),(3,1,(.t 206))])),gT 203 (oQ 208 295 [207]),oA 209 203 208,oM 210 209,gT 210 (oM 211 16),gT 210 (oO 212 (.build [z8,z6,zs,zl,zb] [(0,1,(.c (.i .u8 3)))])),gT 210 (oO 213 (.build [z6,z6,zb,z8,z6,zs,zl,zb] [(2,1,(.c (.b true))),(3,5,(.t 212))])),gT 210 (oO 214 (.bslice [z6,z6,zb,z8,z6,zs,zl,zb] 1 [(0,(.t 213))])),gT 210 (oO 215 (.build [z8,z6,zl,zl,zl] [(0,1,(.c (.i .u8 1))),(2,1,(.t 211)),(3,1,(.t 214))])),gT 210 (oQ 216 295 [215]),oA 217 210 216,oM 218 217,gT 218 (oM 219 16),gT 218 (oO 220 (.mks [z6,z6,zb,z8,z6,zs,zl,zb] 88 (.c (.i .i64 411)) (.c (.i .i64 411)))),gT 218 (oO 221 (.build [z8,z6,zl,zl,zl] [(0,1,(.c (.i .u8 1))),(2,1,(.t 219)),(3,1,(.t 220))])),gT 218 (oQ 222 295 [221]),oA 223 218 222,oM 224 223,gT 224 (oM 225 16),gT 224 (oO 226 (.build [z7,z8,z6,zs,zl,zb,z7] [])),gT 224 (oO 227 (.bslice [z7,z8,z6,zs,zl,zb,z7] 1 [(0,(.t 226))])),gT 224 (oO 228 (.build [z8,z6,zl,zl,zl] [(0,1,(.c (.i .u8 1))),(2,1,(.t 225)),(4,1,(.t 227))])),gT 224 (oQ 229 295 [228]),oA 230 224 229,oM 19 230] Zy8)
abbrev Ycd:AC:=(sR 16 [oK 112 5 15,oK 113 5 17,oQ 114 294 [],oO 115 (.bslice [z8,z6,zl,zl,zl] 3 [(0,(.t 112)),(1,(.t 113)),(2,(.t 114))]),oO 116 (.build [z8,z6,z6,zl] [(0,1,(.c (.i .u8 3))),(1,1,(.c (.i .i64 (-1)))),(2,1,(.c (.i .i64 5000))),(3,1,(.t 115))]),oO 117 (.call false 293 [(.t 116),(.c (.s [111,117,116,99,111,109,101,32,100,101,97,100,108,111,99,107,44,32,102,97,105,108,105,110,103,32,45,49,44,32,115,116,101,112,115,32,53,48,48,48,10,103,111,114,111,117,116,105,110,101,32,48,58,32,100,111,110,101,10,103,111,114,111,117,116,105,110,101,32,49,58,32,114,101,97,100,121,10,32,32,35,48,32,49,32,34,102,34,32,97,116,32,53,32,112,97,110,105,99,10,32,32,32,32,48,32,34,120,34,32,61,32,57,10,32,32,35,49,32,48,32,34,109,97,105,110,34,32,97,116,32,48,32,101,120,105,116,10,32,32,100,101,102,101,114,32,49,32,48,32,34,109,97,105,110,34,10,32,32,100,101,102,101,114,32,48,32,49,32,34,102,34,32,119,105,116,104,32,38,46,46,46,10,32,32,100,101,102,101,114,32,48,32,48,32,34,109,97,105,110,34,32,119,105,116,104,32,45,49,10,32,32,101,120,105,116,32,97,98,111,114,116,101,100,10,32,32,102,97,117,108,116,32,50,58,32,110,105,108,32,112,111,105,110,116,101,114,32,114,101,99,111,118,101,114,101,100,10,103,111,114,111,117,116,105,110,101,32,50,58,32,98,108,111,99,107,101,100,32,45,51,10,32,32,35,48,32,48,32,34,109,97,105,110,34,32,97,116,32,49,32,99,97,108,108,10,32,32,100,101,102,101,114,32,48,32,49,32,34,102,34,32,119,105,116,104,32,116,114,117,101,10]))]),oM 118 117,gT 118 (oO 119 (.build [z8,z6,z6,zl] [(0,1,(.c (.i .u8 1))),(1,1,(.c (.i .i64 (-1))))])),gT 118 (oO 120 (.call false 293 [(.t 119),(.c (.s [111,117,116,99,111,109,101,32,110,111,114,109,97,108,44,32,102,97,105,108,105,110,103,32,45,49,44,32,115,116,101,112,115,32,48,10]))])),oA 121 118 120,oM 18 121] Yal)
abbrev Yaz:AC:=(.seq (sR 15 [oO 95 (.call false 292 [(.c (.i .i64 9))]),oO 96 (.build [z6,z8,z6,zs,zl,zb] [(1,5,(.t 95))]),oO 97 (.bslice [z6,z8,z6,zs,zl,zb] 1 [(0,(.t 96))]),oO 98 (.build [z6,z6,z7,zl] [(0,1,(.c (.i .i64 1))),(1,1,(.c (.i .i64 5))),(2,1,(.c (.i .u64 2))),(3,1,(.t 97))]),oO 99 (.build [z6,z6,z7,zl] [(2,1,(.c (.i .u64 3)))]),oO 100 (.bslice [z6,z6,z7,zl] 2 [(0,(.t 98)),(1,(.t 99))]),oO 101 (.build [z6,z6,zb,z8,z6,zs,zl,zb] [(0,1,(.c (.i .i64 1)))]),oO 102 (.build [z8,z6,zs,zl,zb] [(0,1,(.c (.i .u8 4))),(4,1,(.c (.b true)))]),oO 103 (.build [z6,z6,zb,z8,z6,zs,zl,zb] [(1,1,(.c (.i .i64 1))),(2,1,(.c (.b true))),(3,5,(.t 102))]),oO 104 (.call false 292 [(.c (.i .i64 (-1)))]),oO 105 (.build [z6,z6,zb,z8,z6,zs,zl,zb] [(2,1,(.c (.b true))),(3,5,(.t 104))]),oO 106 (.bslice [z6,z6,zb,z8,z6,zs,zl,zb] 3 [(0,(.t 101)),(1,(.t 103)),(2,(.t 105))]),oO 107 (.build [z7,z8,z6,zs,zl,zb,z7] [(6,1,(.c (.i .u64 6)))]),oO 108 (.call false 292 [(.c (.i .i64 2))]),oO 109 (.build [z7,z8,z6,zs,zl,zb,z7] [(0,1,(.c (.i .u64 4))),(1,5,(.t 108)),(6,1,(.c (.i .u64 1)))]),oO 110 (.bslice [z7,z8,z6,zs,zl,zb,z7] 2 [(0,(.t 107)),(1,(.t 109))]),oO 111 (.build [z8,z6,zl,zl,zl] [(0,1,(.c (.i .u8 1))),(2,1,(.t 100)),(3,1,(.t 106)),(4,1,(.t 110))]),oO 17 (.alloc [z8,z6,zl,zl,zl]),oS 5 17 111] (.frz 17)) Ycd)
abbrev Ydr:AC:=(sR 14 [oO 93 (.build [z6,z6,z7,zl] []),oO 94 (.bslice [z6,z6,z7,zl] 1 [(0,(.t 93))]),oM 16 94] Yaz)
abbrev Yem:AC:=(.seq (sR 13 [oO 92 (.build [z8,z6,zl,zl,zl] [(0,1,(.c (.i .u8 3)))]),oO 15 (.alloc [z8,z6,zl,zl,zl]),oS 5 15 92] (.frz 15)) Ydr)
abbrev Zx5:AC:=(sR 12 [oO 89 (.call false 211 [(.c (.s [80,97,110,105,99]))]),oM 88 89,oE 90 0 88,oE 91 1 88,oM 13 90,oM 14 91] Yem)
abbrev Yd9:AC:=(sR 11 [oO 85 (.call false 211 [(.c (.s []))]),oM 84 85,oE 86 0 84,oE 87 1 84,oM 11 86,oM 12 87] Zx5)
abbrev Zu6:AC:=(sR 10 [oO 81 (.call false 209 [(.c (.i .u8 9))]),oM 80 81,oE 82 0 80,oE 83 1 80,oM 9 82,oM 10 83] Yd9)
abbrev Zcv:AC:=(sR 9 [oO 77 (.call false 209 [(.c (.i .u8 0))]),oM 76 77,oE 78 0 76,oE 79 1 76,oM 7 78,oM 8 79] Zu6)
abbrev Ybe:AC:=(.seq (sR 2 [oI 2 0] (.block 0 (.loop Zbs))) Zcv)
abbrev Zva:AC:=(sR 1 [oO 35 (.bslice [zs] 8 [(0,(.c (.s [110,111,114,109,97,108]))),(1,(.c (.s [112,97,110,105,99]))),(2,(.c (.s [100,101,97,100,108,111,99,107]))),(3,(.c (.s [115,116,97,99,107]))),(4,(.c (.s [104,101,97,112]))),(5,(.c (.s [114,111,117,116,105,110,101,115]))),(6,(.c (.s [115,116,101,112,115]))),(7,(.c (.s [115,99,114,105,112,116])))]),oM 1 35] Ybe)
abbrev Vi:AC:=(sR 0 [oC 0 (.b false)] Zva)
def In:AF:={ nt:=414,res:=[.tmp 0],fz:=[15,17,33],body:=Vi }
abbrev Zrr (PG:Zb)(d:Nat)(Q:AE->Sl->St->Prop)(cz:LB)(i2:Int):Prop:=
  ∀(σ:Sl)(st:St)(ek:Zm),σ 1=.sl ek (List.map Zt cz)->σ 2=.i .i64 i2->Xd d st.ow ek cz.length->W PG d (.loop Zbs) σ st (Yd 0 (Zv PG d Zcv Q))
abbrev Yai (PG:Zb)(d:Nat)(Q:AE->Sl->St->Prop)(a8:Int)(b10:Int)(c12:Int)(d14:Int)(aj:Int)(ak:Int)(al:List Zg)(am:List Zi)(ao:List Zf)(bp:Bool)(bi:Bool)(aq:Bool)(i21:Int):Prop:=
  ∀(σ:Sl)(st:St),σ 8=.i .i64 a8->σ 10=.i .i64 b10->σ 12=.i .i64 c12->σ 14=.i .i64 d14->σ 15=.fp [.i .u8 aj,.i .i64 ak,.sl .ext (List.map Zg.row al),.sl .ext (List.map Zi.row am),.sl .ext (List.map Zf.row ao)]->σ 18=.b bp->σ 19=.b bi->σ 20=.b aq->σ 21=.i .i64 i21->W PG d (.loop Ay) σ st (Yd 2 (Zv PG d Za4 Q))
def Bq (PG:Zb)(K:Bool->Prop)(P1:Bool->Int->Prop)(a8:Int)(b10:Int)(c12:Int)(d14:Int)(aj:Int)(ak:Int)(al:List Zg)(am:List Zi)(ao:List Zf)(bp:Bool)(bi:Bool)(aq:Bool)(i21:Int)(cu:Zw):Prop:=
  ∃k:Zh,Ze PG 297 [] (k.av)/\∃o j,Ze PG 205 [k.av,cu.av] (.tup [.s o,.i .i64 j])/\(aq=true->∃e:Zh,Ze PG 297 [] (e.av)/\∃c,Ze PG 213 [e.av,cu.av] (.i .i64 c)/\(c=8->P1 (decide (j=8)) (IntKind.i64.wrap (i21+1)))/\(¬(c=8)->P1 false (IntKind.i64.wrap (i21+1))))/\(aq=false->P1 false (IntKind.i64.wrap (i21+1)))
section
variable(PG:Zb)(K:Bool->Prop)
def Zn7 (a8:Int)(b10:Int)(c12:Int)(d14:Int)(bp:Bool)(bi:Bool)(aq:Bool)(cj:Bool)(e28:Int)(f30:Int)(gl:LB)(g32:Int):Prop:=
  ∃c:Zh,Ze PG 297 [] (c.av)/\∃k:Zw,∃j,Ze PG 299 [c.av,.s (Qu 300001 0)] (.tup [k.av,.i .i64 j])/\(a8=2->(b10=2->(c12=12->(d14=12->(bp=true->(bi=true->(aq=true->(cj=true->(e28=2->(f30=2->(g32=0->∃e,Ze PG 29 [.sl .ext (List.map Zt gl),.sl .ext (List.map Zt [([103,111,114,111,117,116,105,110,101,32,49,53,58,32,100,111,110,101]:BS)])] (.b e)/\(e=true->(j=4->Ze PG 290 [] (.b true)/\K true)/\(¬(j=4)->K false))/\(e=false->K false))/\(¬(g32=0)->K false))/\(¬(f30=2)->K false))/\(¬(e28=2)->K false))/\(cj=false->K false))/\(aq=false->K false))/\(bi=false->K false))/\(bp=false->K false))/\(¬(d14=12)->K false))/\(¬(c12=12)->K false))/\(¬(b10=2)->K false))/\(¬(a8=2)->K false)
def Znh (a8:Int)(b10:Int)(c12:Int)(d14:Int)(aj:Int)(ak:Int)(al:List Zg)(am:List Zi)(ao:List Zf)(bp:Bool)(bi:Bool)(aq:Bool)(cj:Bool)(e28:Int)(f30:Int):Prop:=
  ∃j:Zh,Ze PG 297 [] (j.av)/\∃e c,Ze PG 207 [j.av,.i .i64 15,.ag [.i .u8 aj,.i .i64 ak,.sl .ext (List.map Zg.row al),.sl .ext (List.map Zi.row am),.sl .ext (List.map Zf.row ao)]] (.tup [.sl .ext (List.map Zt e),.i .i64 c])/\Zn7 PG K a8 b10 c12 d14 bp bi aq cj e28 f30 e c
def Znk (a8:Int)(b10:Int)(c12:Int)(d14:Int)(aj:Int)(ak:Int)(al:List Zg)(am:List Zi)(ao:List Zf)(bp:Bool)(bi:Bool)(aq:Bool)(cj:Bool)(e28:Int):Prop:=
  ∃e:Zh,Ze PG 297 [] (e.av)/\∃j c,Ze PG 207 [e.av,.i .i64 (-1),.ag [.i .u8 aj,.i .i64 ak,.sl .ext (List.map Zg.row al),.sl .ext (List.map Zi.row am),.sl .ext (List.map Zf.row ao)]] (.tup [.sl .ext (List.map Zt j),.i .i64 c])/\Znh PG K a8 b10 c12 d14 aj ak al am ao bp bi aq cj e28 c
def Zb5 (a8:Int)(b10:Int)(c12:Int)(d14:Int)(aj:Int)(ak:Int)(al:List Zg)(am:List Zi)(ao:List Zf)(bp:Bool)(bi:Bool)(aq:Bool)(cj:Bool):Prop:=
  ∃e:Zh,Ze PG 297 [] (e.av)/\∃j c,Ze PG 207 [e.av,.i .i64 16,.ag [.i .u8 aj,.i .i64 ak,.sl .ext (List.map Zg.row al),.sl .ext (List.map Zi.row am),.sl .ext (List.map Zf.row ao)]] (.tup [.sl .ext (List.map Zt j),.i .i64 c])/\Znk PG K a8 b10 c12 d14 aj ak al am ao bp bi aq cj c
def Zdu (a8:Int)(b10:Int)(c12:Int)(d14:Int)(aj:Int)(ak:Int)(al:List Zg)(am:List Zi)(ao:List Zf)(bp:Bool)(bi:Bool)(aq:Bool):Prop:=
  Ze PG 298 [.s ([]:BS)] (.b true)/\Ze PG 298 [.s ([111,117,116,99,111,109,101,32,112,97,110,105,99,44,32,102,97,105,108,105,110,103,32,48,44,32,115,116,101,112,115,32,49,55]:BS)] (.b true)/\Ze PG 298 [.s ([111,117,116,99,111,109,101,32,112,97,110,105,99,44,32,102,97,105,108,105,110,103,32,48,44,32,115,116,101,112,115,32,49,55,10]:BS)] (.b true)/\Ze PG 298 [.s ([111,117,116,99,111,109,101,32,112,97,110,105,99,44,32,102,97,105,108,105,110,103,32,48,44,32,115,116,101,112,115,32,49,55,10,103,111,114,111,117,116,105,110,101,32,48,58,32,114,101,97,100,121,10]:BS)] (.b true)/\Ze PG 298 [.s ([111,117,116,99,111,109,101,32,112,97,110,105,99,44,32,102,97,105,108,105,110,103,32,48,44,32,115,116,101,112,115,32,49,55,10,103,111,114,111,117,116,105,110,101,32,48,58,32,114,101,97,100,121,10,32,32,35,49,32,48,32,34,109,97,105,110,34,32,97,116,32,52,32,99,97,108,108,10]:BS)] (.b true)/\Ze PG 298 [.s ([111,117,116,99,111,109,101,32,112,97,110,105,99,44,32,102,97,105,108,105,110,103,32,48,44,32,115,116,101,112,115,32,49,55,10,103,111,114,111,117,116,105,110,101,32,48,58,32,114,101,97,100,121,10,32,32,35,48,32,48,32,34,102,34,32,97,116,32,52,32,99,97,108,108,10]:BS)] (.b true)/\Ze PG 298 [.s ([111,117,116,99,111,109,101,32,112,97,110,105,99,44,32,102,97,105,108,105,110,103,32,48,44,32,115,116,101,112,115,32,49,55,10,103,111,114,111,117,116,105,110,101,32,48,58,32,114,101,97,100,121,10,35,48,32,48,32,34,109,97,105,110,34,32,97,116,32,52,32,99,97,108,108,10]:BS)] (.b true)/\Ze PG 298 [.s ([111,117,116,99,111,109,101,32,112,97,110,105,99,44,32,102,97,105,108,105,110,103,32,48,44,32,115,116,101,112,115,32,49,55,10,103,111,114,111,117,116,105,110,101,32,48,58,32,114,101,97,100,121,10,32,32,35,48,32,48,32,34,109,97,105,110,34,32,97,116,32,52,32,99,97,108,108,10,32,32,112,97,110,105,99,32,53,10,32,32,35,49,32,48,32,34,109,97,105,110,34,32,97,116,32,52,32,99,97,108,108,10]:BS)] (.b true)/\Ze PG 298 [.s ([111,117,116,99,111,109,101,32,112,97,110,105,99,44,32,102,97,105,108,105,110,103,32,48,44,32,115,116,101,112,115,32,49,55,10,103,111,114,111,117,116,105,110,101,32,48,58,32,114,101,97,100,121,10,32,32,35,48,32,48,32,34,109,97,105,110,34,32,97,116,32,52,32,99,97,108,108,10,32,32,112,97,110,105,99,32,53,10,32,32,100,101,102,101,114,32,48,32,48,32,34,109,97,105,110,34,10]:BS)] (.b true)/\Ze PG 298 [.s ([111,117,116,99,111,109,101,32,112,97,110,105,99,44,32,102,97,105,108,105,110,103,32,48,44,32,115,116,101,112,115,32,49,55,10,103,111,114,111,117,116,105,110,101,32,48,58,32,114,101,97,100,121,10,32,32,35,48,32,48,32,34,109,97,105,110,34,32,97,116,32,52,32,99,97,108,108,10,32,32,100,101,102,101,114,32,48,32,48,32,34,109,97,105,110,34,32,119,105,116,104,10]:BS)] (.b true)/\Ze PG 298 [.s ([111,117,116,99,111,109,101,32,112,97,110,105,99,44,32,102,97,105,108,105,110,103,32,48,44,32,115,116,101,112,115,32,49,55,10,103,111,114,111,117,116,105,110,101,32,48,58,32,114,101,97,100,121,10,32,32,35,48,32,48,32,34,109,97,105,110,34,32,97,116,32,52,32,99,97,108,108,10,32,32,100,101,102,101,114,32,48,32,49,32,34,109,97,105,110,34,10]:BS)] (.b true)/\Ze PG 298 [.s ([111,117,116,99,111,109,101,32,112,97,110,105,99,44,32,102,97,105,108,105,110,103,32,48,44,32,115,116,101,112,115,32,49,55,10,103,111,114,111,117,116,105,110,101,32,48,58,32,114,101,97,100,121,10,32,32,35,48,32,48,32,34,109,97,105,110,34,32,97,116,32,52,32,99,97,108,108,10,103,111,114,111,117,116,105,110,101,32,50,58,32,100,111,110,101,10]:BS)] (.b true)/\Ze PG 298 [.s ([111,117,116,99,111,109,101,32,112,97,110,105,99,44,32,102,97,105,108,105,110,103,32,48,44,32,115,116,101,112,115,32,49,55,10,103,111,114,111,117,116,105,110,101,32,48,58,32,114,101,97,100,121,10,32,32,35,48,32,48,32,34,109,97,105,110,34,32,97,116,32,52,32,99,97,108,108,10,103,111,114,111,117,116,105,110,101,32,49,58,32,98,108,111,99,107,101,100,10]:BS)] (.b true)/\Ze PG 298 [.s ([103,111,114,111,117,116,105,110,101,32,48,58,32,100,111,110,101,10]:BS)] (.b true)/\Ze PG 298 [.s ([111,117,116,99,111,109,101,32,112,97,110,105,99,44,32,102,97,105,108,105,110,103,32,45,49,44,32,115,116,101,112,115,32,48,49,55,10]:BS)] (.b true)/\Ze PG 298 [.s ([111,117,116,99,111,109,101,32,112,97,110,105,99,44,32,102,97,105,108,105,110,103,32,45,49,44,32,115,116,101,112,115,32,49,55,32,10]:BS)] (.b true)/\Ze PG 298 [.s ([111,117,116,99,111,109,101,32,112,97,110,105,99,44,32,102,97,105,108,105,110,103,32,45,49,44,32,115,116,101,112,115,32,49,55,10,10]:BS)] (.b true)/\Ze PG 298 [.s ([111,117,116,99,111,109,101,32,112,97,110,105,99,44,32,102,97,105,108,105,110,103,32,45,49,44,32,115,116,101,112,115,32,49,55,10,32,32,35,48,32,48,32,34,109,97,105,110,34,32,97,116,32,52,32,99,97,108,108,10]:BS)] (.b true)/\Zb5 PG K a8 b10 c12 d14 aj ak al am ao bp bi aq true
def Bu (P1:Bool->Int->Prop)(a8:Int)(b10:Int)(c12:Int)(d14:Int)(aj:Int)(ak:Int)(al:List Zg)(am:List Zi)(ao:List Zf)(bp:Bool)(bi:Bool)(aq:Bool)(i21:Int):Prop:=
  (i21<7->∃c:Zw,Ze PG 296 [] (c.av)/\(i21=0->Bq PG K P1 a8 b10 c12 d14 aj ak al am ao bp bi aq i21 (Zw.mk 0 c.failing c.steps c.routines))/\(¬(i21=0)->(i21=1->Bq PG K P1 a8 b10 c12 d14 aj ak al am ao bp bi aq i21 (Zw.mk 9 c.failing c.steps c.routines))/\(¬(i21=1)->(i21=2->Bq PG K P1 a8 b10 c12 d14 aj ak al am ao bp bi aq i21 (Zw.mk c.outcome 1 c.steps c.routines))/\(¬(i21=2)->(i21=3->Bq PG K P1 a8 b10 c12 d14 aj ak al am ao bp bi aq i21 (Zw.mk c.outcome (-2) c.steps c.routines))/\(¬(i21=3)->(i21=4->Bq PG K P1 a8 b10 c12 d14 aj ak al am ao bp bi aq i21 (Zw.mk c.outcome c.failing 5001 c.routines))/\(¬(i21=4)->(i21=5->Bq PG K P1 a8 b10 c12 d14 aj ak al am ao bp bi aq i21 (Zw.mk c.outcome c.failing (-1) c.routines))/\(¬(i21=5)->(i21=6->Bq PG K P1 a8 b10 c12 d14 aj ak al am ao bp bi aq i21 (Zw.mk c.outcome c.failing c.steps (Qu 17 Nj)))/\(¬(i21=6)->Bq PG K P1 a8 b10 c12 d14 aj ak al am ao bp bi aq i21 c))))))))/\(¬(i21<7)->Zdu PG K a8 b10 c12 d14 aj ak al am ao bp bi aq)
def Zh5 (a8:Int)(b10:Int)(c12:Int)(d14:Int)(aj:Int)(ak:Int)(al:List Zg)(am:List Zi)(ao:List Zf)(bp:Bool)(bi:Bool)(aq:Bool):Prop:=
  ∀P1:Bool->Int->Prop,(∀(aq:Bool)(i21:Int),Bu PG K P1 a8 b10 c12 d14 aj ak al am ao bp bi aq i21->P1 aq i21)->P1 aq 0
def Zck (a8:Int)(b10:Int)(c12:Int)(d14:Int)(aj:Int)(ak:Int)(al:List Zg)(am:List Zi)(ao:List Zf)(bp:Bool)(bi:Bool):Prop:=
  Zh5 PG K a8 b10 c12 d14 aj ak al am ao bp bi true
def Zf5 (a8:Int)(b10:Int)(c12:Int)(d14:Int)(aj:Int)(ak:Int)(al:List Zg)(am:List Zi)(ao:List Zf)(cr:List Zg)(bp:Bool):Prop:=
  Ze PG 295 [.ag [.i .u8 0,.i .i64 0,.sl .ext (List.map Zg.row ([]:List Zg)),.sl .ext (List.map Zi.row ([]:List Zi)),.sl .ext (List.map Zf.row ([]:List Zf))]] (.b true)/\Ze PG 295 [.ag [.i .u8 1,.i .i64 0,.sl .ext (List.map Zg.row ([]:List Zg)),.sl .ext (List.map Zi.row ([]:List Zi)),.sl .ext (List.map Zf.row ([]:List Zf))]] (.b true)/\Ze PG 295 [.ag [.i .u8 2,.i .i64 1,.sl .ext (List.map Zg.row ([]:List Zg)),.sl .ext (List.map Zi.row ([]:List Zi)),.sl .ext (List.map Zf.row ([]:List Zf))]] (.b true)/\Ze PG 295 [.ag [.i .u8 4,.i .i64 0,.sl .ext (List.map Zg.row cr),.sl .ext (List.map Zi.row ([]:List Zi)),.sl .ext (List.map Zf.row ([]:List Zf))]] (.b true)/\Ze PG 295 [.ag [.i .u8 1,.i .i64 1,.sl .ext (List.map Zg.row cr),.sl .ext (List.map Zi.row ([]:List Zi)),.sl .ext (List.map Zf.row ([]:List Zf))]] (.b true)/\Ze PG 295 [.ag [.i .u8 3,.i .i64 1,.sl .ext (List.map Zg.row ([]:List Zg)),.sl .ext (List.map Zi.row ([]:List Zi)),.sl .ext (List.map Zf.row ([]:List Zf))]] (.b true)/\Ze PG 295 [.ag [.i .u8 3,.i .i64 0,.sl .ext (List.map Zg.row cr),.sl .ext (List.map Zi.row ([]:List Zi)),.sl .ext (List.map Zf.row ([]:List Zf))]] (.b true)/\Ze PG 295 [.ag [.i .u8 3,.i .i64 0,.sl .ext (List.map Zg.row ([]:List Zg)),.sl .ext (List.map Zi.row [(Zi.mk 0 0 false (Za.mk 0 0 [] ([]:List Za) false))]),.sl .ext (List.map Zf.row ([]:List Zf))]] (.b true)/\Ze PG 295 [.ag [.i .u8 3,.i .i64 0,.sl .ext (List.map Zg.row ([]:List Zg)),.sl .ext (List.map Zi.row ([]:List Zi)),.sl .ext (List.map Zf.row [(Zf.mk 0 (Za.mk 0 0 [] ([]:List Za) false) 2)])]] (.b true)/\Ze PG 295 [.ag [.i .u8 1,.i .i64 0,.sl .ext (List.map Zg.row [(Zg.mk 0 6 0 ([]:List Zy))]),.sl .ext (List.map Zi.row ([]:List Zi)),.sl .ext (List.map Zf.row ([]:List Zf))]] (.b true)/\Ze PG 295 [.ag [.i .u8 1,.i .i64 0,.sl .ext (List.map Zg.row (Qu 171 Zg.zero)),.sl .ext (List.map Zi.row ([]:List Zi)),.sl .ext (List.map Zf.row ([]:List Zf))]] (.b true)/\Ze PG 295 [.ag [.i .u8 1,.i .i64 0,.sl .ext (List.map Zg.row cr),.sl .ext (List.map Zi.row [(Zi.mk 1 0 false (Za.mk 0 0 [] ([]:List Za) false))]),.sl .ext (List.map Zf.row ([]:List Zf))]] (.b true)/\Ze PG 295 [.ag [.i .u8 1,.i .i64 0,.sl .ext (List.map Zg.row cr),.sl .ext (List.map Zi.row [(Zi.mk (-1) 0 false (Za.mk 0 0 [] ([]:List Za) false))]),.sl .ext (List.map Zf.row ([]:List Zf))]] (.b true)/\Ze PG 295 [.ag [.i .u8 1,.i .i64 0,.sl .ext (List.map Zg.row cr),.sl .ext (List.map Zi.row [(Zi.mk 0 2 false (Za.mk 0 0 [] ([]:List Za) false))]),.sl .ext (List.map Zf.row ([]:List Zf))]] (.b true)/\∃c:Za,Ze PG 292 [.i .i64 0] (c.av)/\Ze PG 295 [.ag [.i .u8 1,.i .i64 0,.sl .ext (List.map Zg.row cr),.sl .ext (List.map Zi.row [(Zi.mk 0 0 false c)]),.sl .ext (List.map Zf.row ([]:List Zf))]] (.b true)/\Ze PG 295 [.ag [.i .u8 1,.i .i64 0,.sl .ext (List.map Zg.row cr),.sl .ext (List.map Zi.row [(Zi.mk 0 0 true (Za.mk 0 0 [] ([]:List Za) false))]),.sl .ext (List.map Zf.row ([]:List Zf))]] (.b true)/\Ze PG 295 [.ag [.i .u8 1,.i .i64 0,.sl .ext (List.map Zg.row cr),.sl .ext (List.map Zi.row [(Zi.mk 0 0 true (Za.mk 3 0 [] ([]:List Za) false))]),.sl .ext (List.map Zf.row ([]:List Zf))]] (.b true)/\Ze PG 295 [.ag [.i .u8 1,.i .i64 0,.sl .ext (List.map Zg.row cr),.sl .ext (List.map Zi.row (Qu 411 Zi.zero)),.sl .ext (List.map Zf.row ([]:List Zf))]] (.b true)/\Ze PG 295 [.ag [.i .u8 1,.i .i64 0,.sl .ext (List.map Zg.row cr),.sl .ext (List.map Zi.row ([]:List Zi)),.sl .ext (List.map Zf.row [(Zf.mk 0 (Za.mk 0 0 [] ([]:List Za) false) 0)])]] (.b true)/\Zck PG K a8 b10 c12 d14 aj ak al am ao bp true
def Zlq (a8:Int)(b10:Int)(c12:Int)(d14:Int)(aj:Int)(ak:Int)(al:List Zg)(am:List Zi)(ao:List Zf)(cr:List Zg)(fd:Int)(fe:Int)(fg:List Zg)(fh:List Zi)(fj:List Zf):Prop:=
  ∃c:Zl,Ze PG 294 [] (c.av)/\Ze PG 293 [.ag [.i .u8 3,.i .i64 (-1),.i .i64 5000,.sl .ext (List.map Zl.row [(Zl.mk aj ak al am ao),(Zl.mk fd fe fg fh fj),c])],.s ([111,117,116,99,111,109,101,32,100,101,97,100,108,111,99,107,44,32,102,97,105,108,105,110,103,32,45,49,44,32,115,116,101,112,115,32,53,48,48,48,10,103,111,114,111,117,116,105,110,101,32,48,58,32,100,111,110,101,10,103,111,114,111,117,116,105,110,101,32,49,58,32,114,101,97,100,121,10,32,32,35,48,32,49,32,34,102,34,32,97,116,32,53,32,112,97,110,105,99,10,32,32,32,32,48,32,34,120,34,32,61,32,57,10,32,32,35,49,32,48,32,34,109,97,105,110,34,32,97,116,32,48,32,101,120,105,116,10,32,32,100,101,102,101,114,32,49,32,48,32,34,109,97,105,110,34,10,32,32,100,101,102,101,114,32,48,32,49,32,34,102,34,32,119,105,116,104,32,38,46,46,46,10,32,32,100,101,102,101,114,32,48,32,48,32,34,109,97,105,110,34,32,119,105,116,104,32,45,49,10,32,32,101,120,105,116,32,97,98,111,114,116,101,100,10,32,32,102,97,117,108,116,32,50,58,32,110,105,108,32,112,111,105,110,116,101,114,32,114,101,99,111,118,101,114,101,100,10,103,111,114,111,117,116,105,110,101,32,50,58,32,98,108,111,99,107,101,100,32,45,51,10,32,32,35,48,32,48,32,34,109,97,105,110,34,32,97,116,32,49,32,99,97,108,108,10,32,32,100,101,102,101,114,32,48,32,49,32,34,102,34,32,119,105,116,104,32,116,114,117,101,10]:BS)] (.b true)/\Ze PG 293 [.ag [.i .u8 1,.i .i64 (-1),.i .i64 0,.sl .ext (List.map Zl.row ([]:List Zl))],.s ([111,117,116,99,111,109,101,32,110,111,114,109,97,108,44,32,102,97,105,108,105,110,103,32,45,49,44,32,115,116,101,112,115,32,48,10]:BS)] (.b true)/\Zf5 PG K a8 b10 c12 d14 aj ak al am ao cr true
def Zg1 (a8:Int)(b10:Int)(c12:Int)(d14:Int)(aj:Int)(ak:Int)(al:List Zg)(am:List Zi)(ao:List Zf)(cr:List Zg):Prop:=
  ∃j:Za,Ze PG 292 [.i .i64 9] (j.av)/\∃e:Za,Ze PG 292 [.i .i64 (-1)] (e.av)/\∃c:Za,Ze PG 292 [.i .i64 2] (c.av)/\Zlq PG K a8 b10 c12 d14 aj ak al am ao cr 1 0 [(Zg.mk 1 5 2 [(Zy.mk 0 j)]),(Zg.mk 0 0 3 ([]:List Zy))] [(Zi.mk 1 0 false (Za.mk 0 0 [] ([]:List Za) false)),(Zi.mk 0 1 true (Za.mk 4 0 [] ([]:List Za) true)),(Zi.mk 0 0 true e)] [(Zf.mk 0 (Za.mk 0 0 [] ([]:List Za) false) 6),(Zf.mk 4 c 1)]
def Ziq (a8:Int)(b10:Int)(c12:Int)(d14:Int)(aj:Int)(ak:Int)(al:List Zg)(am:List Zi)(ao:List Zf):Prop:=
  Zg1 PG K a8 b10 c12 d14 aj ak al am ao [(Zg.mk 0 0 0 ([]:List Zy))]
def Zm4 (a8:Int)(b10:Int)(c12:Int)(d14:Int):Prop:=
  Ziq PG K a8 b10 c12 d14 3 0 ([]:List Zg) ([]:List Zi) ([]:List Zf)
def Zpj (a8:Int)(b10:Int)(c12:Int):Prop:=
  ∃e c,Ze PG 211 [.s ([80,97,110,105,99]:BS)] (.tup [.i .u8 e,.i .i64 c])/\Zm4 PG K a8 b10 c12 c
def Zmv (a8:Int)(b10:Int):Prop:=
  ∃e c,Ze PG 211 [.s ([]:BS)] (.tup [.i .u8 e,.i .i64 c])/\Zpj PG K a8 b10 c
def Zps (a8:Int):Prop:=
  ∃e c,Ze PG 209 [.i .u8 9] (.tup [.s e,.i .i64 c])/\Zmv PG K a8 c
def Zes :Prop:=
  ∃e c,Ze PG 209 [.i .u8 0] (.tup [.s e,.i .i64 c])/\Zps PG K c
def Bg (P0:Int->Prop)(cz:LB)(i2:Int):Prop:=
  (i2<8->∃c k,Ze PG 209 [.i .u8 (IntKind.u8.wrap (IntKind.i64.wrap (i2+1)))] (.tup [.s c,.i .i64 k])/\0<=i2/\∃p,cz[(i2).toNat]?=some p/\∃e j,Ze PG 211 [.s p] (.tup [.i .u8 e,.i .i64 j])/\(k≠0->K false)/\(¬(k≠0)->0<=i2/\∃o,cz[(i2).toNat]?=some o/\(c≠o->K false)/\(¬(c≠o)->(j≠0->K false)/\(¬(j≠0)->(e≠(IntKind.u8.wrap (IntKind.i64.wrap (i2+1)))->K false)/\(¬(e≠(IntKind.u8.wrap (IntKind.i64.wrap (i2+1))))->P0 (IntKind.i64.wrap (i2+1)))))))/\(¬(i2<8)->Zes PG K )
def Zom (cz:LB):Prop:=
  ∀P0:Int->Prop,(∀(i2:Int),Bg PG K P0 cz i2->P0 i2)->P0 0
def Zft :Prop:=
  Zom PG K [([110,111,114,109,97,108]:BS),([112,97,110,105,99]:BS),([100,101,97,100,108,111,99,107]:BS),([115,116,97,99,107]:BS),([104,101,97,112]:BS),([114,111,117,116,105,110,101,115]:BS),([115,116,101,112,115]:BS),([115,99,114,105,112,116]:BS)]
def Zj7 :Prop:=
  Zft PG K 
end
section
variable {PG:Zb}{d:Nat}{Q:AE->Sl->St->Prop}{K:Bool->Prop}(hQ:H1 AV.b 0 Q K){σ:Sl}{st:St}
include hQ
variable {a8 b10 c12 d14 aj ak:Int}{al:List Zg}{am:List Zi}{ao:List Zf}{bp bi aq:Bool}{i21:Int}{cu:Zw}{P1:Bool->Int->Prop}{gt:Zm}{iu:Nat}{cj:Bool}{e28 f30:Int}{gl:LB}{g32:Int}{iv:Zm}{cr:List Zg}{ig:Zm}{fd fe:Int}{fg:List Zg}{fh:List Zi}{fj:List Zf}{cz:LB}{i2:Int}{P0:Int->Prop}{ek:Zm}
variable (kP1 :∀(aq:Bool)(i21:Int),P1 aq i21->Yai PG d Q a8 b10 c12 d14 aj ak al am ao bp bi aq i21) (kP0 :∀(i2:Int),P0 i2->Zrr PG d Q cz i2)(H8:σ 8=.i .i64 a8)(H1:σ 1=.sl ek (List.map Zt cz))(H10:σ 10=.i .i64 b10)(H2:σ 2=.i .i64 i2)(H12:σ 12=.i .i64 c12)(A1:Xd d st.ow ek cz.length)(H14:σ 14=.i .i64 d14)(H15:σ 15=.fp [.i .u8 aj,.i .i64 ak,.sl .ext (List.map Zg.row al),.sl .ext (List.map Zi.row am),.sl .ext (List.map Zf.row ao)])(Vs:σ 16=.sl ig (List.map Zg.row cr))(H18:σ 18=.b bp)(H17:σ 17=.fp [.i .u8 fd,.i .i64 fe,.sl .ext (List.map Zg.row fg),.sl .ext (List.map Zi.row fh),.sl .ext (List.map Zf.row fj)])(H19:σ 19=.b bi)(A16:Xd d st.ow ig cr.length)(H20:σ 20=.b aq)(H21:σ 21=.i .i64 i21)(Ge:σ 26=.b cj)(Js:σ 22=.p (d,90113) iu 0)(H28:σ 28=.i .i64 e28)(gx:lk st.bx (d,90113)=some (iu,[.i .u8 cu.outcome,.i .i64 cu.failing,.i .i64 cu.steps,.sl gt (List.map Zl.row cu.routines)]))(Ng:σ 30=.i .i64 f30)(Tw:σ 31=.sl iv (List.map Zt gl))(H32:σ 32=.i .i64 g32)
include kP1 H8 H10 H12 H14 H15 H18 H19 H20 H21 Js gx in
theorem Rj (h:Bq PG K P1 a8 b10 c12 d14 aj ak al am ao bp bi aq i21 cu):W PG d Zz8 σ st (Yd 3 (Zv PG d (.reg 21 Zx1) (Zv PG d (.loop Ay) (Yd 2 (Zv PG d Za4 Q))))):=
 q_ J (h.elim fun _ k=>Ya sn k.1 (l_ Js gx J J (x2 k.2 fun _ _ e=>Ya (Je J J J) e.1 (m_ (x_ J J (x_ J J (m_ (m_ (e_ (W.reg0 J fun _ _=>Xl H20 (Xl J (Uh (g:=275) J (fun j=>Zd J ((e.2.1 j).elim fun _ o=>Ya sn o.1 (Zd J (l_ Js gx J J (Zd J (o.2.elim fun _ c=>Ya (Je J J J) c.1 (Zd J (b_ J J Xc (z_ 2 J (Xa (g:=281) J (fun i=>Zd J (Xf J (Zd J (b_ J J Xc (z_ 2 J (e_ (W.reg0 J fun _ _=>m_ (b_ H21 J Vv (m_ (e_ (kP1 _ _ (c.2.1 i) _ _ H8 H10 H12 H14 H15 H18 H19 J J))))))))))) (fun i=>z_ 4 J (e_ (W.reg0 J fun _ _=>m_ (b_ H21 J Vv (m_ (e_ (kP1 _ _ (c.2.2 i) _ _ H8 H10 H12 H14 H15 H18 H19 J J))))))))))))))))) (fun j=>z_ 10 J (e_ (W.reg0 J fun _ _=>m_ (b_ H21 J Vv (m_ (e_ (kP1 _ _ (e.2.2 j) _ _ H8 H10 H12 H14 H15 H18 H19 J J)))))))))))))))))))
include H8 H10 H12 H14 H18 H19 H20 Ge H28 Ng Tw H32 in
theorem Xcl (h:Zn7 PG K a8 b10 c12 d14 bp bi aq cj e28 f30 gl g32):W PG d Yd2 σ st Q:=
 Zp (Zp (W.reg (h.elim fun _ a0=>Ya sn a0.1 (Zgg (n:=300001) (m:=300001) (f:=Yu) (a:=0) J J J J J (by decide) J ⟨by decide,by decide⟩ (Zdl J (x2 a0.2 fun _ _ c=>Ya (Je J J J) c.1 (m_ (x_ J J (x_ J J (Xo (Yc J (show lk _ (d,196615)=some (_,([.i .u8 0,.i .i64 0,.i .i64 0,.sl .full (List.map Zl.row ([]:List Zl))]:List AV)) from Zj) J J J (m_ (e_ (W.frz J Zj J (q_ J (Xl J (Zd J (Xf H8 (Zd J (b_ J J Xc (z_ 2 J (Xa (g:=366) J (fun e=>Zd J (Xf H10 (Zd J (b_ J J Xc (z_ 2 J (Xa (g:=370) J (fun j=>Zd J (Xf H12 (Zd J (b_ J J Xc (z_ 2 J (Xa (g:=374) J (fun k=>Zd J (Xf H14 (Zd J (b_ J J Xc (z_ 2 J (Xa (g:=378) J (fun o=>Zd J (Xl H18 (z_ 2 J (Uh (g:=381) J (fun p=>Zd J (Xl H19 (z_ 2 J (Uh (g:=384) J (fun q=>Zd J (Xl H20 (z_ 2 J (Uh (g:=387) J (fun r=>Zd J (Xl Ge (z_ 2 J (Uh (g:=390) J (fun s=>Zd J (Xf H28 (Zd J (b_ J J Xc (z_ 2 J (Xa (g:=394) J (fun v=>Zd J (Xf Ng (Zd J (b_ J J Xc (z_ 2 J (Xa (g:=398) J (fun x=>Zd J (Xf H32 (Zd J (b_ J J Xc (z_ 2 J (Xa (g:=402) J (fun z=>Zd J (Yf Tw (Zd J (Xv (f:=Zt) (l:=[([103,111,114,111,117,116,105,110,101,32,49,53,58,32,100,111,110,101]:BS)]) J J (Yo J J J Xp) J (Zd J ((((((((((((c.2.1 e).1 j).1 k).1 o).1 p).1 q).1 r).1 s).1 v).1 x).1 z).elim fun _ u=>Ya (Je J J J) u.1 (z_ 2 J (Uh (g:=407) J (fun w=>Zd J (Xf J (Zd J (b_ J J Xc (z_ 2 J (Xa (g:=411) J (fun y=>Zd J (Ya sn ((u.2.1 w).1 y).1 (z_ 2 J (Zr (hQ J ((u.2.1 w).1 y).2))))) (fun y=>z_ 3 J (Zr (hQ J ((u.2.1 w).2 y)))))))))) (fun w=>z_ 7 J (Zr (hQ J (u.2.2 w)))))))))))) (fun z=>z_ 12 J (Zr (hQ J (((((((((((c.2.1 e).1 j).1 k).1 o).1 p).1 q).1 r).1 s).1 v).1 x).2 z)))))))))) (fun x=>z_ 16 J (Zr (hQ J ((((((((((c.2.1 e).1 j).1 k).1 o).1 p).1 q).1 r).1 s).1 v).2 x)))))))))) (fun v=>z_ 20 J (Zr (hQ J (((((((((c.2.1 e).1 j).1 k).1 o).1 p).1 q).1 r).1 s).2 v)))))))))) (fun s=>z_ 24 J (Zr (hQ J ((((((((c.2.1 e).1 j).1 k).1 o).1 p).1 q).1 r).2 s)))))))) (fun r=>z_ 27 J (Zr (hQ J (((((((c.2.1 e).1 j).1 k).1 o).1 p).1 q).2 r)))))))) (fun q=>z_ 30 J (Zr (hQ J ((((((c.2.1 e).1 j).1 k).1 o).1 p).2 q)))))))) (fun p=>z_ 33 J (Zr (hQ J (((((c.2.1 e).1 j).1 k).1 o).2 p)))))))) (fun o=>z_ 36 J (Zr (hQ J ((((c.2.1 e).1 j).1 k).2 o)))))))))) (fun k=>z_ 40 J (Zr (hQ J (((c.2.1 e).1 j).2 k)))))))))) (fun j=>z_ 44 J (Zr (hQ J ((c.2.1 e).2 j)))))))))) (fun e=>z_ 48 J (Zr (hQ J (c.2.2 e))))))))))))))))))))))))))
include H8 H10 H12 H14 H15 H18 H19 H20 Ge H28 Ng in
theorem Xis (h:Znh PG K a8 b10 c12 d14 aj ak al am ao bp bi aq cj e28 f30):W PG d Zr7 σ st Q:=
 q_ J (h.elim fun _ c=>Ya sn c.1 (Vd H15 J J (x2 c.2 fun _ _ e=>Ya (Tt J J J J) e.1 (m_ (x_ J J (x_ J J (Yf J (m_ (e_ (Xcl hQ H8 H10 H12 H14 H18 H19 H20 Ge H28 Ng J J e.2))))))))))
include H8 H10 H12 H14 H15 H18 H19 H20 Ge H28 in
theorem Yst (h:Znk PG K a8 b10 c12 d14 aj ak al am ao bp bi aq cj e28):W PG d Yd5 σ st Q:=
 q_ J (h.elim fun _ c=>Ya sn c.1 (Vd H15 J J (x2 c.2 fun _ _ e=>Ya (Tt J J J J) e.1 (m_ (x_ J J (x_ J J (Yf J (m_ (e_ (Xis hQ H8 H10 H12 H14 H15 H18 H19 H20 Ge H28 J e.2))))))))))
include H8 H10 H12 H14 H15 H18 H19 H20 Ge in
theorem Xj8 (h:Zb5 PG K a8 b10 c12 d14 aj ak al am ao bp bi aq cj):W PG d Zzh σ st Q:=
 q_ J (h.elim fun _ c=>Ya sn c.1 (Vd H15 J J (x2 c.2 fun _ _ e=>Ya (Tt J J J J) e.1 (m_ (x_ J J (x_ J J (Yf J (m_ (e_ (Yst hQ H8 H10 H12 H14 H15 H18 H19 H20 Ge J e.2))))))))))
include H8 H10 H12 H14 H15 H18 H19 H20 in
theorem Xct (h:Zdu PG K a8 b10 c12 d14 aj ak al am ao bp bi aq):W PG d Za4 σ st Q:=
 q_ J (Ya (Ys J J) h.1 (Xl J (Zd J (Ya (Ys J J) h.2.1 (z_ 2 J (Zd J (Ya (Ys J J) h.2.2.1 (z_ 2 J (Zd J (Ya (Ys J J) h.2.2.2.1 (z_ 2 J (Zd J (Ya (Ys J J) h.2.2.2.2.1 (z_ 2 J (Zd J (Ya (Ys J J) h.2.2.2.2.2.1 (z_ 2 J (Zd J (Ya (Ys J J) h.2.2.2.2.2.2.1 (z_ 2 J (Zd J (Ya (Ys J J) h.2.2.2.2.2.2.2.1 (z_ 2 J (Zd J (Ya (Ys J J) h.2.2.2.2.2.2.2.2.1 (z_ 2 J (Zd J (Ya (Ys J J) h.2.2.2.2.2.2.2.2.2.1 (z_ 2 J (Zd J (Ya (Ys J J) h.2.2.2.2.2.2.2.2.2.2.1 (z_ 2 J (Zd J (Ya (Ys J J) h.2.2.2.2.2.2.2.2.2.2.2.1 (z_ 2 J (Zd J (Ya (Ys J J) h.2.2.2.2.2.2.2.2.2.2.2.2.1 (z_ 2 J (Zd J (Ya (Ys J J) h.2.2.2.2.2.2.2.2.2.2.2.2.2.1 (z_ 2 J (Zd J (Ya (Ys J J) h.2.2.2.2.2.2.2.2.2.2.2.2.2.2.1 (z_ 2 J (Zd J (Ya (Ys J J) h.2.2.2.2.2.2.2.2.2.2.2.2.2.2.2.1 (z_ 2 J (Zd J (Ya (Ys J J) h.2.2.2.2.2.2.2.2.2.2.2.2.2.2.2.2.1 (z_ 2 J (Zd J (Ya (Ys J J) h.2.2.2.2.2.2.2.2.2.2.2.2.2.2.2.2.2.1 (z_ 2 J (e_ (Xj8 hQ H8 H10 H12 H14 H15 H18 H19 H20 J h.2.2.2.2.2.2.2.2.2.2.2.2.2.2.2.2.2.2)))))))))))))))))))))))))))))))))))))))))))))))))))))))
include kP1 H8 H10 H12 H14 H15 H18 H19 H20 H21 in
theorem Xf3 (h:Bu PG K P1 a8 b10 c12 d14 aj ak al am ao bp bi aq i21):W PG d Ay σ st (Zv PG d (.loop Ay) (Yd 2 (Zv PG d Za4 Q))):=
 Zp (q_ J (m_ (b_ H21 J Vc (e_ (Yk J (fun s=>Yg (Zp (Yn (Zp (W.reg ((h.1 s).elim fun c e=>Ya sn e.1 (Xo (Yc J (show lk _ (d,90113)=some (_,([.i .u8 0,.i .i64 0,.i .i64 0,.sl .full (List.map Zl.row ([]:List Zl))]:List AV)) from Zj) J J J (e_ (Zp (q_ J (m_ (e_ (Yn (q_ J (b_ H21 J Xc (m_ (e_ (Yk J (fun j=>W.reg0 J fun _ _=>f_ J (Yc J Zj J J J (e_ (Rj (cu:=(Zw.mk 0 c.failing c.steps c.routines)) hQ kP1 H8 H10 H12 H14 H15 H18 H19 H20 H21 J Zj (e.2.1 j))))) (fun j=>q_ J (b_ H21 J Xc (m_ (e_ (Yk J (fun k=>W.reg0 J fun _ _=>f_ J (Yc J Zj J J J (e_ (Rj (cu:=(Zw.mk 9 c.failing c.steps c.routines)) hQ kP1 H8 H10 H12 H14 H15 H18 H19 H20 H21 J Zj ((e.2.2 j).1 k))))) (fun k=>q_ J (b_ H21 J Xc (m_ (e_ (Yk J (fun o=>W.reg0 J fun _ _=>f_ J (Yc J Zj J J J (e_ (Rj (cu:=(Zw.mk c.outcome 1 c.steps c.routines)) hQ kP1 H8 H10 H12 H14 H15 H18 H19 H20 H21 J Zj (((e.2.2 j).2 k).1 o))))) (fun o=>q_ J (b_ H21 J Xc (m_ (e_ (Yk J (fun p=>W.reg0 J fun _ _=>f_ J (Yc J Zj J J J (e_ (Rj (cu:=(Zw.mk c.outcome (-2) c.steps c.routines)) hQ kP1 H8 H10 H12 H14 H15 H18 H19 H20 H21 J Zj ((((e.2.2 j).2 k).2 o).1 p))))) (fun p=>q_ J (b_ H21 J Xc (m_ (e_ (Yk J (fun q=>W.reg0 J fun _ _=>f_ J (Yc J Zj J J J (e_ (Rj (cu:=(Zw.mk c.outcome c.failing 5001 c.routines)) hQ kP1 H8 H10 H12 H14 H15 H18 H19 H20 H21 J Zj (((((e.2.2 j).2 k).2 o).2 p).1 q))))) (fun q=>q_ J (b_ H21 J Xc (m_ (e_ (Yk J (fun r=>W.reg0 J fun _ _=>f_ J (Yc J Zj J J J (e_ (Rj (cu:=(Zw.mk c.outcome c.failing (-1) c.routines)) hQ kP1 H8 H10 H12 H14 H15 H18 H19 H20 H21 J Zj ((((((e.2.2 j).2 k).2 o).2 p).2 q).1 r))))) (fun r=>q_ J (b_ H21 J Xc (m_ (e_ (Yk J (fun u=>W.hand (Yns J Zj J Xhc) (Rj (cu:=(Zw.mk c.outcome c.failing c.steps (Qu 17 Nj))) hQ kP1 H8 H10 H12 H14 H15 H18 H19 H20 H21 J Zj (((((((e.2.2 j).2 k).2 o).2 p).2 q).2 r).1 u))) (fun u=>Yg (Rj hQ kP1 H8 H10 H12 H14 H15 H18 H19 H20 H21 J Zj (((((((e.2.2 j).2 k).2 o).2 p).2 q).2 r).2 u)))))))))))))))))))))))))))))))))))))))))))))))))))) (fun s=>Jm (Xct hQ H8 H10 H12 H14 H15 H18 H19 H20 (h.2 s))))))))
include H8 H10 H12 H14 H15 H18 H19 H20 in
theorem Yzk (h:Zh5 PG K a8 b10 c12 d14 aj ak al am ao bp bi aq):W PG d Yds σ st Q:=
 Zp (q_ J (m_ (e_ (Yn (h (Yai PG d Q a8 b10 c12 d14 aj ak al am ao bp bi) (fun _ _ hb _ _ H8 H10 H12 H14 H15 H18 H19 H20 H21=>W.loop (Xf3 hQ (fun _ _ x=>x) H8 H10 H12 H14 H15 H18 H19 H20 H21 hb)) _ _ H8 H10 H12 H14 H15 H18 H19 H20 J)))))
include H8 H10 H12 H14 H15 H18 H19 in
theorem Ymz (h:Zck PG K a8 b10 c12 d14 aj ak al am ao bp bi):W PG d Zy8 σ st Q:=
 q_ J (m_ (e_ (Yzk hQ H8 H10 H12 H14 H15 H18 H19 J h)))
include H8 H10 H12 H14 H15 Vs H18 A16 in
theorem Yny (h:Zf5 PG K a8 b10 c12 d14 aj ak al am ao cr bp):W PG d Yal σ st Q:=
 q_ J (Yi Yh (Ya (Ys J J) h.1 (Xl J (Zd J (Yi (Xw J Yh) (Zd J (Ya (Ys J J) h.2.1 (z_ 2 J (Zd J (Yi (Xw J (Xw J Yh)) (Zd J (Ya (Ys J J) h.2.2.1 (z_ 2 J (Zd J (Yf Vs (Zd J (Yi (Xw J (Jn J J Yh)) (Zd J (Ya (Ys J J) h.2.2.2.1 (z_ 2 J (Zd J (Yf Vs (Zd J (Yi (Xw J (Xw J (Jn J J Yh))) (Zd J (Ya (Ys J J) h.2.2.2.2.1 (z_ 2 J (Zd J (Yi (Xw J (Xw J Yh)) (Zd J (Ya (Ys J J) h.2.2.2.2.2.1 (z_ 2 J (Zd J (Yf Vs (Zd J (Yi (Xw J (Jn J J Yh)) (Zd J (Ya (Ys J J) h.2.2.2.2.2.2.1 (z_ 2 J (Zd J (Yi Yh (Zd J (Xv (f:=Zi.row) (l:=[(Zi.mk 0 0 false (Za.mk 0 0 [] ([]:List Za) false))]) J J (Yo J J J Xp) (by simp only [kT,jQ,Zi.row_eq];rfl) (Zd J (Yi (Xw J (Jn J J Yh)) (Zd J (Ya (Ys J J) h.2.2.2.2.2.2.2.1 (z_ 2 J (Zd J (Yi (Xw J Yh) (Zd J (Xv (f:=Zf.row) (l:=[(Zf.mk 0 (Za.mk 0 0 [] ([]:List Za) false) 2)]) J J (Yo J J J Xp) (by simp only [kT,jQ,Zf.row_eq];rfl) (Zd J (Yi (Xw J (Jn J J Yh)) (Zd J (Ya (Ys J J) h.2.2.2.2.2.2.2.2.1 (z_ 2 J (Zd J (Yi (Xw J Yh) (Zd J (Xv (f:=Zg.row) (l:=[(Zg.mk 0 6 0 ([]:List Zy))]) J J (Yo J J J Xp) (by simp only [kT,jQ,Zg.row_eq];rfl) (Zd J (Yi (Xw J (Jn J J Yh)) (Zd J (Ya (Ys J J) h.2.2.2.2.2.2.2.2.2.1 (z_ 2 J (Zd J (Zgg (n:=171) (m:=171) (f:=Zg.row) (a:=Zg.zero) J J J J J (by decide) J ⟨by decide,by decide⟩ (Zd J (Yi (Xw J (Jn J J Yh)) (Zd J (Ya (Ys J J) h.2.2.2.2.2.2.2.2.2.2.1 (z_ 2 J (Zd J (Yf Vs (Zd J (Yi (Xw J Yh) (Zd J (Xv (f:=Zi.row) (l:=[(Zi.mk 1 0 false (Za.mk 0 0 [] ([]:List Za) false))]) J J (Yo J J J Xp) (by simp only [kT,jQ,Zi.row_eq];rfl) (Zd J (Yi (Xw J (Jn J J (Jn J J Yh))) (Zd J (Ya (Ys J J) h.2.2.2.2.2.2.2.2.2.2.2.1 (z_ 2 J (Zd J (Yf Vs (Zd J (Yi (Xw J Yh) (Zd J (Xv (f:=Zi.row) (l:=[(Zi.mk (-1) 0 false (Za.mk 0 0 [] ([]:List Za) false))]) J J (Yo J J J Xp) (by simp only [kT,jQ,Zi.row_eq];rfl) (Zd J (Yi (Xw J (Jn J J (Jn J J Yh))) (Zd J (Ya (Ys J J) h.2.2.2.2.2.2.2.2.2.2.2.2.1 (z_ 2 J (Zd J (Yf Vs (Zd J (Yi (Xw J Yh) (Zd J (Xv (f:=Zi.row) (l:=[(Zi.mk 0 2 false (Za.mk 0 0 [] ([]:List Za) false))]) J J (Yo J J J Xp) (by simp only [kT,jQ,Zi.row_eq];rfl) (Zd J (Yi (Xw J (Jn J J (Jn J J Yh))) (Zd J (Ya (Ys J J) h.2.2.2.2.2.2.2.2.2.2.2.2.2.1 (z_ 2 J (Zd J (Yf Vs (Zd J (h.2.2.2.2.2.2.2.2.2.2.2.2.2.2.elim fun e c=>Ya (Ys J J) c.1 (Zd J (Yi (Fm J J Yh) (Zd J (Xv (f:=Zi.row) (l:=[(Zi.mk 0 0 false e)]) J J (Yo J J J Xp) (by simp only [kT,jQ,Zi.row_eq];rfl) (Zd J (Yi (Xw J (Jn J J (Jn J J Yh))) (Zd J (Ya (Ys J J) c.2.1 (z_ 2 J (Zd J (Yf Vs (Zd J (Yi (Xw J Yh) (Zd J (Xv (f:=Zi.row) (l:=[(Zi.mk 0 0 true (Za.mk 0 0 [] ([]:List Za) false))]) J J (Yo J J J Xp) (by simp only [kT,jQ,Zi.row_eq];rfl) (Zd J (Yi (Xw J (Jn J J (Jn J J Yh))) (Zd J (Ya (Ys J J) c.2.2.1 (z_ 2 J (Zd J (Yf Vs (Zd J (Yi (Xw J Yh) (Zd J (Yi (Xw J (Fm J J Yh)) (Zd J (Xv (f:=Zi.row) (l:=[(Zi.mk 0 0 true (Za.mk 3 0 [] ([]:List Za) false))]) J J (Yo J J J Xp) (by simp only [kT,jQ,Zi.row_eq];rfl) (Zd J (Yi (Xw J (Jn J J (Jn J J Yh))) (Zd J (Ya (Ys J J) c.2.2.2.1 (z_ 2 J (Zd J (Yf Vs (Zd J (Zgg (n:=411) (m:=411) (f:=Zi.row) (a:=Zi.zero) J J J J J (by decide) J ⟨by decide,by decide⟩ (Zd J (Yi (Xw J (Jn J J (Jn J J Yh))) (Zd J (Ya (Ys J J) c.2.2.2.2.1 (z_ 2 J (Zd J (Yf Vs (Zd J (Yi Yh (Zd J (Xv (f:=Zf.row) (l:=[(Zf.mk 0 (Za.mk 0 0 [] ([]:List Za) false) 0)]) J J (Yo J J J Xp) (by simp only [kT,jQ,Zf.row_eq];rfl) (Zd J (Yi (Xw J (Jn J J (Jn J J Yh))) (Zd J (Ya (Ys J J) c.2.2.2.2.2.1 (z_ 2 J (e_ (Ymz hQ H8 H10 H12 H14 H15 H18 J c.2.2.2.2.2.2)))))))))))))))))))))))))))))))))))))))))))))))))))))))))))))))))))))))))))))))))))))))))))))))))))))))))))))))))))))))))))))))))))))))))))))))))))))))))))))))))))))
include H8 H10 H12 H14 H15 Vs H17 A16 in
theorem Xit (h:Zlq PG K a8 b10 c12 d14 aj ak al am ao cr fd fe fg fh fj):W PG d Ycd σ st Q:=
 q_ J (Vd H15 J J (Vd H17 J J (h.elim fun e c=>Ya sn c.1 (Xv (f:=Zl.row) (l:=[(Zl.mk aj ak al am ao),(Zl.mk fd fe fg fh fj),e]) J J (Yo J J J (Yo J J J (Yo J J J Xp))) (by simp only [kT,jQ,Zl.row_eq];rfl) (Yi (Xw J (Xw J (Xw J (Jn J J Yh)))) (Ya (Je J J J) c.2.1 (Xl J (Zd J (Yi (Xw J (Xw J Yh)) (Zd J (Ya (Je J J J) c.2.2.1 (z_ 2 J (e_ (Yny hQ H8 H10 H12 H14 H15 Vs J A16 c.2.2.2))))))))))))))
include H8 H10 H12 H14 H15 Vs A16 in
theorem Yjx (h:Zg1 PG K a8 b10 c12 d14 aj ak al am ao cr):W PG d Yaz σ st Q:=
 Zp (Zp (W.reg (h.elim fun k c=>Ya (Ys J J) c.1 (Yi (Fm J J Yh) (Xv (f:=Zy.row) (l:=[(Zy.mk 0 k)]) J J (Yo J J J Xp) (by simp only [kT,jQ,Zy.row_eq];rfl) (Yi (Xw J (Xw J (Xw J (Jn J J Yh)))) (Yi (Xw J Yh) (Xv (f:=Zg.row) (l:=[(Zg.mk 1 5 2 [(Zy.mk 0 k)]),(Zg.mk 0 0 3 ([]:List Zy))]) J J (Yo J J J (Yo J J J Xp)) (by simp only [kT,jQ,Zg.row_eq];rfl) (Yi (Xw J Yh) (Yi (Xw J (Xw J Yh)) (Yi (Xw J (Xw J (Fm J J Yh))) (c.2.elim fun o e=>Ya (Ys J J) e.1 (Yi (Xw J (Fm J J Yh)) (Xv (f:=Zi.row) (l:=[(Zi.mk 1 0 false (Za.mk 0 0 [] ([]:List Za) false)),(Zi.mk 0 1 true (Za.mk 4 0 [] ([]:List Za) true)),(Zi.mk 0 0 true o)]) J J (Yo J J J (Yo J J J (Yo J J J Xp))) (by simp only [kT,jQ,Zi.row_eq];rfl) (Yi (Xw J Yh) (e.2.elim fun p j=>Ya (Ys J J) j.1 (Yi (Xw J (Fm J J (Xw J Yh))) (Xv (f:=Zf.row) (l:=[(Zf.mk 0 (Za.mk 0 0 [] ([]:List Za) false) 6),(Zf.mk 4 p 1)]) J J (Yo J J J (Yo J J J Xp)) (by simp only [kT,jQ,Zf.row_eq];rfl) (Yi (Xw J (Jn J J (Jn J J (Jn J J Yh)))) (Xo (Yc J (show lk _ (d,61457)=some (_,([.i .u8 0,.i .i64 0,.sl .full (List.map Zg.row ([]:List Zg)),.sl .full (List.map Zi.row ([]:List Zi)),.sl .full (List.map Zf.row ([]:List Zf))]:List AV)) from Zj) J J J (e_ (W.frz J Zj J (Xit hQ H8 H10 H12 H14 H15 Vs J A16 j.2))))))))))))))))))))))))
include H8 H10 H12 H14 H15 in
theorem Yul (h:Ziq PG K a8 b10 c12 d14 aj ak al am ao):W PG d Ydr σ st Q:=
 q_ J (Yi Yh (Xv (f:=Zg.row) (l:=[(Zg.mk 0 0 0 ([]:List Zy))]) J J (Yo J J J Xp) (by simp only [kT,jQ,Zg.row_eq];rfl) (Yf J (e_ (Yjx hQ H8 H10 H12 H14 H15 J Xd.full h)))))
include H8 H10 H12 H14 in
theorem Yj8 (h:Zm4 PG K a8 b10 c12 d14):W PG d Yem σ st Q:=
 Zp (Zp (W.reg (Yi (Xw J Yh) (Xo (Yc J (show lk _ (d,53249)=some (_,([.i .u8 0,.i .i64 0,.sl .full (List.map Zg.row ([]:List Zg)),.sl .full (List.map Zi.row ([]:List Zi)),.sl .full (List.map Zf.row ([]:List Zf))]:List AV)) from Zj) J J J (e_ (W.frz J Zj J (Yul hQ H8 H10 H12 H14 J h))))))))
include H8 H10 H12 in
theorem Ymd (h:Zpj PG K a8 b10 c12):W PG d Zx5 σ st Q:=
 q_ J (x2 h fun _ _ c=>Ya (Ys J J) c.1 (m_ (x_ J J (x_ J J (m_ (m_ (e_ (Yj8 hQ H8 H10 H12 J c.2))))))))
include H8 H10 in
theorem Ysi (h:Zmv PG K a8 b10):W PG d Yd9 σ st Q:=
 q_ J (x2 h fun _ _ c=>Ya (Ys J J) c.1 (m_ (x_ J J (x_ J J (m_ (m_ (e_ (Ymd hQ H8 H10 J c.2))))))))
include H8 in
theorem Yjg (h:Zps PG K a8):W PG d Zu6 σ st Q:=
 q_ J (x2 h fun _ _ c=>Ya (Ys J J) c.1 (m_ (x_ J J (x_ J J (m_ (m_ (e_ (Ysi hQ H8 J c.2))))))))
theorem Yof (h:Zes PG K ):W PG d Zcv σ st Q:=
 q_ J (x2 h fun _ _ c=>Ya (Ys J J) c.1 (m_ (x_ J J (x_ J J (m_ (m_ (e_ (Yjg hQ J c.2))))))))
include kP0 H1 H2 A1 in
theorem Yfb (h:Bg PG K P0 cz i2):W PG d Zbs σ st (Zv PG d (.loop Zbs) (Yd 0 (Zv PG d Zcv Q))):=
 Zp (q_ J (m_ (b_ H2 J Vc (e_ (Yk J (fun p=>Yg (Zp (Yn (q_ J (m_ (b_ H2 J Vv (Cn J (x2 (h.1 p) fun _ _ o=>Ya (Ys J J) o.1 (m_ (x_ J J (x_ J J (m_ (m_ (e_ (q_ J (Yf H1 (m_ (o.2.2.elim fun _ r=>Vx J H2 o.2.1 r.1 J J (Vd J J J (x2 r.2 fun _ _ i=>Ya (Ys J J) i.1 (m_ (x_ J J (x_ J J (m_ (m_ (e_ (q_ J (Xf J (b_ J J Jc (Xl J (Xa (g:=57) J (fun j=>z_ 18 J (e_ (Xj J (q_ J (m_ (Zr (hQ J (i.2.1 j)))))))) (fun j=>Zd J (Hw J (Zd J (Yf H1 (Zd J (Xf H2 (Zd J ((i.2.2 j).2.elim fun _ c=>Vx J J (i.2.2 j).1 c.1 J J (Zd J (Vd J J J (Zd J (b_ J J Sm (z_ 2 J (Xa (g:=65) J (fun e=>z_ 10 J (e_ (Xj J (q_ J (m_ (Zr (hQ J (c.2.1 e)))))))) (fun e=>Zd J (Xf J (Zd J (b_ J J Jc (z_ 2 J (Xa (g:=69) J (fun k=>z_ 6 J (e_ (Xj J (q_ J (m_ (Zr (hQ J ((c.2.2 e).1 k)))))))) (fun k=>Zd J (Xf J (Zd J (Xf H2 (Zd J (b_ J J Vv (Zd J (Cn J (Zd J (b_ J J Jc (Jp J J (e_ (Yk J (fun q=>q_ J (m_ (Zr (hQ J (((c.2.2 e).2 k).1 q))))) (fun q=>Yg (W.reg0 J fun _ _=>m_ (b_ H2 J Vv (m_ (e_ (kP0 _ (((c.2.2 e).2 k).2 q) _ _ _ H1 J A1)))))))))))))))))))))))))))))))))))))))))))))))))))))))))))))))))))))) (fun p=>Jm (Yof hQ (h.2 p))))))))
include H1 A1 in
theorem Xgx (h:Zom PG K cz):W PG d Ybe σ st Q:=
 Zp (q_ J (m_ (e_ (Yn (h (Zrr PG d Q cz) (fun _ hb _ _ _ H1 H2 A1=>W.loop (Yfb hQ (fun _ x=>x) H1 H2 A1 hb)) _ _ _ H1 J A1)))))
theorem Ypd (h:Zft PG K ):W PG d Zva σ st Q:=
 q_ J (Xv (f:=Zt) (l:=[([110,111,114,109,97,108]:BS),([112,97,110,105,99]:BS),([100,101,97,100,108,111,99,107]:BS),([115,116,97,99,107]:BS),([104,101,97,112]:BS),([114,111,117,116,105,110,101,115]:BS),([115,116,101,112,115]:BS),([115,99,114,105,112,116]:BS)]) J J (Yo J J J (Yo J J J (Yo J J J (Yo J J J (Yo J J J (Yo J J J (Yo J J J (Yo J J J Xp)))))))) J (Yf J (e_ (Xgx hQ J Xd.full h))))
theorem Ymy (h:Zj7 PG K ):W PG d Vi σ st Q:=
 q_ J (m_ (e_ (Ypd hQ h)))
end
theorem Yre {PG:Zb}(hf:PG.fn 287=some In)  {K:Bool->Prop}(h:Zj7 PG K ) :∃aa:Bool,K aa/\Ze PG 287 [] (.b aa):=
 P1 hf J (Ymy (h1 J fun _=>J)  h)
end Go.AM

/- MADE BY PROGRAM (seat2.py): the types of the program, and that its code is the machine's. -/
namespace Go.Proofs
open Go.Shelf
def Tryz.lays169_ren : Go.Shelf.Ren := ⟨fun | 169 => 36 | n => n, fun | 70 => 89 | 9 => 9 | 0 => 0 | 72 => 91 | 37 => 75 | 127 => 134 | 3 => 3 | 5 => 5 | n => n, fun | n => n⟩
theorem Tryz.lays169 : Go.Proofs.Lays.n169 Tryz.prog Tryz.lays169_ren := {
  mixed := by kernel_rfl
  f169 := Tryz.func36.trans (congrArg some (by kernel_rfl))
  t0 := Tryz.underlying0
  a0 := Tryz.isAgg0
  z0 := Tryz.sizeOf0
  v0 := Tryz.zeroValue0
  t3 := Tryz.underlying3
  a3 := Tryz.isAgg3
  z3 := Tryz.sizeOf3
  v3 := Tryz.zeroValue3
  t9 := Tryz.underlying9
  a9 := Tryz.isAgg9
  z9 := Tryz.sizeOf9
  v9 := Tryz.zeroValue9
  t37 := Tryz.underlying75
  a37 := Tryz.isAgg75
  z37 := Tryz.sizeOf75
  v37 := Tryz.zeroValue75
  t70 := Tryz.underlying89
  a70 := Tryz.isAgg89
  z70 := Tryz.sizeOf89
  v70 := Tryz.zeroValue89
  t72 := Tryz.underlying91
  a72 := Tryz.isAgg91
  z72 := Tryz.sizeOf91
  v72 := Tryz.zeroValue91
  t127 := Tryz.underlying134
  a127 := Tryz.isAgg134
  z127 := Tryz.sizeOf134
  v127 := Tryz.zeroValue134 }

theorem Tryz.extraB : Builder.Extra Tryz.prog Tryz.lays169_ren := {
  sizeBuilder := by kernel_rfl
  liesBuilder := by kernel_rfl
  t5 := Tryz.underlying5
  a5 := Tryz.isAgg5
  z5 := Tryz.sizeOf5
  v5 := Tryz.zeroValue5
  infoByte := by kernel_rfl
  cellsByte := by kernel_rfl
  sizeByte := by kernel_rfl
  neB5 := by decide }
def Tryz.lays146_ren : Go.Shelf.Ren := ⟨fun | 146 => 46 | 221 => 84 | 268 => 124 | 138 => 125 | 143 => 126 | 195 => 155 | 197 => 156 | 218 => 157 | 219 => 158 | 260 => 175 | 217 => 176 | 225 => 177 | 224 => 178 | 267 => 179 | 266 => 185 | 314 => 186 | n => n, fun | 9 => 9 | 31 => 23 | 3 => 3 | 4 => 4 | 0 => 0 | 105 => 222 | 21 => 21 | 5 => 5 | 46 => 238 | 119 => 245 | 139 => 248 | 138 => 247 | 146 => 250 | 51 => 249 | n => n, fun | 1 => 0 | 3 => 1 | 4 => 2 | n => n⟩
theorem Tryz.lays146 : Go.Proofs.Lays.n146 Tryz.prog Tryz.lays146_ren := {
  mixed := by kernel_rfl
  f138 := Tryz.func125.trans (congrArg some (by kernel_rfl))
  f143 := Tryz.func126.trans (congrArg some (by kernel_rfl))
  f146 := Tryz.func46.trans (congrArg some (by kernel_rfl))
  f195 := Tryz.func155.trans (congrArg some (by kernel_rfl))
  f197 := Tryz.func156.trans (congrArg some (by kernel_rfl))
  f217 := Tryz.func176.trans (congrArg some (by kernel_rfl))
  f218 := Tryz.func157.trans (congrArg some (by kernel_rfl))
  f219 := Tryz.func158.trans (congrArg some (by kernel_rfl))
  f221 := Tryz.func84.trans (congrArg some (by kernel_rfl))
  f224 := Tryz.func178.trans (congrArg some (by kernel_rfl))
  f225 := Tryz.func177.trans (congrArg some (by kernel_rfl))
  f260 := Tryz.func175.trans (congrArg some (by kernel_rfl))
  f266 := Tryz.func185.trans (congrArg some (by kernel_rfl))
  f267 := Tryz.func179.trans (congrArg some (by kernel_rfl))
  f268 := Tryz.func124.trans (congrArg some (by kernel_rfl))
  f314 := Tryz.func186.trans (congrArg some (by kernel_rfl))
  t0 := Tryz.underlying0
  a0 := Tryz.isAgg0
  z0 := Tryz.sizeOf0
  v0 := Tryz.zeroValue0
  t3 := Tryz.underlying3
  a3 := Tryz.isAgg3
  z3 := Tryz.sizeOf3
  v3 := Tryz.zeroValue3
  t4 := Tryz.underlying4
  a4 := Tryz.isAgg4
  z4 := Tryz.sizeOf4
  v4 := Tryz.zeroValue4
  t5 := Tryz.underlying5
  a5 := Tryz.isAgg5
  z5 := Tryz.sizeOf5
  v5 := Tryz.zeroValue5
  t9 := Tryz.underlying9
  a9 := Tryz.isAgg9
  z9 := Tryz.sizeOf9
  v9 := Tryz.zeroValue9
  t21 := Tryz.underlying21
  a21 := Tryz.isAgg21
  z21 := Tryz.sizeOf21
  v21 := Tryz.zeroValue21
  t31 := Tryz.underlying23
  a31 := Tryz.isAgg23
  z31 := Tryz.sizeOf23
  v31 := Tryz.zeroValue23
  t46 := Tryz.underlying238
  a46 := Tryz.isAgg238
  z46 := Tryz.sizeOf238
  v46 := Tryz.zeroValue238
  t51 := Tryz.underlying249
  a51 := Tryz.isAgg249
  z51 := Tryz.sizeOf249
  v51 := Tryz.zeroValue249
  t105 := Tryz.underlying222
  a105 := Tryz.isAgg222
  z105 := Tryz.sizeOf222
  v105 := Tryz.zeroValue222
  t119 := Tryz.underlying245
  a119 := Tryz.isAgg245
  z119 := Tryz.sizeOf245
  t138 := Tryz.underlying247
  a138 := Tryz.isAgg247
  z138 := Tryz.sizeOf247
  v138 := Tryz.zeroValue247
  t139 := Tryz.underlying248
  a139 := Tryz.isAgg248
  z139 := Tryz.sizeOf248
  v139 := Tryz.zeroValue248
  t146 := Tryz.underlying250
  a146 := Tryz.isAgg250
  z146 := Tryz.sizeOf250
  v146 := Tryz.zeroValue250
  g1 := by kernel_rfl
  g3 := by kernel_rfl
  g4 := by kernel_rfl }

def Tryz.lays147_ren : Go.Shelf.Ren := ⟨fun | 147 => 136 | 221 => 84 | 268 => 124 | 138 => 125 | 143 => 126 | 195 => 155 | 197 => 156 | 218 => 157 | 219 => 158 | 260 => 175 | 217 => 176 | 225 => 177 | 224 => 178 | 267 => 179 | 266 => 185 | 314 => 186 | n => n, fun | 9 => 9 | 3 => 3 | 31 => 23 | 4 => 4 | 0 => 0 | 105 => 222 | 21 => 21 | 5 => 5 | 46 => 238 | 119 => 245 | 139 => 248 | 138 => 247 | 146 => 250 | 51 => 249 | n => n, fun | 1 => 0 | 3 => 1 | 4 => 2 | n => n⟩
theorem Tryz.lays147 : Go.Proofs.Lays.n147 Tryz.prog Tryz.lays147_ren := {
  mixed := by kernel_rfl
  f138 := Tryz.func125.trans (congrArg some (by kernel_rfl))
  f143 := Tryz.func126.trans (congrArg some (by kernel_rfl))
  f147 := Tryz.func136.trans (congrArg some (by kernel_rfl))
  f195 := Tryz.func155.trans (congrArg some (by kernel_rfl))
  f197 := Tryz.func156.trans (congrArg some (by kernel_rfl))
  f217 := Tryz.func176.trans (congrArg some (by kernel_rfl))
  f218 := Tryz.func157.trans (congrArg some (by kernel_rfl))
  f219 := Tryz.func158.trans (congrArg some (by kernel_rfl))
  f221 := Tryz.func84.trans (congrArg some (by kernel_rfl))
  f224 := Tryz.func178.trans (congrArg some (by kernel_rfl))
  f225 := Tryz.func177.trans (congrArg some (by kernel_rfl))
  f260 := Tryz.func175.trans (congrArg some (by kernel_rfl))
  f266 := Tryz.func185.trans (congrArg some (by kernel_rfl))
  f267 := Tryz.func179.trans (congrArg some (by kernel_rfl))
  f268 := Tryz.func124.trans (congrArg some (by kernel_rfl))
  f314 := Tryz.func186.trans (congrArg some (by kernel_rfl))
  t0 := Tryz.underlying0
  a0 := Tryz.isAgg0
  z0 := Tryz.sizeOf0
  v0 := Tryz.zeroValue0
  t3 := Tryz.underlying3
  a3 := Tryz.isAgg3
  z3 := Tryz.sizeOf3
  v3 := Tryz.zeroValue3
  t4 := Tryz.underlying4
  a4 := Tryz.isAgg4
  z4 := Tryz.sizeOf4
  v4 := Tryz.zeroValue4
  t5 := Tryz.underlying5
  a5 := Tryz.isAgg5
  z5 := Tryz.sizeOf5
  v5 := Tryz.zeroValue5
  t9 := Tryz.underlying9
  a9 := Tryz.isAgg9
  z9 := Tryz.sizeOf9
  v9 := Tryz.zeroValue9
  t21 := Tryz.underlying21
  a21 := Tryz.isAgg21
  z21 := Tryz.sizeOf21
  v21 := Tryz.zeroValue21
  t31 := Tryz.underlying23
  a31 := Tryz.isAgg23
  z31 := Tryz.sizeOf23
  v31 := Tryz.zeroValue23
  t46 := Tryz.underlying238
  a46 := Tryz.isAgg238
  z46 := Tryz.sizeOf238
  v46 := Tryz.zeroValue238
  t51 := Tryz.underlying249
  a51 := Tryz.isAgg249
  z51 := Tryz.sizeOf249
  v51 := Tryz.zeroValue249
  t105 := Tryz.underlying222
  a105 := Tryz.isAgg222
  z105 := Tryz.sizeOf222
  v105 := Tryz.zeroValue222
  t119 := Tryz.underlying245
  a119 := Tryz.isAgg245
  z119 := Tryz.sizeOf245
  t138 := Tryz.underlying247
  a138 := Tryz.isAgg247
  z138 := Tryz.sizeOf247
  v138 := Tryz.zeroValue247
  t139 := Tryz.underlying248
  a139 := Tryz.isAgg248
  z139 := Tryz.sizeOf248
  v139 := Tryz.zeroValue248
  t146 := Tryz.underlying250
  a146 := Tryz.isAgg250
  z146 := Tryz.sizeOf250
  v146 := Tryz.zeroValue250
  g1 := by kernel_rfl
  g3 := by kernel_rfl
  g4 := by kernel_rfl }

def Tryz.lays219_ren : Go.Shelf.Ren := ⟨fun | 219 => 158 | 217 => 176 | 225 => 177 | 224 => 178 | 267 => 179 | 266 => 185 | 314 => 186 | n => n, fun | 9 => 9 | 3 => 3 | 4 => 4 | 5 => 5 | 46 => 238 | 146 => 250 | 51 => 249 | n => n, fun | 1 => 0 | n => n⟩
theorem Tryz.lays219 : Go.Proofs.Lays.n219 Tryz.prog Tryz.lays219_ren := {
  mixed := by kernel_rfl
  f217 := Tryz.func176.trans (congrArg some (by kernel_rfl))
  f219 := Tryz.func158.trans (congrArg some (by kernel_rfl))
  f224 := Tryz.func178.trans (congrArg some (by kernel_rfl))
  f225 := Tryz.func177.trans (congrArg some (by kernel_rfl))
  f266 := Tryz.func185.trans (congrArg some (by kernel_rfl))
  f267 := Tryz.func179.trans (congrArg some (by kernel_rfl))
  f314 := Tryz.func186.trans (congrArg some (by kernel_rfl))
  t3 := Tryz.underlying3
  a3 := Tryz.isAgg3
  z3 := Tryz.sizeOf3
  v3 := Tryz.zeroValue3
  t4 := Tryz.underlying4
  a4 := Tryz.isAgg4
  z4 := Tryz.sizeOf4
  v4 := Tryz.zeroValue4
  t5 := Tryz.underlying5
  a5 := Tryz.isAgg5
  z5 := Tryz.sizeOf5
  v5 := Tryz.zeroValue5
  t9 := Tryz.underlying9
  a9 := Tryz.isAgg9
  z9 := Tryz.sizeOf9
  v9 := Tryz.zeroValue9
  t46 := Tryz.underlying238
  a46 := Tryz.isAgg238
  z46 := Tryz.sizeOf238
  v46 := Tryz.zeroValue238
  t51 := Tryz.underlying249
  a51 := Tryz.isAgg249
  z51 := Tryz.sizeOf249
  v51 := Tryz.zeroValue249
  t146 := Tryz.underlying250
  a146 := Tryz.isAgg250
  z146 := Tryz.sizeOf250
  v146 := Tryz.zeroValue250
  g1 := by kernel_rfl }

end Go.Proofs
namespace Go.Proofs.YtheacfnopahmjaaGreatDoor
open Go Go.AM

def Mr : List (Nat × TI) := [
(2, ⟨.int .i64, 1, 8, [z6]⟩),
  (3, ⟨.int .i64, 1, 8, [z6]⟩),
  (4, ⟨.bool, 1, 1, [zb]⟩),
  (5, ⟨.int .u8, 1, 1, [z8]⟩),
  (9, ⟨.str, 1, 16, [zs]⟩),
  (22, ⟨.sl 267, 1, 24, [zl]⟩),
  (23, ⟨.sl 9, 1, 24, [zl]⟩),
  (24, ⟨.sl 85, 1, 24, [zl]⟩),
  (26, ⟨.st [(22, 0), (23, 1), (24, 2)], 3, 72, [zl, zl, zl]⟩),
  (27, ⟨.sl 43, 1, 24, [zl]⟩),
  (29, ⟨.st [(5, 0), (3, 1), (3, 2), (27, 3)], 4, 48, [z8, z6, z6, zl]⟩),
  (34, ⟨.int .i64, 1, 8, [z6]⟩),
  (39, ⟨.sl 55, 1, 24, [zl]⟩),
  (40, ⟨.sl 63, 1, 24, [zl]⟩),
  (41, ⟨.sl 65, 1, 24, [zl]⟩),
  (43, ⟨.st [(5, 0), (2, 1), (39, 2), (40, 3), (41, 4)], 5, 88, [z8, z6, zl, zl, zl]⟩),
  (52, ⟨.int .u64, 1, 8, [z7]⟩),
  (53, ⟨.sl 61, 1, 24, [zl]⟩),
  (55, ⟨.st [(3, 0), (3, 1), (52, 2), (53, 3)], 4, 48, [z6, z6, z7, zl]⟩),
  (56, ⟨.sl 58, 1, 24, [zl]⟩),
  (58, ⟨.st [(5, 0), (2, 1), (9, 2), (56, 3), (4, 4)], 5, 64, [z8, z6, zs, zl, zb]⟩),
  (61, ⟨.st [(3, 0), (58, 1)], 6, 72, [z6, z8, z6, zs, zl, zb]⟩),
  (63, ⟨.st [(3, 0), (3, 1), (4, 2), (58, 3)], 8, 88, [z6, z6, zb, z8, z6, zs, zl, zb]⟩),
  (65, ⟨.st [(52, 0), (58, 1), (52, 6)], 7, 80, [z7, z8, z6, zs, zl, zb, z7]⟩),
  (68, ⟨.other, 1, 8, [.nf]⟩),
  (72, ⟨.other, 1, 8, [.nf]⟩),
  (75, ⟨.sl 5, 1, 24, [zl]⟩),
  (81, ⟨.sl 87, 1, 24, [zl]⟩),
  (82, ⟨.sl 269, 1, 24, [zl]⟩),
  (83, ⟨.sl 271, 1, 24, [zl]⟩),
  (85, ⟨.st [(9, 0), (3, 1), (3, 2), (81, 3), (82, 4), (83, 5), (83, 6)], 7, 128, [zs, z6, z6, zl, zl, zl, zl]⟩),
  (87, ⟨.st [(9, 0), (3, 1)], 2, 24, [zs, z6]⟩),
  (89, ⟨.ptr 91, 1, 8, [.np]⟩),
  (91, ⟨.st [(89, 0), (75, 1)], 2, 32, [.np, .sl .full []]⟩),
  (93, ⟨.other, 1, 16, [.ni]⟩),
  (96, ⟨.arr 9 9, 9, 144, [zs, zs, zs, zs, zs, zs, zs, zs, zs]⟩),
  (103, ⟨.arr 4 9, 4, 64, [zs, zs, zs, zs]⟩),
  (111, ⟨.other, 1, 8, [.nf]⟩),
  (118, ⟨.ptr 43, 1, 8, [.np]⟩),
  (129, ⟨.other, 1, 8, [.nf]⟩),
  (138, ⟨.other, 1, 8, [.nf]⟩),
  (141, ⟨.other, 1, 8, [.nf]⟩),
  (185, ⟨.uptr, 1, 8, [.np]⟩),
  (189, ⟨.other, 1, 8, [.nf]⟩),
  (193, ⟨.arr 5 5, 5, 5, [z8, z8, z8, z8, z8]⟩),
  (196, ⟨.arr 64 5, 64, 64, [z8, z8, z8, z8, z8, z8, z8, z8, z8, z8, z8, z8, z8, z8, z8, z8, z8, z8, z8, z8, z8, z8, z8, z8, z8, z8, z8, z8, z8, z8, z8, z8, z8, z8, z8, z8, z8, z8, z8, z8, z8, z8, z8, z8, z8, z8, z8, z8, z8, z8, z8, z8, z8, z8, z8, z8, z8, z8, z8, z8, z8, z8, z8, z8]⟩),
  (221, ⟨.arr 8 9, 8, 128, [zs, zs, zs, zs, zs, zs, zs, zs]⟩),
  (226, ⟨.ptr 228, 1, 8, [.np]⟩),
  (228, ⟨.st [(9, 0)], 1, 16, [zs]⟩),
  (267, ⟨.st [(5, 0), (3, 1), (3, 2), (81, 3)], 4, 48, [z8, z6, z6, zl]⟩),
  (269, ⟨.st [(5, 0), (3, 1), (3, 2), (3, 3)], 4, 32, [z8, z6, z6, z6]⟩),
  (271, ⟨.st [(3, 0), (52, 1)], 2, 16, [z6, z7]⟩)]
theorem ty5 : Wu Tryz.prog 5 (((5, ⟨.int .u8, 1, 1, [.i .u8 0]⟩) : Nat × TI).2) := Wu.of (ti := Tryz.t5) (by kernel_rfl) (by kernel_rfl) (by kernel_rfl) (show Tryz.prog.underlying 5 = some (.int .u8) from by kernel_rfl)
theorem Zxd : Wu Tryz.prog 27 (((27, ⟨.sl 43, 1, 24, [.sl .full []]⟩) : Nat × TI).2) := Wu.of (ti := Tryz.t27) (by kernel_rfl) (by kernel_rfl) (by kernel_rfl) (show Tryz.prog.underlying 27 = some (.slice 43) from by kernel_rfl)
theorem Zte : Wu Tryz.prog 29 (((29, ⟨.st [(5, 0), (3, 1), (3, 2), (27, 3)], 4, 48, [.i .u8 0, .i .i64 0, .i .i64 0, .sl .full []]⟩) : Nat × TI).2) := Wu.of (ti := Tryz.t29) (by kernel_rfl) (by kernel_rfl) (by kernel_rfl) (TK.ok_st (by kernel_rfl))
theorem Zy7 : Wu Tryz.prog 43 (((43, ⟨.st [(5, 0), (2, 1), (39, 2), (40, 3), (41, 4)], 5, 88, [.i .u8 0, .i .i64 0, .sl .full [], .sl .full [], .sl .full []]⟩) : Nat × TI).2) := Wu.of (ti := Tryz.t43) (by kernel_rfl) (by kernel_rfl) (by kernel_rfl) (TK.ok_st (by kernel_rfl))
theorem Yq7 : ∀ x ∈ Mr, Wu Tryz.prog x.1 x.2 :=
 tC (tK Tryz.t2 kE) (tC (tK Tryz.t3 kE) (tC (tK Tryz.t4 kE) (tC ty5 (tC (tK Tryz.t9 kE) (tC (tK Tryz.t22 kE) (tC (tK Tryz.t23 kE) (tC (tK Tryz.t24 kE) (tC (tK Tryz.t26 kS) (tC Zxd (tC Zte (tC (tK Tryz.t34 kE) (tC (tK Tryz.t39 kE) (tC (tK Tryz.t40 kE) (tC (tK Tryz.t41 kE) (tC Zy7 (tC (tK Tryz.t52 kE) (tC (tK Tryz.t53 kE) (tC (tK Tryz.t55 kS) (tC (tK Tryz.t56 kE) (tC (tK Tryz.t58 kS) (tC (tK Tryz.t61 kS) (tC (tK Tryz.t63 kS) (tC (tK Tryz.t65 kS) (tC (tK Tryz.t68 kO) (tC (tK Tryz.t72 kO) (tC (tK Tryz.t75 kE) (tC (tK Tryz.t81 kE) (tC (tK Tryz.t82 kE) (tC (tK Tryz.t83 kE) (tC (tK Tryz.t85 kS) (tC (tK Tryz.t87 kS) (tC (tK Tryz.t89 (And.intro (by kernel_rfl) (by kernel_rfl))) (tC (tK Tryz.t91 kS) (tC (tK Tryz.t93 kO) (tC (tK Tryz.t96 kE) (tC (tK Tryz.t103 kE) (tC (tK Tryz.t111 kO) (tC (tK Tryz.t118 (And.intro (by kernel_rfl) (by kernel_rfl))) (tC (tK Tryz.t129 kO) (tC (tK Tryz.t138 kO) (tC (tK Tryz.t141 kO) (tC (tK Tryz.t185 kE) (tC (tK Tryz.t189 kO) (tC (tK Tryz.t193 kE) (tC (tK Tryz.t196 kE) (tC (tK Tryz.t221 kE) (tC (tK Tryz.t226 (And.intro (by kernel_rfl) (by kernel_rfl))) (tC (tK Tryz.t228 kS) (tC (tK Tryz.t267 kS) (tC (tK Tryz.t269 kS) (tC (tK Tryz.t271 kS) (tN))))))))))))))))))))))))))))))))))))))))))))))))))))
def Ri : List (Nat × Nat) := [(2, 2), (3, 286), (4, 287), (5, 288), (6, 289), (7, 290), (8, 79), (9, 203), (10, 214), (11, 205), (12, 177), (13, 207), (14, 29), (15, 291), (16, 209), (17, 211), (18, 292), (19, 293), (20, 294), (21, 295), (22, 296), (23, 297), (24, 213), (25, 298), (26, 299), (27, 300), (28, 301), (29, 302), (30, 204), (31, 221), (32, 126), (33, 215), (34, 216), (35, 217), (36, 105), (37, 219), (38, 220), (39, 15), (40, 82), (41, 154), (42, 141), (43, 303), (44, 224), (45, 225), (46, 304), (47, 305), (48, 306), (49, 307), (50, 308), (51, 309), (52, 310), (53, 311), (54, 312), (55, 85), (56, 313), (57, 157), (58, 218), (59, 314), (60, 162), (61, 80), (62, 71), (63, 163), (64, 87), (65, 235), (66, 145), (67, 227), (68, 228), (69, 86), (70, 229), (71, 230), (72, 231), (73, 232), (74, 233), (75, 158), (76, 234), (77, 34), (78, 111), (79, 112), (80, 113), (81, 72), (82, 178), (83, 236), (84, 315), (85, 46), (86, 260), (87, 316), (88, 317), (89, 36), (90, 21), (91, 84), (92, 318), (93, 156), (94, 319), (95, 212), (96, 320), (97, 22), (98, 120), (99, 121), (100, 114), (101, 75), (102, 182), (103, 159), (104, 179), (105, 223), (106, 226), (107, 222), (108, 170), (109, 88), (110, 78), (111, 102), (112, 103), (113, 77), (114, 146), (115, 237), (116, 122), (117, 123), (118, 76), (119, 238), (120, 239), (121, 183), (122, 11), (123, 104), (124, 321), (125, 187), (126, 194), (127, 266), (128, 322), (129, 42), (130, 37), (131, 115), (132, 116), (133, 117), (134, 118), (135, 119), (136, 323), (137, 74), (138, 180), (139, 181), (140, 38), (141, 142), (142, 143), (143, 31), (144, 138), (145, 137), (146, 106), (147, 108), (148, 16), (149, 160), (150, 124), (151, 110), (152, 144), (153, 109), (154, 30), (155, 192), (156, 324), (158, 197), (159, 43), (160, 139), (161, 128), (162, 140), (163, 107), (164, 190), (165, 44), (166, 132), (167, 135), (168, 41), (169, 127), (170, 133), (171, 134), (172, 26), (173, 35), (174, 136), (175, 325), (176, 47), (178, 199), (179, 200), (180, 131), (181, 129), (182, 130), (183, 191), (184, 40), (185, 48), (186, 201), (187, 25), (188, 39), (189, 45), (212, 330), (1000000000000, 1000000091), (1000000000001, 1000000005), (1000000000004, 1000000000)]
def X : Cx := ⟨Zok Mr, Ej Ri, fun c => [30, 89, 104, 105, 107, 115, 116, 117, 120, 122, 123, 126, 128, 129, 130, 131, 139, 140, 144, 145, 146, 184, 217, 224, 225, 227, 228, 229, 230, 232, 233, 236, 237, 238, 239, 252, 268, 269, 270, 271, 272, 273, 274, 275, 276, 307, 308, 309, 311, 312].contains c, []⟩
theorem Xj4 : Yb Tryz.prog X 129 Zbx := fK Tryz.func129
theorem Yp6 : Yb Tryz.prog X 85 Zcb := fK Tryz.func85
theorem Xe1 : Yb Tryz.prog X 89 Zgo := fK Tryz.func89
theorem Ytr : Yb Tryz.prog X 159 Zef := fK Tryz.func159
theorem Xh8 : Yb Tryz.prog X 176 Zdr := fK Tryz.func176
theorem Xdx : Yb Tryz.prog X 122 Ze6 := fK Tryz.func122
theorem You : Yb Tryz.prog X 39 Zbo := fK Tryz.func39
theorem Yno : Yb Tryz.prog X 90 Zc6 := fK Tryz.func90
theorem Ynt : Yb Tryz.prog X 187 Zbd := fK Tryz.func187
theorem Ymp : Yb Tryz.prog X 154 El := fK Tryz.func154
theorem Ysc : Yb Tryz.prog X 77 Zbe := fK Tryz.func77
theorem Ykq : Yb Tryz.prog X 130 Zdj := fK Tryz.func130
theorem Yy4 : Yb Tryz.prog X 188 Eh := fK Tryz.func188
theorem Yw1 : Yb Tryz.prog X 189 Ig := fK Tryz.func189
theorem Ys1 : Yb Tryz.prog X 14 Ze8 := fK Tryz.func14
theorem Yhy : Yb Tryz.prog X 66 Zku := fK Tryz.func66
theorem Xeg : Yb Tryz.prog X 32 Zqi := fK Tryz.func32
theorem Xcr : Yb Tryz.prog X 81 Zbv := fK Tryz.func81
theorem Yrc : Yb Tryz.prog X 137 Za8 := fK Tryz.func137
theorem Xg6 : Yb Tryz.prog X 118 Zg0 := fK Tryz.func118
theorem Xha : Yb Tryz.prog X 110 Zcd := fK Tryz.func110
theorem Yxu : Yb Tryz.prog X 123 Pm := fK Tryz.func123
theorem Yq8 : Yb Tryz.prog X 163 Pk := fK Tryz.func163
theorem Xf2 : Yb Tryz.prog X 153 Zal := fK Tryz.func153
theorem Xa7 : Yb Tryz.prog X 161 Ph := fK Tryz.func161
theorem Xcu : Yb Tryz.prog X 181 Fs := fK Tryz.func181
theorem Yjh : Yb Tryz.prog X 182 Lt := fK Tryz.func182
theorem Xf4 : Yb Tryz.prog X 180 Fq := fK Tryz.func180
theorem Yun : Yb Tryz.prog X 174 Zjq := fK Tryz.func174
theorem Yl4 : Yb Tryz.prog X 41 Zbb := fK Tryz.func41
theorem Yrx : Yb Tryz.prog X 75 Zan := fK Tryz.func75
theorem Xg4 : Yb Tryz.prog X 82 Eg := fK Tryz.func82
theorem Yv4 : Yb Tryz.prog X 138 Zdm := fK Tryz.func138
theorem Yg9 : Yb Tryz.prog X 121 Za6 := fK Tryz.func121
theorem Xfk : Yb Tryz.prog X 164 Zea := fK Tryz.func164
theorem Yod : Yb Tryz.prog X 183 Ze4 := fK Tryz.func183
theorem Yo3 : Yb Tryz.prog X 93 Aj := fK Tryz.func93
theorem Yvc : Yb Tryz.prog X 149 Zad := fK Tryz.func149
theorem Yg0 : Yb Tryz.prog X 139 Za0 := fK Tryz.func139
theorem Yhs : Yb Tryz.prog X 108 Zdy := fK Tryz.func108
theorem Xak : Yb Tryz.prog X 40 Zbw := fK Tryz.func40
theorem Yqv : Yb Tryz.prog X 69 Zbc := fK Tryz.func69
theorem Yte : Yb Tryz.prog X 109 Zbr := fK Tryz.func109
theorem Yob : Yb Tryz.prog X 78 Zew := fK Tryz.func78
theorem Yo4 : Yb Tryz.prog X 79 Zds := fK Tryz.func79
theorem Xil : Yb Tryz.prog X 80 Ef := fK Tryz.func80
theorem Xet : Yb Tryz.prog X 131 Zar := fK Tryz.func131
theorem Xan : Yb Tryz.prog X 132 Zcz := fK Tryz.func132
theorem Xed : Yb Tryz.prog X 135 Zgm := fK Tryz.func135
theorem Yjt : Yb Tryz.prog X 116 Zfi := fK Tryz.func116
theorem Yl9 : Yb Tryz.prog X 117 Zev := fK Tryz.func117
theorem Ynp : Yb Tryz.prog X 150 Zay := fK Tryz.func150
theorem Xfi : Yb Tryz.prog X 144 Zp4 := fK Tryz.func144
theorem Yp2 : Yb Tryz.prog X 160 Zdi := fK Tryz.func160
theorem Xgi : Yb Tryz.prog X 42 Zg2 := fK Tryz.func42
theorem Xga : Yb Tryz.prog X 152 Zet := fK Tryz.func152
theorem Xdb : Yb Tryz.prog X 11 Zaj := fK Tryz.func11
theorem Yro : Yb Tryz.prog X 13 Zek := fK Tryz.func13
theorem Yqq : Yb Tryz.prog X 16 Zb2 := fK Tryz.func16
theorem Xg7 : Yb Tryz.prog X 17 Zcm := fK Tryz.func17
theorem Yrs : Yb Tryz.prog X 24 Zfc := fK Tryz.func24
theorem Yjr : Yb Tryz.prog X 33 Eo := fK Tryz.func33
theorem Ykr : Yb Tryz.prog X 34 Zc3 := fK Tryz.func34
theorem Yg3 : Yb Tryz.prog X 35 Zmo := fK Tryz.func35
theorem Xbs : Yb Tryz.prog X 58 Zl2 := fK Tryz.func58
theorem Xc0 : Yb Tryz.prog X 37 Zdw := fK Tryz.func37
theorem Yvw : Yb Tryz.prog X 38 Zg9 := fK Tryz.func38
theorem Yt2 : Yb Tryz.prog X 31 Zpl := fK Tryz.func31
theorem Ymv : Yb Tryz.prog X 44 Zcc := fK Tryz.func44
theorem Xdt : Yb Tryz.prog X 45 Zfq := fK Tryz.func45
theorem Yz0 : Yb Tryz.prog X 67 Zfw := fK Tryz.func67
theorem Yrp : Yb Tryz.prog X 68 Zdg := fK Tryz.func68
theorem Ynw : Yb Tryz.prog X 70 Zd4 := fK Tryz.func70
theorem Yi6 : Yb Tryz.prog X 71 Zc7 := fK Tryz.func71
theorem Xeb : Yb Tryz.prog X 72 Zdb := fK Tryz.func72
theorem Xj5 : Yb Tryz.prog X 73 Zfy := fK Tryz.func73
theorem Xcd : Yb Tryz.prog X 74 Zax := fK Tryz.func74
theorem Ynu : Yb Tryz.prog X 76 Zbn := fK Tryz.func76
theorem Ywp : Yb Tryz.prog X 83 Zae := fK Tryz.func83
theorem Ygu : Yb Tryz.prog X 115 Zat := fK Tryz.func115
theorem Xhk : Yb Tryz.prog X 119 Zer := fK Tryz.func119
theorem Yxo : Yb Tryz.prog X 120 Zgn := fK Tryz.func120
theorem Xfy : Yb Tryz.prog X 91 Et := fK Tryz.func91
theorem Yx5 : Yb Tryz.prog X 133 Fx := fK Tryz.func133
theorem Xca : Yb Tryz.prog X 134 Ol := fK Tryz.func134
theorem Yll : Yb Tryz.prog X 162 Ll := fK Tryz.func162
theorem Yzu : Yb Tryz.prog X 142 Zlj := fK Tryz.func142
theorem Yiz : Yb Tryz.prog X 48 Ze2 := fK Tryz.func48
theorem Yrg : Yb Tryz.prog X 87 Zdc := fK Tryz.func87
theorem Yvk : Yb Tryz.prog X 128 Zg5 := fK Tryz.func128
theorem Xfh : Yb Tryz.prog X 86 Ot := fK Tryz.func86
theorem Xbi : Yb Tryz.prog X 127 Es := fK Tryz.func127
theorem Xc4 : Yb Tryz.prog X 88 Zd9 := fK Tryz.func88
theorem Xbm : Yb Tryz.prog X 49 Fl := fK Tryz.func49
theorem Xdm : Yb Tryz.prog X 50 Fa := fK Tryz.func50
theorem Yu6 : Yb Tryz.prog X 92 Iu := fK Tryz.func92
theorem Xab : Yb Tryz.prog X 26 Tm := fK Tryz.func26
theorem Yla : Yb Tryz.prog X 47 Za3 := fK Tryz.func47
theorem Ygp : Yb Tryz.prog X 51 Ic := fK Tryz.func51
theorem Yrf : Yb Tryz.prog X 29 Oo := fK Tryz.func29
theorem Ykg : Yb Tryz.prog X 59 Pn := fK Tryz.func59
theorem Yxl : Yb Tryz.prog X 18 Ok := fK Tryz.func18
theorem Ysb : Yb Tryz.prog X 43 Ib := fK Tryz.func43
theorem Yjw : Yb Tryz.prog X 20 Za1 := fK Tryz.func20
theorem Xhm : Yb Tryz.prog X 22 Og := fK Tryz.func22
theorem Yzd : Yb Tryz.prog X 23 Er := fK Tryz.func23
theorem Yxw : Yb Tryz.prog X 19 Ze1 := fK Tryz.func19
theorem Yjd : Yb Tryz.prog X 7 Zfz := fK Tryz.func7
theorem Xgg : Yb Tryz.prog X 21 Zc0 := fK Tryz.func21
theorem Yv0 : Yb Tryz.prog X 25 Zdn := fK Tryz.func25
theorem Zlg : Zb3 X.T 58 := ⟨5, 2, 9, 56, 4, ⟨_, rfl, rfl, rfl⟩, ⟨_, rfl, rfl, rfl⟩, ⟨_, rfl, rfl, rfl⟩, ⟨_, rfl, rfl, rfl⟩, ⟨_, rfl, rfl, rfl⟩, ⟨_, rfl, rfl, rfl⟩⟩
theorem Zt0 : Zmw X.T 87 := ⟨9, 3, ⟨_, rfl, rfl, rfl⟩, ⟨_, rfl, rfl, rfl⟩, ⟨_, rfl, rfl, rfl⟩⟩
theorem Yq3 : Ydx X.T 269 := ⟨5, 3, 3, 3, ⟨_, rfl, rfl, rfl⟩, ⟨_, rfl, rfl, rfl⟩, ⟨_, rfl, rfl, rfl⟩, ⟨_, rfl, rfl, rfl⟩, ⟨_, rfl, rfl, rfl⟩⟩
theorem Zzz : Zmx X.T 271 := ⟨3, 52, ⟨_, rfl, rfl, rfl⟩, ⟨_, rfl, rfl, rfl⟩, ⟨_, rfl, rfl, rfl⟩⟩
theorem Yq5 : Zw8 X.T 267 := ⟨5, 3, 3, 81, 87, ⟨_, rfl, rfl, rfl⟩, ⟨_, rfl, rfl, rfl⟩, ⟨_, rfl, rfl, rfl⟩, ⟨_, rfl, rfl, rfl⟩, ⟨_, rfl, rfl, rfl⟩, Zt0⟩
theorem Ylq : Zvg X.T 85 := ⟨9, 3, 3, 81, 82, 83, 83, 87, 269, 271, 271, ⟨_, rfl, rfl, rfl⟩, ⟨_, rfl, rfl, rfl⟩, ⟨_, rfl, rfl, rfl⟩, ⟨_, rfl, rfl, rfl⟩, ⟨_, rfl, rfl, rfl⟩, Zt0, ⟨_, rfl, rfl, rfl⟩, Yq3, ⟨_, rfl, rfl, rfl⟩, Zzz, ⟨_, rfl, rfl, rfl⟩, Zzz⟩
theorem Xjc : Yhg X.T 26 := ⟨22, 23, 24, 267, 9, 85, ⟨_, rfl, rfl, rfl⟩, ⟨_, rfl, rfl, rfl⟩, Yq5, ⟨_, rfl, rfl, rfl⟩, ⟨_, rfl, rfl, rfl⟩, ⟨_, rfl, rfl, rfl⟩, Ylq⟩
theorem Yir : Ztz X.T 61 := ⟨3, 58, ⟨_, rfl, rfl, rfl⟩, ⟨_, rfl, rfl, rfl⟩, Zlg⟩
theorem Yk9 : Ybj X.T 55 := ⟨3, 3, 52, 53, 61, ⟨_, rfl, rfl, rfl⟩, ⟨_, rfl, rfl, rfl⟩, ⟨_, rfl, rfl, rfl⟩, ⟨_, rfl, rfl, rfl⟩, ⟨_, rfl, rfl, rfl⟩, Yir⟩
theorem Ygq : Zyc X.T 65 := ⟨52, 58, 52, ⟨_, rfl, rfl, rfl⟩, ⟨_, rfl, rfl, rfl⟩, Zlg, ⟨_, rfl, rfl, rfl⟩⟩
theorem Yl8 : Zxt X.T 63 := ⟨3, 3, 4, 58, ⟨_, rfl, rfl, rfl⟩, ⟨_, rfl, rfl, rfl⟩, ⟨_, rfl, rfl, rfl⟩, ⟨_, rfl, rfl, rfl⟩, Zlg⟩
theorem Xdu : Zy9 X.T 43 := ⟨5, 2, 39, 40, 41, 55, 63, 65, ⟨_, rfl, rfl, rfl⟩, ⟨_, rfl, rfl, rfl⟩, ⟨_, rfl, rfl, rfl⟩, ⟨_, rfl, rfl, rfl⟩, Yk9, ⟨_, rfl, rfl, rfl⟩, Yl8, ⟨_, rfl, rfl, rfl⟩, Ygq⟩
theorem Xjd : Yl2 X.T 29 := ⟨5, 3, 3, 27, 43, ⟨_, rfl, rfl, rfl⟩, ⟨_, rfl, rfl, rfl⟩, ⟨_, rfl, rfl, rfl⟩, ⟨_, rfl, rfl, rfl⟩, ⟨_, rfl, rfl, rfl⟩, Xdu⟩
end Go.Proofs.YtheacfnopahmjaaGreatDoor

namespace Go.AM
open Go
structure Has03 (PG:Zb):Prop where
 f42:PG.fn 42=some Zbx
 f46:PG.fn 46=some Zcb
 f36:PG.fn 36=some Zgo
 f43:PG.fn 43=some Zef
 f47:PG.fn 47=some Zdr
 f11:PG.fn 11=some Ze6
 f15:PG.fn 15=some Zbo
 f21:PG.fn 21=some Zc6
 f25:PG.fn 25=some Zbd
 f30:PG.fn 30=some El
 f34:PG.fn 34=some Zbe
 f37:PG.fn 37=some Zdj
 f39:PG.fn 39=some Eh
 f45:PG.fn 45=some Ig
 f29:PG.fn 29=some Ze8
 f48:PG.fn 48=none
 o48 :∀(s:Zc) (c:UInt8),PG.orac 48 [.s s,.i .u8 (c.toNat:Int)]=some (.i .i64 (Lib.indexByte s c))
section
variable {PG:Zb} (H:Has03 PG)
include H
theorem c30 {s b:Zc} (hs:s.length<=10000000) (hb:b.length<=1000000000):Ab PG 30 (b.map Yu) [.s s] ((b++quo s).map Yu):=by
 refine Tl.to ?_
 have hp:=p30 H.f30 (b0:=b) (s1:=s) (K:=fun x=>x=b++quo s) (by
  unfold Zhd Zqc
  refine ⟨⟨by simp only [kB,kG,Wq];omega,by simp only [kB,kG,Wq];omega⟩,fun P hP=>?_⟩
  refine Ml (fun i=>b++34::Jw (s.take i)) s.length ?_ ?_
  ·apply hP
   unfold Zao Zib
   have h1:=Zk9 (s.take s.length)
   simp only [jG] at h1 ⊢
   refine ⟨fun h=>absurd h (by omega),fun _=>⟨⟨?_,?_⟩,?_⟩⟩
   ·simp only [kF,kB,kG,Wq];omega
   ·simp only [kF,kB,kG,Wq];omega
   ·simp only [quo,jC,kZ]
  ·intro i hi ih
   apply hP
   have h1:=Zk9 (s.take i)
   have hc:=s[i].toNat_lt
   rw [Ymm hi] at ih
   rw [<- kZ,<- jC] at ih
   generalize hx:s[i]=c at ih hc
   have w1:Ow .u8 (c.toNat:Int) 4=((c.toNat / 16:Nat):Int):=by
    show (c.toNat:Int).fdiv 16=_
    rw [Int.fdiv_eq_ediv_of_nonneg _ (by omega)];omega
   have w2:Gb .u8 (c.toNat:Int) 15=((c.toNat % 16:Nat):Int):=by
    unfold Gb
    have hx:(BitVec.ofInt IntKind.u8.bits (c.toNat:Int) &&& BitVec.ofInt IntKind.u8.bits 15).toNat=c.toNat % 16:=by
     show (BitVec.ofInt 8 (c.toNat:Int) &&& BitVec.ofInt 8 15).toNat=c.toNat % 16
     rw [BitVec.toNat_and]
     have h1:(BitVec.ofInt 8 (c.toNat:Int)).toNat=c.toNat:=by
      simp
     rw [h1]
     exact Nat.and_two_pow_sub_one_eq_mod c.toNat 4
    rw [hx]
    exact Zh0 (by omega) (by omega)
   have fit :∀x:Zc,x.length<=4->Qn ((b++34::Jw (s.take i)).length+x.length) 1:=by
    intro x hx
    simp only [jI] at h1
    refine ⟨?_,?_⟩<;>(simp only [kF,kB,Wq];omega)
   unfold Zao Sr
   rw [Sa (by omega)]
   refine ⟨fun _=>⟨by omega,c,by rw [De,kH hi,hx],?_⟩,fun h=>absurd (show (i:Int)<s.length by omega) h⟩
   simp only [w1,w2,De,Zpr (show c.toNat / 16<16 by omega),Zpr (show c.toNat % 16<16 by omega),Option.some.injEq,exists_eq_left']
   unfold Jf at ih
   refine ⟨fun h2=>⟨fit _ (by simp),?_⟩,fun h2=>⟨fun h3=>⟨fit _ (by simp),?_⟩,fun h3=>⟨fun h4=>⟨fit _ (by simp),?_⟩,fun h4=>⟨fun h5=>⟨by omega,by omega,fit _ (by simp),?_⟩,fun h5=>⟨fun h6=>⟨by omega,by omega,fit _ (by simp),?_⟩,fun h6=>⟨fit _ (by simp),?_⟩⟩⟩⟩⟩⟩
   ·rwa [kD (by omega)] at ih
   ·rwa [kD (by omega)] at ih
   ·rwa [kA (by omega),kD (by omega)] at ih
   ·rwa [kA (by omega),kA (by omega),kD (by omega)] at ih
   ·rwa [kA (by omega),kA (by omega),kD (by omega)] at ih
   ·rwa [kA (by omega),kA (by omega),kA (by omega)] at ih)
 intro d st o ha
 obtain ⟨o',st',rows',⟨x,rfl,rfl⟩,h1,h2⟩:=hp d st o ha
 exact ⟨o',st',_,rfl,h1,h2⟩
theorem c11 (s:Zc):Ze PG 11 [.s s] (.tup [.s (Nz s).1,.i .i64 (Nz s).2]):=by
 obtain ⟨x,y,⟨rfl,rfl⟩,h⟩:=p11 H.f11 (s0:=s) (K:=fun x y=>x=(Nz s).1/\y=(Nz s).2) (by
  unfold Ziv Nz
  refine ⟨fun h=>?_,fun h=>⟨_,c30 H (b:=[]) (s:=s) (by omega) (by simp),?_⟩⟩
  ·rw [kD (by omega)];exact ⟨rfl,rfl⟩
  ·rw [kA (by omega)];exact ⟨rfl,rfl⟩)
 exact h
theorem c34 {n b:Nat} (hb:2<=b) (hb':b<=16) (hn:n<18446744073709551616):Ze PG 34 [.i .u64 (n:Int),.i .u64 (b:Int)] (.s (Jd b n)):=by
 obtain ⟨x,rfl,h⟩:=p34 H.f34 (n0:=(n:Int)) (be:=(b:Int)) (K:=fun x=>x=Jd b n) (by
  unfold Zme
  intro P hP
  have key :∀f n',n'<b ^ f->0<f->n'<18446744073709551616->∀a:Nat,f<=a->a<=64->∀m:Zc,m.length=64->(ds b f n'++m.drop a=Jd b n)->P (n':Int) (a:Int) m:=by
   intro f
   induction f with
   | zero=>intro _ _ h;exact absurd h (zG _)
   | succ f ih=>
    intro n' hf _ hn' a ha ha' m hm hd
    apply hP
    have e1:(n':Int).tmod (b:Int)=((n' % b:Nat):Int):=by rw [Int.tmod_eq_emod_of_nonneg (by omega)];omega
    have e2:(n':Int).tdiv (b:Int)=((n' / b:Nat):Int):=by rw [Int.tdiv_eq_ediv_of_nonneg (by omega)];omega
    have e3:IntKind.i64.wrap ((a:Int)-1)=((a-1:Nat):Int):=by rw [Ws (by omega) (by omega)];omega
    have hq:n' / b<=n':=Nat.div_le_self _ _
    have hr:n' % b<b:=Nat.mod_lt _ (by omega)
    have e4:IntKind.u64.wrap ((n' / b:Nat):Int)=((n' / b:Nat):Int):=Oe (by omega)
    have hset :∀c:UInt8,(m.set (a-1) c).drop (a-1)=c::m.drop a:=by
     intro c
     rw [zS (by simp;omega),List.getElem_set_self,List.drop_set_of_lt (by omega),show a-1+1=a by omega]
    unfold Zop
    simp only [e1,e2,e3,e4,De,hset]
    refine ⟨by omega,by omega,Kv (n' % b),Zpr (by omega),by omega,by omega,by omega,by omega,fun h=>⟨by simp [hm],by omega,by omega,?_⟩,fun h=>?_⟩
    ·rw [<- hd]
     unfold ds
     have hz:n' / b=0:=by omega
     have hlt:n'<b:=by
      rcases jE n' b with h | h
      ·exact h
      ·have:=Nat.div_pos h (by omega);omega
     rw [kD hlt,Nat.mod_eq_of_lt hlt]
     rfl
    ·have hz:n' / b≠0:=by omega
     have hlt:¬ n'<b:=fun h=>hz (Nat.div_eq_of_lt h)
     have h1:n' / b<b ^ f:=by
      rw [Nat.div_lt_iff_lt_mul (by omega)]
      rw [Nat.pow_succ] at hf
      exact hf
     have h2:0<f:=by
      rcases yI f with rfl | h
      ·simp at h1;omega
      ·exact h
     refine ih (n' / b) h1 h2 (by omega) (a-1) (by omega) (by omega) _ (by simp [hm]) ?_
     rw [hset,<- hd]
     conv=>rhs;unfold ds
     rw [kA hlt,jC]
     rfl
  refine key 64 n ?_ (by omega) hn 64 (by omega) (by omega) _ (by simp) ?_
  ·calc n<2 ^ 64:=hn
    _<=b ^ 64:=Nat.pow_le_pow_left hb 64
  ·simp [Jd])
 exact h
theorem c15 {n:Int} (h1:-9223372036854775808<=n) (h2:n<9223372036854775808):Ze PG 15 [.i .i64 n] (.s (Xe n)):=by
 obtain ⟨x,rfl,h⟩:=p15 H.f15 (n0:=n) (K:=fun x=>x=Xe n) (by
  unfold Zkk
  refine ⟨fun h=>?_,fun h=>?_⟩
  ·have e:IntKind.u64.wrap (0-(IntKind.u64.wrap n))=(((-n).toNat:Nat):Int):=by rw [yX,yX];omega
   rw [e]
   refine ⟨_,c34 H (b:=10) (by omega) (by omega) (by omega),?_,?_⟩
   ·have:=Lg 10 64 (-n).toNat
    simp only [Jd,kB,kG,Gi];omega
   ·unfold Xe;rw [kD h];rfl
  ·have e:IntKind.u64.wrap n=((n.toNat:Nat):Int):=by rw [yX];omega
   rw [e]
   refine ⟨_,c34 H (b:=10) (by omega) (by omega) (by omega),?_⟩
   unfold Xe;rw [kA h])
 exact h
end
end Go.AM

namespace Go.AM
open Go
def Zn (p s:Zc):Zc × Bool:=if s.take p.length=p then (s.drop p.length,true) else (s,false)
def Kw (s:Zc) (c:Int) (r:Zc) (ok:Bool):Prop:=match Dq s with | some (x,y)=>c=(x.toNat:Int)/\r=y/\ok=true | none=>ok=false
theorem Kw.yes {s:Zc} {x:UInt8} {y:Zc} {c:Int} (h:Dq s=some (x,y)) (hc:c=(x.toNat:Int)):Kw s c y true:=by
 unfold Kw;rw [h];exact ⟨hc,rfl,rfl⟩
theorem Kw.no {s:Zc} {c:Int} {y:Zc} (h:Dq s=none):Kw s c y false:=by
 unfold Kw;rw [h]
section
variable {PG:Zb} (H:Has03 PG)
include H
theorem c46 (s p:Zc):Ze PG 46 [.s s,.s p] (.b (decide (s.take p.length=p))):=by
 obtain ⟨x,rfl,h⟩:=p46 H.f46 (s0:=s) (ah:=p) (K:=fun x=>x=decide (s.take p.length=p)) (by
  unfold Zju
  refine ⟨fun h=>⟨by omega,by omega,rfl⟩,fun h=>?_⟩
  refine (kM fun h1=>?_).symm
  have:=jD List.length h1
  simp only [jI] at this
  omega)
 exact h
theorem c42 (s p:Zc):Ze PG 42 [.s s,.s p] (.tup [.s (Zn p s).1,.b (Zn p s).2]):=by
 obtain ⟨x,y,⟨rfl,rfl⟩,h⟩:=p42 H.f42 (s0:=s) (ah:=p) (K:=fun x y=>x=(Zn p s).1/\y=(Zn p s).2) (by
  unfold Zpc Zn
  refine ⟨_,c46 H s p,fun h=>?_,fun h=>?_⟩
  ·have h1:¬ s.take p.length=p:=by simpa using h
   rw [kA h1];exact ⟨rfl,rfl⟩
  ·have h1:s.take p.length=p:=by simpa using h
   have h2:=jD List.length h1
   simp only [jI] at h2
   rw [kD h1];exact ⟨by omega,by omega,rfl,rfl⟩)
 exact h
theorem Pz (s p:Zc):Ze PG 36 [.s s,.s p] (.tup [.s (Zn p s).1,.b (Zn p s).2]):=by
 obtain ⟨x,y,⟨rfl,rfl⟩,h⟩:=p36 H.f36 (s0:=s) (ah:=p) (K:=fun x y=>x=(Zn p s).1/\y=(Zn p s).2) (by
  unfold Zm7
  exact ⟨_,_,c42 H s p,rfl,rfl⟩)
 exact h
theorem c47 (s:Zc) (c:UInt8):Ze PG 47 [.s s,.i .u8 (c.toNat:Int)] (.i .i64 (Lib.indexByte s c)):=by
 obtain ⟨x,rfl,h⟩:=p47 H.f47 (s0:=s) (c1:=(c.toNat:Int)) (K:=fun x=>x=Lib.indexByte s c) (by
  unfold Zie
  exact ⟨_,Ze.orac H.f48 (H.o48 s c) rfl,rfl⟩)
 exact h
theorem c43 (s:Zc) (c:UInt8):Ze PG 43 [.s s,.i .u8 (c.toNat:Int)] (.i .i64 (Lib.indexByte s c)):=by
 obtain ⟨x,rfl,h⟩:=p43 H.f43 (s0:=s) (c1:=(c.toNat:Int)) (K:=fun x=>x=Lib.indexByte s c) (by
  unfold Zi9
  exact ⟨_,c47 H s c,rfl⟩)
 exact h
theorem c37 {b most:Nat} (hb:2<=b) (hb':b<=16) (hm:16<=most) (hm':most<18446744073709551616) {s:Zc} (hs:s.length<=10000000):Ze PG 37 [.s s,.i .u64 (b:Int),.i .u64 (most:Int)] (.tup [.i .u64 ((rd b most s).1:Int),.i .i64 (rd b most s).2]):=by
 obtain ⟨x,y,⟨rfl,rfl⟩,h⟩:=p37 H.f37 (s0:=s) (be:=(b:Int)) (cc:=(most:Int)) (K:=fun x y=>x=((rd b most s).1:Int)/\y=(rd b most s).2) (by
  unfold Zhs Zhc Zou
  intro P hP
  have key :∀m i:Nat,i+m=s.length->Du b (s.take i)=true->(2<=i->s.head?≠some 48)->∀(n:Nat) (far:Bool),(far=false->n=Yz b (s.take i)/\n<=most)->(far=true->most<Yz b (s.take i))->P (n:Int) far (i:Int):=by
   intro m
   induction m with
   | zero=>
    intro i hi ho h48 n far h0 h1
    simp only [yJ] at hi
    subst hi
    rw [jG] at ho h0 h1
    apply hP
    unfold Zcu Zp7
    refine ⟨fun h=>absurd h (by omega),fun _=>⟨fun h=>?_,fun h=>?_⟩⟩
    ·subst h;exact ⟨rfl,rfl⟩
    ·have hbad:Ro b s=false:=by
      unfold Ro
      rw [kM h,ho]
      simp only [Bool.false_or,Bool.not_true]
      by_cases h2:1<s.length
      ·rw [kM (h48 h2),Bool.and_false]
      ·rw [kM h2,Bool.false_and]
     refine ⟨fun hf=>?_,fun hf=>?_⟩
     ·unfold rd
      rw [kA (by rw [hbad];decide),kD (h1 hf)]
      exact ⟨rfl,rfl⟩
     ·obtain ⟨h2,h3⟩:=h0 hf
      unfold rd
      rw [kA (by rw [hbad];decide),kA (by omega),h2]
      exact ⟨rfl,rfl⟩
   | succ m ih=>
    intro i hi ho h48 n far h0 h1
    have hil:i<s.length:=by omega
    have hd:=Im hb' s[i]
    have hv:=Yhb (b:=b) hil
    have hk:=Yjv (b:=b) hil
    have bad12:Ro b s=true->(0:Int)=((rd b most s).1:Int)/\(12:Int)=(rd b most s).2:=by
     intro h
     unfold rd
     rw [kD h]
     exact ⟨rfl,rfl⟩
    apply hP
    unfold Zcu Sd
    refine ⟨fun _=>⟨by omega,by rw [De];exact hb',by omega,s[i],by rw [De,kH hil],dv b s[i],c43 H _ _,fun h=>?_,fun h=>?_⟩,fun h=>absurd h (by omega)⟩
    ·refine bad12 ?_
     unfold Ro
     rw [Yoo hil h]
     simp
    ·have hd0:0<=dv b s[i]:=by omega
     rw [ho,kN hd0,Bool.and_true] at hk
     generalize hdd:(dv b s[i]).toNat=d at hv
     have hdi:dv b s[i]=(d:Int):=by omega
     have e1:IntKind.u64.wrap (dv b s[i])=(d:Int):=by rw [hdi];exact Oe (by omega)
     have e2:IntKind.u64.wrap ((most:Int)-(d:Int))=((most-d:Nat):Int):=by rw [Ah (by omega) (by omega)];omega
     have e3:(((most-d:Nat):Int)).tdiv (b:Int)=(((most-d) / b:Nat):Int):=by rw [Int.tdiv_eq_ediv_of_nonneg (by omega)];omega
     have hq:(most-d) / b<=most-d:=Nat.div_le_self _ _
     have e4:IntKind.u64.wrap (((most-d) / b:Nat):Int)=(((most-d) / b:Nat):Int):=Oe (by omega)
     have hfi:=Xin (n:=n) (show 0<b by omega) (show d<=most by omega)
     rw [Sa (by omega)]
     simp only [e1,e2,e3,e4]
     have go:(2<=i+1->s.head?≠some 48)->(far=true->P (n:Int) true ((i+1:Nat):Int))/\(far=false->(b:Int)≠0/\(¬((n:Int)>(((most-d) / b:Nat):Int))->P (IntKind.u64.wrap ((IntKind.u64.wrap ((n:Int)*(b:Int)))+(d:Int))) (decide ((n:Int)>(((most-d) / b:Nat):Int))) ((i+1:Nat):Int))/\(¬(¬((n:Int)>(((most-d) / b:Nat):Int)))->P (n:Int) (decide ((n:Int)>(((most-d) / b:Nat):Int))) ((i+1:Nat):Int))):=by
      intro h2
      refine ⟨fun hf=>?_,fun hf=>⟨by omega,fun h3=>?_,fun h3=>?_⟩⟩
      ·refine ih (i+1) (by omega) hk h2 n true (fun h=>by cases h) fun _=>?_
       rw [hv]
       have h4:=h1 hf
       have:Yz b (s.take i)<=Yz b (s.take i)*b:=Nat.le_mul_of_pos_right _ (by omega)
       omega
      ·obtain ⟨h4,h5⟩:=h0 hf
       have h6:n*b+d<=most:=by
        have:¬ (most-d) / b<n:=by omega
        rw [hfi] at this
        omega
       have hnb:(n:Int)*(b:Int)=((n*b:Nat):Int):=by rw [Int.natCast_mul]
       have e5:IntKind.u64.wrap ((n:Int)*(b:Int))=((n*b:Nat):Int):=by rw [hnb];exact Oe (by omega)
       have e6:IntKind.u64.wrap (((n*b:Nat):Int)+(d:Int))=((n*b+d:Nat):Int):=by rw [Ah (by omega) (by omega)];omega
       rw [e5,e6,kM h3]
       refine ih (i+1) (by omega) hk h2 _ false (fun _=>⟨?_,h6⟩) fun h=>by cases h
       rw [hv,h4]
      ·have h3':(n:Int)>(((most-d) / b:Nat):Int):=by omega
       obtain ⟨h4,h5⟩:=h0 hf
       rw [kN h3']
       refine ih (i+1) (by omega) hk h2 n true (fun h=>by cases h) fun _=>?_
       rw [hv,<- h4]
       exact hfi.1 (Int.ofNat_lt.1 h3')
     have hd0:s.head?=s[0]?:=List.head?_eq_getElem?
     refine ⟨fun hi1=>?_,fun hi1=>?_⟩
     ·have h0s:s[0]?=some s[0]:=kH (by omega)
      refine ⟨s[0],h0s,fun h2=>?_,fun h2=>?_⟩
      ·refine bad12 ?_
       have h3:s[0]=48:=Do (by have e:(48:UInt8).toNat=48:=rfl;omega)
       unfold Ro
       rw [kN (show 1<s.length by omega),kN (show s.head?=some 48 by rw [hd0,h0s,h3])]
       simp
      ·refine go fun _=>?_
       rw [hd0,h0s]
       intro h3
       injection h3 with h3
       exact h2 (by rw [h3];rfl)
     ·refine go fun h2=>?_
      have h3:i≠1:=by omega
      have h4:i≠0:=by omega
      exact h48 (by omega)
  exact key s.length 0 (by omega) rfl (by omega) 0 false (fun _=>⟨rfl,by omega⟩) fun h=>by cases h)
 exact h
theorem c21 (s:Zc):Ze PG 21 [.s s] (.tup [.i .i64 (Wb s).1,.i .i64 (Wb s).2]):=by
 obtain ⟨x,y,⟨rfl,rfl⟩,h⟩:=p21 H.f21 (s0:=s) (K:=fun x y=>x=(Wb s).1/\y=(Wb s).2) (by
  unfold Zhn Ak
  refine ⟨fun h=>by unfold Wb;rw [kD (by omega)];exact ⟨rfl,rfl⟩,fun hs=>⟨_,_,Pz H s [45],?_⟩⟩
  unfold Wb
  rw [kA (by omega)]
  by_cases hm:s.take 1=[45]
  ·have ec:Zn [45] s=(s.drop 1,true):=by unfold Zn;rw [kD (by exact hm)];rfl
   rw [ec,kD hm]
   refine ⟨fun h=>by simp at h,fun _=>?_⟩
   have hl:=Zcn 10 9223372036854775808 (s.drop 1)
   refine ⟨_,_,c37 H (b:=10) (most:=9223372036854775808) (by omega) (by omega) (by omega) (by omega) (s:=s.drop 1) (by simp;omega),fun h=>⟨fun h0=>?_,fun h0=>?_⟩,fun h=>?_⟩
   ·have e:(rd 10 9223372036854775808 (s.drop 1)).1=0:=by omega
    rw [kD ⟨h,e⟩,e]
    exact ⟨rfl,rfl⟩
   ·rw [kA (fun hh=>h0 (by rw [hh.2];rfl))]
    refine ⟨?_,rfl⟩
    rw [yX,IntKind.wrap_i64]
    simp only
    omega
   ·have e:=Xe6 h
    rw [kA (fun hh=>h hh.1),e]
    exact ⟨rfl,rfl⟩
  ·have ec:Zn [45] s=(s,false):=by unfold Zn;rw [kA (by exact hm)]
   rw [ec,kA hm]
   refine ⟨fun _=>?_,fun h=>by simp at h⟩
   have hl:=Zcn 10 9223372036854775807 s
   exact ⟨_,_,c37 H (b:=10) (most:=9223372036854775807) (by omega) (by omega) (by omega) (by omega) (s:=s) (by omega),Ws (by omega) (by omega),rfl⟩)
 exact h
theorem c45 (s:Zc) :∃c r ok,Kw s c r ok/\Ze PG 45 [.s s] (.tup [.i .u8 c,.s r,.b ok]):=by
 refine p45 H.f45 (s0:=s) (K:=Kw s) ?_
 unfold Zi7 Zq8
 refine ⟨fun h=>by subst h;exact Kw.no rfl,fun h=>?_⟩
 cases s with
 | nil=>exact absurd rfl h
 | cons c r=>
  have lit :∀{n:Nat} (_:n<256),(UInt8.ofNat n).toNat=n:=by intro n hn;simp;omega
  unfold Znn
  refine ⟨c,rfl,?_⟩
  have t4:Ov PG (Kw (c::r)) (c::r) (c.toNat:Int) (decide (c.toNat=34\/c.toNat=92)):=by
   unfold Ov
   refine ⟨fun h1=>⟨c,rfl,by simp,?_⟩,fun h1=>?_⟩
   ·have h1:=zX h1
    exact Kw.yes (show (if c.toNat=34\/c.toNat=92 then some (c,r) else _)=some (c,r) from kD h1) rfl
   ·have h1:=yQ h1
    have e0:Dq (c::r)=if c.toNat=110 then some (10,r) else if c.toNat=120 then Cu r else none:=by
     show (if c.toNat=34\/c.toNat=92 then some (c,r) else if c.toNat=110 then some (10,r) else if c.toNat=120 then Cu r else none)=_
     rw [kA h1]
    refine ⟨fun h2=>⟨by simp,?_⟩,fun h2=>⟨fun h3=>?_,fun h3=>?_⟩⟩
    ·exact Kw.yes (by rw [e0,kD (by omega)];rfl) rfl
    ·have e:Dq (c::r)=Cu r:=by rw [e0,kA (by omega),kD (by omega)]
     refine ⟨fun h4=>?_,fun h4=>?_⟩
     ·refine Kw.no ?_
      rw [e]
      match r,h4 with
      | [],_=>rfl
      | [a],_=>rfl
      | a::b::r',h4=>simp at h4;omega
     ·match r,h4,e with
      | [],h4,_=>exact absurd (by simp) h4
      | [a],h4,_=>exact absurd (by simp) h4
      | a::b::r',_,e=>
       have la:=Im (b:=16) (by omega) a
       have lb:=Im (b:=16) (by omega) b
       have ca:Ze PG 43 [.s Bc,.i .u8 (a.toNat:Int)] (.i .i64 (dv 16 a)):=c43 H Bc a
       have cb:Ze PG 43 [.s Bc,.i .u8 (b.toNat:Int)] (.i .i64 (dv 16 b)):=c43 H Bc b
       refine ⟨a,rfl,_,ca,b,rfl,_,cb,by simp,?_⟩
       simp only [Cu] at e
       by_cases hv:0<=dv 16 a/\0<=dv 16 b
       ·have hw:IntKind.u8.wrap (IntKind.i64.wrap ((IntKind.i64.wrap (16*dv 16 a))+dv 16 b))=16*dv 16 a+dv 16 b:=by
         rw [Ws (z:=16*dv 16 a) (by omega) (by omega),Ws (by omega) (by omega),Zh0 (by omega) (by omega)]
        have en:=lit (n:=(16*dv 16 a+dv 16 b).toNat) (by omega)
        rw [hw]
        refine ⟨fun _=>⟨fun _=>⟨fun h5=>⟨fun h6=>?_,fun h6=>?_⟩,fun h5=>?_⟩,fun h5=>absurd hv.2 h5⟩,fun h5=>absurd hv.1 h5⟩
        ·rw [kD ⟨hv.1,hv.2,by omega,by omega⟩] at e
         exact Kw.yes e (by rw [en];omega)
        ·by_cases h7:126<16*dv 16 a+dv 16 b
         ·rw [kD ⟨hv.1,hv.2,by omega,by omega⟩] at e
          rw [kN h7]
          exact Kw.yes e (by rw [en];omega)
         ·rw [kA (by omega)] at e
          rw [kM h7]
          exact Kw.no e
        ·rw [kA (by omega)] at e
         exact Kw.no e
       ·rw [kA (by omega)] at e
        exact ⟨fun h5=>⟨fun h6=>absurd ⟨h5,h6⟩ hv,fun _=>Kw.no e⟩,fun _=>Kw.no e⟩
    ·exact Kw.no (by rw [e0,kA (by omega),kA (by omega)])
  unfold Zqa
  refine ⟨fun h1=>?_,fun h1=>?_⟩
  ·rw [show decide ((c.toNat:Int)=34)=decide (c.toNat=34\/c.toNat=92) from decide_eq_decide.2 (by omega)]
   exact t4
  ·rw [show decide ((c.toNat:Int)=92)=decide (c.toNat=34\/c.toNat=92) from decide_eq_decide.2 (by omega)]
   exact t4
theorem c39 {s:Zc} (hs:s.length<=10000000):Ze PG 39 [.s s] (.tup [.s (Dh s).1,.s (Dh s).2.1,.b (Dh s).2.2]):=by
 obtain ⟨x,y,z,⟨rfl,rfl,rfl⟩,h⟩:=p39 H.f39 (s0:=s) (K:=fun x y z=>x=(Dh s).1/\y=(Dh s).2.1/\z=(Dh s).2.2) (by
  have no:Ms s=none->([]:Zc)=(Dh s).1/\([]:Zc)=(Dh s).2.1/\false=(Dh s).2.2:=by
   intro h
   unfold Dh
   rw [h]
   exact ⟨rfl,rfl,rfl⟩
  unfold Zlc Zqm
  refine ⟨_,_,Pz H s [34],?_⟩
  cases s with
  | nil=>
   rw [show Zn [34] []=([],false) from rfl]
   exact ⟨fun _=>no rfl,fun h=>by simp at h⟩
  | cons q s=>
   by_cases hq:q.toNat=34
   ·have hq':q=34:=Do hq
    subst hq'
    have ec:Zn [34] (34::s)=(s,true):=by unfold Zn;rw [kD (show List.take ([34]:Zc).length (34::s)=[34] from rfl)];rfl
    rw [ec]
    refine ⟨fun h=>by simp at h,fun _ P hP=>?_⟩
    have hn:Ms (34::s)=Tp (s.length+1) [] s:=by
     simp only [Ms]
     rw [kD hq]
    have key :∀n b r,r.length<n->b.length+r.length<=10000000->Tp n b r=Ms (34::s)->P r b:=by
     intro n
     induction n with
     | zero=>intro b r h;exact absurd h (yE _)
     | succ n ih=>
      intro b r hr hb hx
      apply hP
      unfold Zol
      cases r with
      | nil=>exact ⟨fun h=>absurd rfl h,fun _=>no (by rw [<- hx];rfl)⟩
      | cons c r=>
       simp only [Tp] at hx
       refine ⟨fun _=>⟨c,rfl,by simp,fun h1=>?_,fun h1=>⟨fun h2=>?_,fun h2=>⟨fun h3=>?_,fun h3=>⟨fun h4=>?_,fun h4=>?_⟩⟩⟩⟩,fun h=>absurd (by simp) h⟩
       ·rw [kD (by omega)] at hx
        unfold Dh
        rw [<- hx]
        exact ⟨rfl,rfl,rfl⟩
       ·refine no ?_
        rw [<- hx,kA (by omega),show one (c::r)=none by simp only [one];rw [kD (by omega)]]
       ·refine no ?_
        rw [<- hx,kA (by omega),show one (c::r)=none by simp only [one];rw [kD (by omega)]]
       ·rw [kA (by omega),show one (c::r)=Dq r by simp only [one];rw [kA (by omega),kD (by omega)]] at hx
        obtain ⟨a,r',ok,hk,hp⟩:=c45 H r
        refine ⟨a,r',ok,hp,fun h5=>?_,fun h5=>?_⟩
        ·unfold Kw at hk
         cases he:Dq r with
         | none=>rw [he] at hx;exact no hx.symm
         | some p=>
          rw [he] at hk
          obtain ⟨_,_,hk⟩:=hk
          rw [hk] at h5
          exact absurd h5 (by decide)
        ·unfold Kw at hk
         cases he:Dq r with
         | none=>
          rw [he] at hk
          simp only at hk
          rw [hk] at h5
          exact absurd h5 (by decide)
         | some p=>
          obtain ⟨u,v⟩:=p
          rw [he] at hk hx
          obtain ⟨h6,h7,h8⟩:=hk
          simp only at hx h6 h7
          subst h6;subst h7
          have hl:r'.length<(c::r).length:=Zsn (c:=u) (by simp only [one];rw [kA (by omega),kD (by omega)];exact he)
          simp only [kB] at hl hb hr
          unfold Za2
          refine ⟨u,rfl,⟨?_,?_⟩,ih _ _ (by omega) ?_ hx⟩
          ·simp only [kB,kG,Wq];omega
          ·simp only [kB,kG,Wq];omega
          ·simp only [kF,kB,kG];omega
       ·rw [kA (by omega),show one (c::r)=some (c,r) by simp only [one];rw [kA (by omega),kA (by omega)]] at hx
        simp only [kB] at hb hr
        unfold Za2
        refine ⟨c,rfl,⟨?_,?_⟩,ih _ _ (show r.length<n by omega) ?_ hx⟩
        ·simp only [kB,kG,Wq];omega
        ·simp only [kB,kG,Wq];omega
        ·simp only [yF,zT,kF,kB,kG];omega
    exact key (s.length+1) [] s (by omega) (by simp at hs ⊢;omega) hn.symm
   ·have ec:Zn [34] (q::s)=(q::s,false):=by
     unfold Zn
     rw [kA ?_]
     intro h
     injection h with h
     exact hq (by rw [h];rfl)
    rw [ec]
    refine ⟨fun _=>no ?_,fun h=>by simp at h⟩
    simp only [Ms]
    rw [kA hq])
 exact h
theorem c25 (s:Zc):Ze PG 25 [.s s] (.tup [.s (Nt s).1,.i .i64 (Nt s).2]):=by
 obtain ⟨x,y,⟨rfl,rfl⟩,h⟩:=p25 H.f25 (s0:=s) (K:=fun x y=>x=(Nt s).1/\y=(Nt s).2) (by
  unfold Zjr Nt
  refine ⟨fun h=>by rw [kD (by omega)];exact ⟨rfl,rfl⟩,fun hs=>⟨_,_,_,c39 H (by omega),?_⟩⟩
  rw [kA (by omega)]
  unfold Dh
  cases Ms s with
  | none=>exact ⟨fun _=>⟨rfl,rfl⟩,fun h=>by simp at h⟩
  | some p=>
   obtain ⟨x,r⟩:=p
   refine ⟨fun h=>by simp at h,fun _=>⟨fun h=>?_,fun h=>?_⟩⟩
   ·cases r with
    | nil=>exact absurd rfl h
    | cons c r=>exact ⟨rfl,rfl⟩
   ·have h:r=[]:=Classical.not_not.1 h
    subst h
    refine ⟨fun h=>?_,fun h=>?_⟩
    ·simp only at h ⊢
     rw [kD (by omega)];exact ⟨rfl,rfl⟩
    ·simp only at h ⊢
     rw [kA (by omega)];exact ⟨rfl,rfl⟩)
 exact h
theorem c29 {a b:List Zc} (ha:a.length<=1000000000):Ze PG 29 [.sl .ext (a.map Zt),.sl .ext (b.map Zt)] (.b (decide (a=b))):=by
 obtain ⟨x,rfl,h⟩:=p29 H.f29 (a0:=a) (b1:=b) (K:=fun x=>x=decide (a=b)) (by
  unfold Zpf
  refine ⟨fun h=>(kM fun e=>h (by rw [e])).symm,fun hl P hP=>?_⟩
  have hlen:a.length=b.length:=by omega
  have key :∀m i:Nat,i+m=a.length->(∀j,j<i->a[j]?=b[j]?)->P (i:Int):=by
   intro m
   induction m with
   | zero=>
    intro i hi hj
    apply hP
    unfold Zfg Znd
    refine ⟨fun h=>absurd h (by omega),fun _=>(kN ?_).symm⟩
    apply List.ext_getElem?
    intro j
    rcases jE j i with h | h
    ·exact hj j h
    ·rw [kR (by omega),kR (by omega)]
   | succ m ih=>
    intro i hi hj
    have h1:i<a.length:=by omega
    have h2:i<b.length:=by omega
    apply hP
    unfold Zfg
    refine ⟨fun _=>⟨by omega,a[i],by rw [De,kH h1],by omega,b[i],by rw [De,kH h2],fun h=>?_,fun h=>?_⟩,fun h=>absurd h (by omega)⟩
    ·refine (kM fun e=>h ?_).symm
     subst e
     rfl
    ·rw [Sa (by omega)]
     refine ih (i+1) (by omega) fun j hj'=>?_
     rcases jE j i with h3 | h3
     ·exact hj j h3
     ·have:j=i:=by omega
      subst this
      rw [kH h1,kH h2,Classical.not_not.1 h]
  exact key a.length 0 (by omega) (by simp))
 exact h
end
end Go.AM

namespace Go.AM
open Go
def Uu (c:UInt8):Bool:=decide (48<=c.toNat)&&decide (c.toNat<=57)
def Qp:Zc->Nat
 | []=>0
 | c::s=>if Uu c=true then 1+Qp s else 0
def Jl (s:Zc):Nat:=if s.head?=some 45 then 1+Qp (s.drop 1) else Qp s
theorem Zgx :∀s:Zc,Qp s<=s.length
 | []=>kU _
 | c::s=>by
  have:=Zgx s
  rw [Qp,kB]
  split<;>omega
theorem Yok (s:Zc):Jl s<=s.length:=by
 unfold Jl
 cases s with
 | nil=>simp [Qp]
 | cons c s=>
  have h1:=Zgx s
  have h2:=Zgx (c::s)
  split
  ·simp only [yF,zT,kB];omega
  ·exact h2
def qs:Zc->Option Nat
 | []=>none
 | c::r=>if c=92 then (match r with | []=>none | _::r'=>(qs r').map (·+2)) else if c=34 then some 1 else (qs r).map (·+1)
def Km (s:Zc):Int × Bool × Zc:=((Wb (s.take (Jl s))).1,decide ((Wb (s.take (Jl s))).2=0),s.drop (Jl s))
def Gy (s:Zc):Zc × Bool × Zc:=match qs (s.drop 1) with
 | none=>([],false,s)
 | some k=>((Nt (s.take (k+1))).1,decide ((Nt (s.take (k+1))).2=0),s.drop (k+1))
def Gn (f:Zc->Za × Bool × Zc) (kind:Int) (stop:Zc):Nat->List Za->Zc->Za × Bool × Zc
 | 0,acc,s=>(Za.mk kind 0 [] acc false,false,s)
 | k+1,acc,s=>if (f s).2.1=false then (Za.mk kind 0 [] acc false,false,(f s).2.2) else
   if (Zn stop (f s).2.2).2=true then (Za.mk kind 0 [] (acc++[(f s).1]) false,true,(Zn stop (f s).2.2).1) else
   if (Zn [44,32] (Zn stop (f s).2.2).1).2=false then (Za.mk kind 0 [] (acc++[(f s).1]) false,false,(Zn [44,32] (Zn stop (f s).2.2).1).1) else
   Gn f kind stop k (acc++[(f s).1]) (Zn [44,32] (Zn stop (f s).2.2).1).1
def Uq (f:Zc->Za × Bool × Zc) (kind:Int) (stop s:Zc):Za × Bool × Zc:=
 if (Zn stop s).2=true then (Za.mk kind 0 [] [] false,true,(Zn stop s).1) else Gn f kind stop 17 [] (Zn stop s).1
def Jb:Nat->Zc->Za × Bool × Zc
 | 0,s=>(vz,false,s)
 | d+1,s=>if s=[] then (vz,false,s) else
   if (Zn Qx s).2=true then (Za.mk 1 1 [] [] false,true,(Zn Qx s).1) else
   if (Zn Qg s).2=true then (Za.mk 1 0 [] [] false,true,(Zn Qg s).1) else
   if (Zn Qw s).2=true then (Za.mk 4 0 [] [] false,true,(Zn Qw s).1) else
   if (Zn Ud s).2=true then (Za.mk 4 0 [] [] true,true,(Zn Ud s).1) else
   if (Zn Um s).2=true then (Za.mk 7 0 [] [] true,true,(Zn Um s).1) else
   if (Zn [38] s).2=true then (Za.mk 4 0 [] [(Jb d (Zn [38] s).1).1] false,(Jb d (Zn [38] s).1).2) else
   if (Zn [123] s).2=true then Uq (Jb d) 5 [125] (Zn [123] s).1 else
   if (Zn [91] s).2=true then Uq (Jb d) 6 [93] (Zn [91] s).1 else
   if (Zn [60] s).2=true then Uq (Jb d) 7 [62] (Zn [60] s).1 else
   if s.head?=some 34 then (Za.mk 3 0 (Gy s).1 [] false,(Gy s).2) else
   (Za.mk 2 (Km s).1 [] [] false,(Km s).2)
theorem Nf {p s:Zc} (h:(Zn p s).2=false):(Zn p s).1=s:=by
 unfold Zn at h ⊢
 split
 ·rename_i h1;rw [kD h1] at h;cases h
 ·rfl
theorem Jx (p s:Zc):Zn p (p++s)=(s,true):=by
 unfold Zn
 rw [kD (by simp),yU]
theorem Ih {c d:UInt8} {p s:Zc} (h:c≠d):Zn (c::p) (d::s)=(d::s,false):=by
 unfold Zn
 rw [kA]
 simp only [kB,yZ,List.cons.injEq]
 rintro ⟨rfl,_⟩
 exact h rfl
theorem Zav (c:UInt8) (p s:Zc):Zn (c::p) (c::s)=if (Zn p s).2=true then ((Zn p s).1,true) else (c::s,false):=by
 unfold Zn
 simp only [kB,yZ,List.cons.injEq,true_and,yF]
 split<;>simp_all
theorem Zsb (s:Zc):-9223372036854775808<=(Wb s).1/\(Wb s).1<9223372036854775808:=by
 have h1:=Zcn 10 9223372036854775808 (s.drop 1)
 have h2:=Zcn 10 9223372036854775807 s
 unfold Wb
 split
 ·exact ⟨by decide,by decide⟩
 split
 ·split
  ·exact ⟨by decide,by decide⟩
  ·dsimp only
   omega
 ·dsimp only
  omega
theorem Wf.ite {c:Prop} [Decidable c] {a b:Za × Bool × Zc} (ha:Wf a.1) (hb:Wf b.1):Wf (if c then a else b).1:=by
 split
 ·exact ha
 ·exact hb
theorem Yf3 {f:Zc->Za × Bool × Zc} {kind:Int} {stop:Zc} (hk:0<=kind/\kind<256) (hf :∀s,Wf (f s).1) :∀(n:Nat) (acc:List Za) (s:Zc),n<=17->acc.length+n=17->(∀x∈acc,Wf x)->Wf (Gn f kind stop n acc s).1
 | 0,acc,s,_,hl,h=>by
  rw [Gn]
  exact .mk hk (by decide) (by omega) h
 | n+1,acc,s,hn,hl,h=>by
  have h1 :∀x∈acc++[(f s).1],Wf x:=by
   intro x hx
   rcases jB.1 hx with hx | hx
   ·exact h x hx
   ·rw [jV.1 hx];exact hf s
  rw [Gn]
  split
  ·exact .mk hk (by decide) (by omega) h
  ·split
   ·exact .mk hk (by decide) (by simp;omega) h1
   ·split
    ·exact .mk hk (by decide) (by simp;omega) h1
    ·exact Yf3 hk hf n _ _ (by omega) (by simp;omega) h1
theorem Znu {f:Zc->Za × Bool × Zc} {kind:Int} {stop s:Zc} (hk:0<=kind/\kind<256) (hf :∀s,Wf (f s).1):Wf (Uq f kind stop s).1:=by
 unfold Uq
 split
 ·exact .mk hk (by decide) (by decide) (by simp)
 ·exact Yf3 hk hf 17 [] _ (by omega) rfl (by simp)
theorem Tj :∀(d:Nat) (s:Zc),Wf (Jb d s).1
 | 0,s=>Wf.zero
 | d+1,s=>by
  have w0 :∀(k n:Int) (c:Bool),0<=k/\k<256->-9223372036854775808<=n/\n<9223372036854775808->Wf (Za.mk k n [] [] c):=fun k n c h1 h2=>.mk h1 h2 (by decide) (by simp)
  rw [Jb]
  exact .ite Wf.zero (.ite (w0 _ _ _ (by decide) (by decide)) (.ite (w0 _ _ _ (by decide) (by decide)) (.ite (w0 _ _ _ (by decide) (by decide)) (.ite (w0 _ _ _ (by decide) (by decide)) (.ite (w0 _ _ _ (by decide) (by decide))
   (.ite (.mk (by decide) (by decide) (by simp) (fun x hx=>by rw [jV.1 hx];exact Tj d _)) (.ite (Znu (by decide) (Tj d)) (.ite (Znu (by decide) (Tj d)) (.ite (Znu (by decide) (Tj d))
   (.ite (.mk (by decide) (by decide) (by simp) (by simp)) (.mk (by decide) (Zsb _) (by simp) (by simp))))))))))))
def Stop (r:Zc):Prop:=∀c,r.head?=some c->c=44\/c=125\/c=93\/c=62
theorem Stop.notD {r:Zc} (h:Stop r):Qp r=0:=by
 cases r with
 | nil=>rfl
 | cons c r=>
  rw [Qp,kA]
  rcases h c rfl with rfl | rfl | rfl | rfl<;>decide
theorem Zod :∀(s r:Zc),(∀c∈s,Uu c=true)->Qp r=0->Qp (s++r)=s.length
 | [],r,_,h=>h
 | c::s,r,hs,h=>by
  rw [kZ,Qp,kD (hs c jN),Zod s r (fun c hc=>hs c (jL _ hc)) h,kB]
  omega
theorem Zwo :∀n:Fin 10,Uu (Kv n.val)=true:=by decide
theorem Ct :∀(f n:Nat),∀c∈ds 10 f n,Uu c=true
 | 0,n,c,h=>by simp [ds] at h
 | f+1,n,c,h=>by
  rw [ds] at h
  split at h
  ·rename_i hn
   rw [jV.1 h]
   exact Zwo ⟨n,hn⟩
  ·rcases jB.1 h with h | h
   ·exact Ct f _ c h
   ·rw [jV.1 h]
    exact Zwo ⟨n % 10,Nat.mod_lt _ (by decide)⟩
theorem Yuy {c:UInt8} {l:List UInt8} (h:Uu c=true) (hl:(l.all fun x=>!Uu x)=true):c ∉ l:=by
 intro hc
 have:=zB.1 hl c hc
 rw [h] at this
 cases this
theorem Znp (n:Int) :∃c r,Xe n=c::r/\(c=45\/Uu c=true):=by
 have hd :∀n,∃c r,Jd 10 n=c::r/\Uu c=true:=by
  intro n
  have h1:=Zlz 10 n
  have h2:=Ct 64 n
  unfold Jd at *
  cases h:ds 10 64 n with
  | nil=>exact absurd h h1
  | cons c r=>exact ⟨c,r,rfl,h2 c (by rw [h];exact jN)⟩
 unfold Xe
 split
 ·exact ⟨45,_,rfl,.inl rfl⟩
 ·obtain ⟨c,r,h1,h2⟩:=hd n.toNat
  exact ⟨c,r,h1,.inr h2⟩
theorem Yui {n:Int} {r:Zc} (hr:Qp r=0):Jl (Xe n++r)=(Xe n).length:=by
 unfold Xe Jl
 split
 ·rw [kZ,xE,kD rfl,yF,zT,kB,Nat.add_comm]
  congr 1
  exact Zod _ r (Ct 64 _) hr
 ·obtain ⟨c,t,h1,h2⟩:=Znp n
  rw [Xe,kA (by assumption)] at h1
  rw [kA]
  ·exact Zod _ r (Ct 64 _) hr
  rw [h1,kZ,xE]
  intro e
  injection e with e
  subst e
  rcases h2 with h2 | h2
  ·have:=Ct 64 n.toNat 45 (by show (45:UInt8)∈Jd 10 n.toNat;rw [h1];exact jN)
   exact absurd this (by decide)
  ·exact absurd h2 (by decide)
theorem Zwh {n:Int} {r:Zc} (h1:-9223372036854775808<=n) (h2:n<9223372036854775808) (hr:Qp r=0):Km (Xe n++r)=(n,true,r):=by
 unfold Km
 rw [Yui hr,List.take_left,yU,Pi h1 h2]
 rfl
theorem Zzt :∀(s r:Zc),qs (Jw s++34::r)=some ((Jw s).length+1)
 | [],r=>by
  show qs (34::r)=some 1
  rw [qs.eq_def]
  simp
 | c::s,r=>by
  have ih:=Zzt s r
  have e:Jw (c::s)=Jf c++Jw s:=rfl
  have hx :∀k:Fin 16,Kv k.val≠92/\Kv k.val≠34:=by decide
  rw [e,jC]
  unfold Jf
  split
  ·rw [kZ,kZ,zA,qs.eq_def]
   simp only [jO,ih,kJ,kF,kB,kG]
   congr 1
   omega
  ·rename_i h1
   split
   ·rw [kZ,kZ,zA,qs.eq_def]
    simp only [jO,ih,kJ,kF,kB,kG]
    congr 1
    omega
   ·split
    ·have hc:=c.toNat_lt
     obtain ⟨a1,a2⟩:=hx ⟨c.toNat / 16,by omega⟩
     obtain ⟨b1,b2⟩:=hx ⟨c.toNat % 16,by omega⟩
     simp only at a1 a2 b1 b2
     rw [kZ,kZ,kZ,kZ,zA,qs.eq_def]
     simp only [jO]
     rw [qs.eq_def]
     simp only [kA a1,kA a2]
     rw [qs.eq_def]
     simp only [kA b1,kA b2,ih,kJ,kF,kB,kG]
     congr 1
     omega
    ·have c1:c≠92:=by rintro rfl;exact h1 (.inr rfl)
     have c2:c≠34:=by rintro rfl;exact h1 (.inl rfl)
     rw [kZ,zA,qs.eq_def]
     simp only [kA c1,kA c2,ih,kJ,kF,kB,kG]
     congr 1
     omega
theorem Ylf {s r:Zc} (h:s.length<=400):Gy (quo s++r)=(s,true,r):=by
 have e:quo s++r=34::(Jw s++34::r):=by simp [quo]
 have e2:(quo s).length=(Jw s).length+1+1:=by simp [quo]
 unfold Gy
 rw [show (quo s++r).drop 1=Jw s++34::r by rw [e];rfl,Zzt]
 simp only
 rw [<- e2,List.take_left,yU,Ysk h]
 rfl
end Go.AM

namespace Go.AM
open Go
theorem Yu7 (v:Za) :∃c t,Xg v=c::t/\(c∈([116,102,110,38,60,123,91,34,45]:Zc)\/Uu c=true):=by
  rw [Cb]
  have h1:=Znp v.int
  repeat' split
  all_goals first
    | (obtain ⟨c,t,h2,h3⟩:=h1
       refine ⟨c,t,h2,?_⟩
       rcases h3 with rfl | h3
       . exact .inl (by decide)
       . exact .inr h3)
    | exact ⟨_,_,rfl,.inl (by decide)⟩
theorem Zn2 {v:Za} {e:UInt8} (he:(e=46\/e=125\/e=93\/e=62\/e=44)) (p r:Zc):(Zn (e::p) (Xg v++r))=(Xg v++r,false):=by
  obtain ⟨c,t,h1,h2⟩:=Yu7 v
  rw [h1,kZ]
  refine Ih ?_
  rintro rfl
  rcases h2 with h2 | h2
  . rcases he with rfl | rfl | rfl | rfl | rfl<;>exact absurd h2 (by decide)
  . rcases he with rfl | rfl | rfl | rfl | rfl<;>exact absurd h2 (by decide)
section
variable {f:Zc->Za × Bool × Zc} {kind:Int} {e:UInt8}
theorem Zvt (he:e=125\/e=93\/e=62) :∀(l:List Za) (x:Za) (acc:List Za) (n:Nat) (r:Zc),(∀y∈x::l,∀r,Stop r->f (Xg y++r)=(y,true,r))->l.length<n->Gn f kind [e] n acc (Xb (x::l)++e::r)=(Za.mk kind 0 [] (acc++x::l) false,true,r)
  | l,x,acc,0,r,hf,hn=>absurd hn (yE _)
  | [],x,acc,n+1,r,hf,hn=>by
    have hs:Stop (e::r):=by intro c hc;injection hc with hc;subst hc;rcases he with h | h | h<;>simp [h]
    have h1:=hf x jN (e::r) hs
    have h2:Zn [e] (e::r)=(r,true):=Jx [e] r
    rw [Zim,Gn]
    simp only [h1,h2,jW,jS,jO]
  | y::l,x,acc,n+1,r,hf,hn=>by
    have e1:Xb (x::y::l)++e::r=Xg x++(44::32::(Xb (y::l)++e::r)):=by simp [Xb,Ub]
    have hs:Stop (44::32::(Xb (y::l)++e::r)):=by intro c hc;injection hc with hc;subst hc;exact .inl rfl
    have h1:=hf x jN _ hs
    have hne:e≠44:=by rcases he with rfl | rfl | rfl<;>decide
    have h2:Zn [e] (44::32::(Xb (y::l)++e::r))=(44::32::(Xb (y::l)++e::r),false):=Ih hne
    have h3:Zn [44,32] (44::32::(Xb (y::l)++e::r))=(Xb (y::l)++e::r,true):=Jx [44,32] _
    have ih:=Zvt he l y (acc++[x]) n r (fun z hz=>hf z (jL _ hz)) (by simp only [kB] at hn;omega)
    rw [e1,Gn]
    simp only [h1,h2,h3,jW,jK,jS]
    rw [ih,jC]
    rfl
theorem Zkf (he:e=125\/e=93\/e=62) (l:List Za) (r:Zc) (hf :∀y∈l,∀r,Stop r->f (Xg y++r)=(y,true,r)) (hn:l.length<=16):Uq f kind [e] (Xb l++e::r)=(Za.mk kind 0 [] l false,true,r):=by
  unfold Uq
  cases l with
  | nil=>
    have h2:Zn [e] (Xb []++e::r)=(r,true):=Jx [e] r
    simp only [h2,jO]
  | cons x l=>
    have h2:Zn [e] (Xb (x::l)++e::r)=(Xb (x::l)++e::r,false):=by
      rw [Xb,jC]
      exact Zn2 (by rcases he with h | h | h<;>simp [h]) _ _
    simp only [h2,jK,jS]
    exact Zvt he l x [] 17 r hf (by simp only [kB] at hn;omega)
end
theorem Yzi {l:List Za} {e:UInt8} {p r:Zc}:(Zn (46::p) (Xb l++62::r)).2=false:=by
  cases l with
  | nil=>rw [show Xb []++62::r=62::r from rfl,Ih (by decide)]
  | cons x l=>rw [Xb,jC,Zn2 (.inl rfl)]
theorem Hl {α:Type} {l:List α} (h:l.length=0):l=[]:=yM.1 h
theorem Zun :∀(d:Nat) (v:Za),Kt d v=true->Wf v->∀r,Stop r->Jb d (Xg v++r)=(v,true,r)
  | 0,v,h,_,r,hr=>by cases h
  | d+1,v,h,hw,r,hr=>by
    have h1:=Re h
    have h2:=Zf4 h
    have ih :∀y∈v.list,∀r,Stop r->Jb d (Xg y++r)=(y,true,r):=fun y hy=>Zun d y (h2 y hy) (hw.e y hy)
    have hn:=hw.n
    have hne :∀x:Zc,¬(Xg v++x=[]):=fun x e=>Zto v (List.append_eq_nil_iff.1 e).1
    clear h h2 hw
    cases v with
    | mk k n s l c=>
    unfold Za.okh Qe at h1
    simp only [Za.kind_mk,Za.int_mk,Za.text_mk,Za.list_mk,Za.cut_mk] at h1 ih hn
    have ht:=hne r
    rw [Jb,kA ht]
    clear ht hne
    have nohead :∀{a b:UInt8} {p t:Zc},a≠b->(Zn (a::p) (b::t)).2=false:=fun h=>by rw [Ih h]
    rcases h1 with ⟨rfl,a1,a2,a3,a4⟩ | ⟨rfl,a1,a2,a3⟩ | ⟨rfl,a1,a2,rfl,a4⟩ | ⟨rfl,rfl,a1,a2,a3⟩ | ⟨rfl,rfl,a1,a2,a3⟩ | ⟨rfl,rfl,a1,a2,a3,a4⟩ | ⟨rfl,rfl,a1,a2,a3⟩
    . have:=Hl a1;have:=Hl a3;subst l;subst s
      have:c=false:=by cases c;rfl;cases a2
      subst c
      rcases a4 with rfl | rfl
      . rw [show Xg (Za.mk 1 0 [] [] false)=Qg from rfl,show Qg++r=102::([97,108,115,101]++r) from rfl,Qx,kA (by rw [nohead (by decide)];decide)]
        have:=Jx Qg r
        rw [show Qg++r=102::([97,108,115,101]++r) from rfl] at this
        rw [kD (by rw [this]),this]
      . rw [show Xg (Za.mk 1 1 [] [] false)=Qx from rfl,kD (by rw [Jx]),Jx]
    . have:=Hl a1;have:=Hl a3;subst l;subst s
      have:c=false:=by cases c;rfl;cases a2
      subst c
      rw [show Xg (Za.mk 2 n [] [] false)=Xe n from rfl]
      have hd:=Zwh (r:=r) hn.1 hn.2 hr.notD
      obtain ⟨x,t,h3,h4⟩:=Znp n
      rw [h3] at hd ⊢
      rw [kZ] at hd ⊢
      have hx :∀y:UInt8,y∈([116,102,110,38,60,123,91,34]:Zc)->y≠x:=by
        rintro y hy rfl
        rcases h4 with rfl | h4
        . exact absurd hy (by decide)
        . exact Yuy h4 (by decide) hy
      rw [Qx,kA (by rw [nohead (hx _ (by decide))];decide),Qg,kA (by rw [nohead (hx _ (by decide))];decide),Qw,kA (by rw [nohead (hx _ (by decide))];decide),Ud,kA (by rw [nohead (hx _ (by decide))];decide),Um,kA (by rw [nohead (hx _ (by decide))];decide),
        kA (by rw [nohead (hx _ (by decide))];decide),kA (by rw [nohead (hx _ (by decide))];decide),kA (by rw [nohead (hx _ (by decide))];decide),kA (by rw [nohead (hx _ (by decide))];decide),
        kA (by rw [xE];intro e;injection e with e;exact hx 34 (by decide) e.symm),hd]
    . have:=Hl a1;subst l
      have:c=false:=by cases c;rfl;cases a2
      subst c
      rw [show Xg (Za.mk 3 0 s [] false)=quo s from rfl]
      have hd:=Ylf (s:=s) (r:=r) (by omega)
      rw [show quo s++r=34::(Jw s++[34]++r) from rfl] at hd ⊢
      rw [Qx,kA (by rw [nohead (by decide)];decide),Qg,kA (by rw [nohead (by decide)];decide),Qw,kA (by rw [nohead (by decide)];decide),Ud,kA (by rw [nohead (by decide)];decide),Um,kA (by rw [nohead (by decide)];decide),
        kA (by rw [nohead (by decide)];decide),kA (by rw [nohead (by decide)];decide),kA (by rw [nohead (by decide)];decide),kA (by rw [nohead (by decide)];decide),xE,kD rfl,hd]
    . have:=Hl a1;subst s
      cases c with
      | true=>
        have:=Hl (a3.resolve_left (by decide));subst l
        have e:=Jx Ud r
        rw [show Xg (Za.mk 4 0 [] [] true)=Ud from rfl]
        rw [show Ud++r=38::([46,46,46]++r) from rfl] at e ⊢
        rw [Qx,kA (by rw [nohead (by decide)];decide),Qg,kA (by rw [nohead (by decide)];decide),Qw,kA (by rw [nohead (by decide)];decide),kD (by rw [e]),e]
      | false=>
        match l,a2 with
        | [],_=>
          have e:=Jx Qw r
          rw [show Xg (Za.mk 4 0 [] [] false)=Qw from rfl]
          rw [show Qw++r=110::([105,108]++r) from rfl] at e ⊢
          rw [Qx,kA (by rw [nohead (by decide)];decide),Qg,kA (by rw [nohead (by decide)];decide),kD (by rw [e]),e]
        | [w],_=>
          rw [show Xg (Za.mk 4 0 [] [w] false)=38::Xb [w] from rfl,Zim,kZ]
          have e:Zn [38] (38::(Xg w++r))=(Xg w++r,true):=Jx [38] _
          have e2:(Zn Ud (38::(Xg w++r))).2=false:=by rw [Ud,Zav,Zn2 (.inl rfl)];rfl
          rw [Qx,kA (by rw [nohead (by decide)];decide),Qg,kA (by rw [nohead (by decide)];decide),Qw,kA (by rw [nohead (by decide)];decide),kA (by rw [e2];decide),Um,kA (by rw [nohead (by decide)];decide),kD (by rw [e]),e]
          simp only
          rw [ih w jN r hr]
    . have:=Hl a1;subst s
      have:c=false:=by cases c;rfl;cases a3
      subst c
      rw [show Xg (Za.mk 5 0 [] l false)=123::(Xb l++[125]) from rfl]
      have e0:123::(Xb l++[125])++r=123::(Xb l++125::r):=by simp
      have e:Zn [123] (123::(Xb l++125::r))=(Xb l++125::r,true):=Jx [123] _
      rw [e0,Qx,kA (by rw [nohead (by decide)];decide),Qg,kA (by rw [nohead (by decide)];decide),Qw,kA (by rw [nohead (by decide)];decide),Ud,kA (by rw [nohead (by decide)];decide),Um,kA (by rw [nohead (by decide)];decide),kA (by rw [nohead (by decide)];decide),kD (by rw [e]),e]
      exact Zkf (.inl rfl) l r ih (by omega)
    . have:=Hl a1;subst s
      have:c=false:=by cases c;rfl;cases a4
      subst c
      rw [show Xg (Za.mk 6 0 [] l false)=91::(Xb l++[93]) from rfl]
      have e0:91::(Xb l++[93])++r=91::(Xb l++93::r):=by simp
      have e:Zn [91] (91::(Xb l++93::r))=(Xb l++93::r,true):=Jx [91] _
      rw [e0,Qx,kA (by rw [nohead (by decide)];decide),Qg,kA (by rw [nohead (by decide)];decide),Qw,kA (by rw [nohead (by decide)];decide),Ud,kA (by rw [nohead (by decide)];decide),Um,kA (by rw [nohead (by decide)];decide),kA (by rw [nohead (by decide)];decide),kA (by rw [nohead (by decide)];decide),kD (by rw [e]),e]
      exact Zkf (.inr (.inl rfl)) l r ih (by omega)
    . have:=Hl a1;subst s
      cases c with
      | true=>
        have:=Hl (a3.resolve_left (by decide));subst l
        have e:=Jx Um r
        rw [show Xg (Za.mk 7 0 [] [] true)=Um from rfl]
        rw [show Um++r=60::([46,46,46,62]++r) from rfl] at e ⊢
        rw [Qx,kA (by rw [nohead (by decide)];decide),Qg,kA (by rw [nohead (by decide)];decide),Qw,kA (by rw [nohead (by decide)];decide),Ud,kA (by rw [nohead (by decide)];decide),kD (by rw [e]),e]
      | false=>
        rw [show Xg (Za.mk 7 0 [] l false)=60::(Xb l++[62]) from rfl]
        have e0:60::(Xb l++[62])++r=60::(Xb l++62::r):=by simp
        have e:Zn [60] (60::(Xb l++62::r))=(Xb l++62::r,true):=Jx [60] _
        have e2:(Zn Um (60::(Xb l++62::r))).2=false:=by
          have:=Yzi (l:=l) (e:=0) (p:=[46,46,62]) (r:=r)
          rw [Um,Zav,kA (by rw [this];decide)]
        rw [e0,Qx,kA (by rw [nohead (by decide)];decide),Qg,kA (by rw [nohead (by decide)];decide),Qw,kA (by rw [nohead (by decide)];decide),Ud,kA (by rw [nohead (by decide)];decide),kA (by rw [e2];decide),kA (by rw [nohead (by decide)];decide),kA (by rw [nohead (by decide)];decide),kA (by rw [nohead (by decide)];decide),kD (by rw [e]),e]
        exact Zkf (.inr (.inr rfl)) l r ih (by omega)
def Ji (s:Zc):Za × Int:=if 1400000<s.length then (vz,4) else
  if (Jb 130 s).2.1=true/\(Jb 130 s).2.2=[]/\Vh (Jb 130 s).1=true/\Xg (Jb 130 s).1=s then ((Jb 130 s).1,0) else (vz,12)
theorem Sj {v:Za} (h:Vh v=true):Kt 130 v=true/\v.nodes<=5000:=by
  simpa [Vh] using h
theorem Yrk {v:Za} (h:Vh v=true) (hw:Wf v):Jb 130 (Xg v)=(v,true,[]):=by
  have:=Zun 130 v (Sj h).1 hw [] (by intro c hc;cases hc)
  rwa [zQ] at this
theorem Zi3 {v:Za} (h:Vh v=true) (hw:Wf v):Ji (Xg v)=(v,0):=by
  have h1:=Cq h
  unfold Ji
  rw [kA (by omega),Yrk h hw,kD ⟨rfl,rfl,h,rfl⟩]
theorem Zsv {s:Zc} (h:(Ji s).2=0):Vh (Ji s).1=true/\Xg (Ji s).1=s/\Wf (Ji s).1:=by
  unfold Ji at h ⊢
  split
  . rename_i h1;rw [kD h1] at h;cases h
  . rename_i h1
    rw [kA h1] at h
    split
    . rename_i h2;exact ⟨h2.2.2.1,h2.2.2.2,Tj _ _⟩
    . rename_i h2;rw [kA h2] at h;cases h
theorem Ybx (s:Zc):Wf (Ji s).1:=by
  unfold Ji
  split
  . exact Wf.zero
  . split
    . exact Tj _ _
    . exact Wf.zero
noncomputable def Sv (v w:Za):Bool:=@decide (v=w) (Classical.propDecidable _)
theorem Fo {v w:Za}:Sv v w=true↔v=w:=by unfold Sv;simp
theorem Zey {v w:Za}:Sv v w=false↔v≠w:=by
  rw [<- zV,Fo]
end Go.AM

namespace Go.AM
open Go
theorem Yaj {x m c:BitVec 64} (h:x &&& ~~~m=c):x=c ||| (x &&& m):=by
 subst h
 apply BitVec.eq_of_getLsbD_eq
 intro i hi
 simp only [BitVec.getLsbD_or,BitVec.getLsbD_and,BitVec.getLsbD_not,hi,decide_true,zN]
 cases x.getLsbD i<;>cases m.getLsbD i<;>rfl
theorem Zpo (x:BitVec 64) (i:Nat):x &&& BitVec.twoPow 64 i=BitVec.twoPow 64 i\/x &&& BitVec.twoPow 64 i=0#64:=by
 rw [BitVec.and_twoPow]
 split
 ·exact .inl rfl
 ·exact .inr rfl
theorem Zv0 (x:BitVec 64):IntKind.u64.wrap (x.toNat:Int)=(x.toNat:Int):=Oe x.isLt
theorem Zzw {f:Int} (h:0<=f/\f<18446744073709551616):f=((BitVec.ofInt 64 f).toNat:Int):=by
 rw [BitVec.toNat_ofInt];omega
theorem Yzt {f:Int} (h:0<=f/\f<18446744073709551616):Pq .u64 f 4=2↔f=2\/f=6:=by
 constructor
 ·intro h1
  have h1:IntKind.u64.wrap ((BitVec.ofInt 64 f &&& ~~~(BitVec.ofInt 64 4)).toNat:Int)=2:=h1
  rw [Zv0] at h1
  have h2:BitVec.ofInt 64 f &&& ~~~(BitVec.ofInt 64 4)=2#64:=BitVec.eq_of_toNat_eq (by rw [show (2#64).toNat=2 from rfl];omega)
  have h3:=Yaj h2
  rw [show BitVec.ofInt 64 4=BitVec.twoPow 64 2 from by decide] at h3
  rcases Zpo (BitVec.ofInt 64 f) 2 with h4 | h4<;>rw [h4] at h3<;>have h5:=Zzw h<;>rw [h3] at h5
  ·exact .inr h5
  ·exact .inl h5
 ·rintro (rfl | rfl)<;>decide
theorem Yvr {f:Int} (h:0<=f/\f<18446744073709551616):Pq .u64 f 5=0↔f=0\/f=1\/f=4\/f=5:=by
 constructor
 ·intro h1
  have h1:IntKind.u64.wrap ((BitVec.ofInt 64 f &&& ~~~(BitVec.ofInt 64 5)).toNat:Int)=0:=h1
  rw [Zv0] at h1
  have h2:BitVec.ofInt 64 f &&& ~~~(BitVec.ofInt 64 5)=0#64:=BitVec.eq_of_toNat_eq (by rw [show (0#64).toNat=0 from rfl];omega)
  have h3:=Yaj h2
  have e:BitVec.ofInt 64 f &&& BitVec.ofInt 64 5=(BitVec.ofInt 64 f &&& BitVec.twoPow 64 2) ||| (BitVec.ofInt 64 f &&& BitVec.twoPow 64 0):=by
   rw [show BitVec.ofInt 64 5=BitVec.twoPow 64 2 ||| BitVec.twoPow 64 0 from by decide]
   apply BitVec.eq_of_getLsbD_eq
   intro i hi
   simp only [BitVec.getLsbD_or,BitVec.getLsbD_and]
   cases (BitVec.ofInt 64 f).getLsbD i<;>rfl
  rw [e] at h3
  have h5:=Zzw h
  rcases Zpo (BitVec.ofInt 64 f) 2 with h4 | h4<;>rcases Zpo (BitVec.ofInt 64 f) 0 with h6 | h6<;>rw [h4,h6] at h3<;>rw [h3] at h5
  ·exact .inr (.inr (.inr h5))
  ·exact .inr (.inr (.inl h5))
  ·exact .inr (.inl h5)
  ·exact .inl h5
 ·rintro (rfl | rfl | rfl | rfl)<;>decide
def Fb:Zc:=[101,120,105,116]
def Kr:Zc:=[112,97,110,105,99,32]
def Ka:Zc:=[32,114,101,99,111,118,101,114,101,100]
def Ja:Zc:=[32,97,98,111,114,116,101,100]
def Ca:Zc:=[102,97,117,108,116,32,49,58,32,100,105,118,105,115,105,111,110,32,98,121,32,122,101,114,111]
def Tk:Zc:=[102,97,117,108,116,32,50,58,32,110,105,108,32,112,111,105,110,116,101,114]
def Pc:Zc:=[102,97,117,108,116,32,51,58,32,111,117,116,32,111,102,32,114,97,110,103,101]
def Oh (n:Int):Zc:=if n=1 then Ca else if n=2 then Tk else if n=3 then Pc else []
def Mq (t:Int):Int:=if t=1 then 2 else if t=2 then 1 else if t=3 then 3 else if t=4 then 2 else 0
structure Mx (p:Zf):Prop where
 t:0<=p.tag/\p.tag<18446744073709551616
 v:Wf p.value
 f:0<=p.flags/\p.flags<18446744073709551616
def Bo (v:Za):Bool:=decide (v.kind=0)&&decide (v.int=0)&&decide (v.text=[])&&decide (v.list.length=0)&&!v.cut
theorem Zpt {v:Za}:Bo v=true↔v=vz:=by
 unfold Bo
 simp only [kL,kV,Bool.not_eq_true',and_assoc,yM]
 cases v with
 | mk k n s l c=>simp
def Xx (p:Zf):Bool:=decide (p.tag<=4)&&decide (p.value.kind=Mq p.tag)&&(if p.tag=0 then Bo p.value&&decide (p.flags=2\/p.flags=6)
 else decide (p.flags=0\/p.flags=1\/p.flags=4\/p.flags=5)&&decide (p.tag=4->1<=p.value.int/\p.value.int<=3)&&Vh p.value)
def Hx (p:Zf):Int:=if Xx p=true then 0 else 8
def Vj (p:Zf):Zc:=if p.tag=0 then Fb else if p.tag=4 then Oh p.value.int else Kr++Xg p.value
def Tu (f:Int):Zc:=(if f % 2=1 then Ka else [])++(if 4<=f then Ja else [])
def Vt (p:Zf):Zc:=Vj p++Tu p.flags
def So (p:Zf):Zc × Int:=if Xx p=true then (Vt p,0) else ([],8)
def pz:Zf:=⟨0,vz,0⟩
def Xr (p s:Zc):Zc × Bool:=if p.length<=s.length/\s.drop (s.length-p.length)=p then (s.take (s.length-p.length),true) else (s,false)
theorem At (p s:Zc):Xr p (s++p)=(s,true):=by
 unfold Xr
 rw [kD ⟨by simp,by simp⟩]
 simp
theorem Zik {p s:Zc} (h:(Xr p s).2=true):s=(Xr p s).1++p:=by
 unfold Xr at h ⊢
 split
 ·rename_i h1
  have:=yG (s.length-p.length) s
  rw [h1.2] at this
  exact this.symm
 ·rename_i h1;rw [kA h1] at h;cases h
theorem Zl0 {p s:Zc} (h:(Xr p s).2=false):(Xr p s).1=s:=by
 unfold Xr at h ⊢
 split
 ·rename_i h1;rw [kD h1] at h;cases h
 ·rfl
theorem Zvx {p s:Zc} {c d:UInt8} (hs:s.getLast?=some c) (hp:p.getLast?=some d) (h:c≠d):Xr p s=(s,false):=by
 unfold Xr
 rw [kA]
 rintro ⟨h1,h2⟩
 have h3:s.getLast?=p.getLast?:=by
  rw [<- yG (s.length-p.length) s,h2,List.getLast?_append,hp];rfl
 rw [hs,hp] at h3
 injection h3 with h3
 exact h h3
def Uy (s:Zc):Option Zf:=if s=Fb then some ⟨0,vz,2⟩ else if s=Ca then some ⟨4,Za.mk 2 1 [] [] false,0⟩ else if s=Tk then some ⟨4,Za.mk 2 2 [] [] false,0⟩ else if s=Pc then some ⟨4,Za.mk 2 3 [] [] false,0⟩ else
 if (Zn Kr s).2=false then none else
 if (Ji (Zn Kr s).1).2≠0 then none else
 let v:=(Ji (Zn Kr s).1).1
 if v.kind=2 then some ⟨1,v,0⟩ else if v.kind=1 then some ⟨2,v,0⟩ else if v.kind=3 then some ⟨3,v,0⟩ else none
def Qz (s:Zc):Zf × Int:=if 2000<s.length then (pz,4) else
 let a:=Xr Ja s
 let r:=Xr Ka a.1
 match Uy r.1 with
 | none=>(pz,12)
 | some p=>let q:Zf:=⟨p.tag,p.value,p.flags+(if r.2=true then 1 else 0)+(if a.2=true then 4 else 0)⟩
  if Xx q=true then (q,0) else (pz,12)
end Go.AM

namespace Go.AM
open Go
theorem Yxx {p q b:Zc} (h:p.length<=q.length):Xr p (b++q)=(b++(Xr p q).1,(Xr p q).2):=by
 have e:(b++q).length-p.length=b.length+(q.length-p.length):=by simp;omega
 unfold Xr
 rw [e,List.drop_append,List.take_append]
 rw [List.drop_of_length_le (by omega),zL (by omega),zA,show b.length+(q.length-p.length)-b.length=q.length-p.length by omega]
 by_cases h1:q.drop (q.length-p.length)=p
 ·rw [kD ⟨by simp;omega,h1⟩,kD ⟨h,h1⟩]
 ·rw [kA fun h2=>h1 h2.2,kA fun h2=>h1 h2.2]
theorem Yvy {v:Za} (h:Vh v=true) (hk:v.kind=2):v=Za.mk 2 v.int [] [] false:=by
 have h1:=Re (Sj h).1
 cases v with
 | mk k n s l c=>
  simp only [Za.okh,Qe,Za.kind_mk,Za.int_mk,Za.text_mk,Za.list_mk,Za.cut_mk] at h1 hk ⊢
  subst hk
  have hl:=Hl (l:=l) (by omega)
  have hs:=Hl (l:=s) (by omega)
  subst hl;subst hs
  cases c with
  | false=>rfl
  | true=>simp at h1
theorem Xgo (n:Int) :∃b c,Xe n=b++[c]/\c≠100:=by
 have key :∀m:Nat,∃b c,Jd 10 m=b++[c]/\c≠100:=by
  intro m
  obtain ⟨b,c,h⟩ :∃b c,Jd 10 m=b++[c]:=by
   have h:=Zlz 10 m
   exact ⟨_,_,(List.dropLast_concat_getLast h).symm⟩
  refine ⟨b,c,h,fun hc=>?_⟩
  have:=Ct 64 m c (by rw [show ds 10 64 m=Jd 10 m from rfl,h];simp)
  rw [hc] at this
  exact absurd this (by decide)
 unfold Xe
 split
 ·obtain ⟨b,c,h,hc⟩:=key (-n).toNat
  exact ⟨45::b,c,by rw [h];rfl,hc⟩
 ·exact key _
theorem Xat {p:Zf} (h:Xx p=true) :∃b c,Vj p=b++[c]/\c≠100:=by
 unfold Xx at h
 simp only [kL,kV] at h
 obtain ⟨⟨h1,h2⟩,h3⟩:=h
 unfold Vj
 by_cases t0:p.tag=0
 ·rw [kD t0];exact ⟨[101,120,105],116,rfl,by decide⟩
 rw [kA t0] at h3 ⊢
 simp only [kL,kV] at h3
 obtain ⟨⟨h4,h5⟩,h6⟩:=h3
 by_cases t4:p.tag=4
 ·rw [kD t4]
  have:=h5 t4
  rcases (show p.value.int=1\/p.value.int=2\/p.value.int=3 by omega) with h | h | h<;>rw [h]
  ·exact ⟨Ca.dropLast,111,rfl,by decide⟩
  ·exact ⟨Tk.dropLast,114,rfl,by decide⟩
  ·exact ⟨Pc.dropLast,101,rfl,by decide⟩
 rw [kA t4]
 have hk:p.value.kind=2\/p.value.kind=1\/p.value.kind=3:=by
  rw [h2];unfold Mq
  by_cases a1:p.tag=1
  ·rw [kD a1];exact .inl rfl
  rw [kA a1]
  by_cases a2:p.tag=2
  ·rw [kD a2];exact .inr (.inl rfl)
  rw [kA a2]
  by_cases a3:p.tag=3
  ·rw [kD a3];exact .inr (.inr rfl)
  rw [kA a3,kA t4]
  have h0:=Re (Sj h6).1
  unfold Za.okh Qe at h0
  rw [h2] at h0
  unfold Mq at h0
  rw [kA a1,kA a2,kA a3,kA t4] at h0
  omega
 have add :∀{x:Zc},(∃b c,x=b++[c]/\c≠(100:UInt8))->∃b c,Kr++x=b++[c]/\c≠(100:UInt8):=fun ⟨b,c,h,hc⟩=>⟨Kr++b,c,by rw [h];simp,hc⟩
 apply add
 rw [Cb]
 rcases hk with h | h | h<;>rw [h]
 ·exact Xgo _
 ·rw [kD rfl]
  split
  ·exact ⟨[116,114,117],101,rfl,by decide⟩
  ·exact ⟨[102,97,108,115],101,rfl,by decide⟩
 ·exact ⟨34::Jw p.value.text,34,rfl,by decide⟩
theorem Sx {p:Zf} (h:Xx p=true):(p.tag=0/\p.value=vz/\(p.flags=2\/p.flags=6))\/(p.tag≠0/\Vh p.value=true/\(p.flags=0\/p.flags=1\/p.flags=4\/p.flags=5)):=by
 unfold Xx at h
 simp only [kL,kV] at h
 obtain ⟨⟨h1,h2⟩,h3⟩:=h
 by_cases t0:p.tag=0
 ·rw [kD t0] at h3
  simp only [kL,kV] at h3
  exact .inl ⟨t0,Zpt.1 h3.1,h3.2⟩
 ·rw [kA t0] at h3
  simp only [kL,kV] at h3
  exact .inr ⟨t0,h3.2,h3.1.1⟩
theorem Xco {p:Zf} (h:Xx p=true):(Xr Ja (Vt p)).2=decide (4<=p.flags)/\Xr Ka (Xr Ja (Vt p)).1=(Vj p,decide (p.flags % 2=1)):=by
 obtain ⟨b,c,hb,hc⟩:=Xat h
 have a1:Xr Ja (Vj p)=(Vj p,false):=Zvx (c:=c) (d:=100) (by rw [hb];simp) rfl hc
 have a2:Xr Ka (Vj p)=(Vj p,false):=Zvx (c:=c) (d:=100) (by rw [hb];simp) rfl hc
 have a3:Xr Ja (Vj p++Ka)=(Vj p++Ka,false):=by rw [Yxx (by decide)];rfl
 have hf:p.flags=0\/p.flags=1\/p.flags=2\/p.flags=4\/p.flags=5\/p.flags=6:=by rcases Sx h with ⟨_,_,h⟩ | ⟨_,_,h⟩<;>omega
 unfold Vt Tu
 rcases hf with h | h | h | h | h | h<;>rw [h]
 ·rw [show Vj p++((if (0:Int) % 2=1 then Ka else [])++(if (4:Int)<=0 then Ja else []))=Vj p by simp,a1];exact ⟨rfl,a2⟩
 ·rw [show Vj p++((if (1:Int) % 2=1 then Ka else [])++(if (4:Int)<=1 then Ja else []))=Vj p++Ka by simp,a3];exact ⟨rfl,At _ _⟩
 ·rw [show Vj p++((if (2:Int) % 2=1 then Ka else [])++(if (4:Int)<=2 then Ja else []))=Vj p by simp,a1];exact ⟨rfl,a2⟩
 ·rw [show Vj p++((if (4:Int) % 2=1 then Ka else [])++(if (4:Int)<=4 then Ja else []))=Vj p++Ja by simp,At];exact ⟨rfl,a2⟩
 ·rw [show Vj p++((if (5:Int) % 2=1 then Ka else [])++(if (4:Int)<=5 then Ja else []))=(Vj p++Ka)++Ja by simp,At];exact ⟨rfl,At _ _⟩
 ·rw [show Vj p++((if (6:Int) % 2=1 then Ka else [])++(if (4:Int)<=6 then Ja else []))=Vj p++Ja by simp,At];exact ⟨rfl,a2⟩
theorem Ylg {p:Zf} (h:Xx p=true) (hw:Wf p.value):Uy (Vj p)=some ⟨p.tag,p.value,if p.tag=0 then 2 else 0⟩:=by
 have h0:=Sx h
 unfold Xx at h
 simp only [kL,kV] at h
 obtain ⟨⟨h1,h2⟩,h3⟩:=h
 obtain ⟨t,v,f⟩:=p
 simp only at h0 h1 h2 h3 hw ⊢
 unfold Vj
 rcases h0 with ⟨rfl,rfl,_⟩ | ⟨t0,hf,_⟩
 ·rfl
 rw [kA t0] at h3
 simp only [kL,kV] at h3
 obtain ⟨⟨h4,h5⟩,h6⟩:=h3
 simp only
 rw [kA t0]
 by_cases t4:t=4
 ·subst t4
  have hv:=Yvy hf h2
  have:=h5 rfl
  rw [kD rfl]
  rcases (show v.int=1\/v.int=2\/v.int=3 by omega) with h | h | h<;>rw [h] at hv<;>rw [hv]<;>rfl
 rw [kA t4,kA t0]
 have ne :∀{x:Zc} {c:UInt8} {r:Zc},x=c::r->c≠112->Kr++Xg v≠x:=fun hx hc e=>by
  rw [hx] at e
  injection e with e
  exact hc e.symm
 unfold Uy
 rw [kA (ne (x:=Fb) (c:=101) rfl (by decide)),kA (ne (x:=Ca) (c:=102) rfl (by decide)),kA (ne (x:=Tk) (c:=102) rfl (by decide)),kA (ne (x:=Pc) (c:=102) rfl (by decide)),Jx,kA (show ¬(true=false) by decide),Zi3 hf hw,kA (show ¬((0:Int)≠0) by decide)]
 simp only
 unfold Mq at h2
 by_cases a1:t=1
 ·subst a1
  rw [kD rfl] at h2
  rw [kD h2]
 rw [kA a1] at h2
 by_cases a2:t=2
 ·subst a2
  rw [kD rfl] at h2
  rw [kA (by omega),kD h2]
 rw [kA a2] at h2
 by_cases a3:t=3
 ·subst a3
  rw [kD rfl] at h2
  rw [kA (by omega),kA (by omega),kD h2]
 rw [kA a3,kA t4] at h2
 have h7:=Re (Sj hf).1
 unfold Za.okh Qe at h7
 omega
theorem Ykt {v:Za} (h:Vh v=true) (hk:v.kind=1\/v.kind=2\/v.kind=3):(Xg v).length<=300:=by
 have h7:=Re (Sj h).1
 unfold Za.okh Qe at h7
 have h8:=Kx v.int
 have h9:=Bm v.text
 rw [Cb]
 rcases hk with h | h | h<;>rw [h]
 ·rw [kD rfl];split<;>decide
 ·show (Xe v.int).length<=300;omega
 ·show (quo v.text).length<=300;omega
theorem Xej {p:Zf} (h:Xx p=true) (h0:p.tag≠0):p.value.kind=1\/p.value.kind=2\/p.value.kind=3:=by
 have hf:Vh p.value=true:=by rcases Sx h with h | h;exact absurd h.1 h0;exact h.2.1
 unfold Xx at h
 simp only [kL,kV] at h
 have h2:=h.1.2
 have h7:=Re (Sj hf).1
 unfold Za.okh Qe at h7
 unfold Mq at h2
 repeat' split at h2
 all_goals omega
theorem Zoz {p:Zf} (h:Xx p=true):(Vt p).length<=400:=by
 have hs:(Tu p.flags).length<=18:=by unfold Tu;split<;>split<;>decide
 have hb:(Vj p).length<=310:=by
  unfold Vj
  by_cases t0:p.tag=0
  ·rw [kD t0];decide
  rw [kA t0]
  split
  ·unfold Oh;repeat' split
   all_goals decide
  ·have hf:Vh p.value=true:=by rcases Sx h with h | h;exact absurd h.1 t0;exact h.2.1
   have:=Ykt hf (Xej h t0)
   rw [kF,show Kr.length=6 from rfl];omega
 unfold Vt
 rw [kF];omega
theorem Xg5 {p:Zf} (h:Xx p=true) (hw:Wf p.value):Qz (Vt p)=(p,0):=by
 have h1:=Zoz h
 obtain ⟨h2,h3⟩:=Xco h
 have h4:=Ylg h hw
 unfold Qz
 rw [kA (by omega)]
 simp only [h2,h3]
 rw [h4]
 simp only
 have e:(if p.tag=0 then (2:Int) else 0)+(if decide (p.flags % 2=1)=true then 1 else 0)+(if decide (4<=p.flags)=true then 4 else 0)=p.flags:=by
  simp only [kV]
  rcases Sx h with ⟨a,_,b⟩ | ⟨a,_,b⟩
  ·rw [kD a];rcases b with b | b<;>rw [b]<;>decide
  ·rw [kA a];rcases b with b | b | b | b<;>rw [b]<;>decide
 rw [e,kD (show Xx ⟨p.tag,p.value,p.flags⟩=true from h)]
theorem Zw9 {s:Zc} {p:Zf} (h:Uy s=some p):Wf p.value/\(p.flags=0\/p.flags=2)/\0<=p.tag/\p.tag<=4/\Vj p=s:=by
 have wn :∀n:Int,n=1\/n=2\/n=3->Wf (Za.mk 2 n [] [] false):=fun n hn=>.mk (by decide) (by omega) (by decide) (by simp)
 unfold Uy at h
 by_cases h1:s=Fb
 ·rw [kD h1] at h;cases h;exact ⟨Wf.zero,.inr rfl,by decide,by decide,h1.symm⟩
 rw [kA h1] at h
 by_cases h2:s=Ca
 ·rw [kD h2] at h;cases h;exact ⟨wn 1 (by decide),.inl rfl,by decide,by decide,h2.symm⟩
 rw [kA h2] at h
 by_cases h3:s=Tk
 ·rw [kD h3] at h;cases h;exact ⟨wn 2 (by decide),.inl rfl,by decide,by decide,h3.symm⟩
 rw [kA h3] at h
 by_cases h4:s=Pc
 ·rw [kD h4] at h;cases h;exact ⟨wn 3 (by decide),.inl rfl,by decide,by decide,h4.symm⟩
 rw [kA h4] at h
 by_cases h5:(Zn Kr s).2=false
 ·rw [kD h5] at h;cases h
 rw [kA h5] at h
 by_cases h6:(Ji (Zn Kr s).1).2≠0
 ·rw [kD h6] at h;cases h
 rw [kA h6] at h
 have h5:(Zn Kr s).2=true:=by simpa using h5
 obtain ⟨g1,g2,g3⟩:=Zsv (kW.1 h6)
 have es:Kr++Xg (Ji (Zn Kr s).1).1=s:=by
  rw [g2]
  unfold Zn at h5 ⊢
  split at h5
  ·rename_i h7
   have:=yG Kr.length s
   rw [h7] at this
   rw [kD h7]
   exact this
  ·cases h5
 simp only at h
 split at h
 ·cases h;exact ⟨g3,.inl rfl,by simp only;decide,by simp only;decide,es⟩
 split at h
 ·cases h;exact ⟨g3,.inl rfl,by simp only;decide,by simp only;decide,es⟩
 split at h
 ·cases h;exact ⟨g3,.inl rfl,by simp only;decide,by simp only;decide,es⟩
 ·cases h
theorem Yi3 {f:Int} (hf:f=0\/f=2) (r a:Bool):Tu (f+(if r=true then 1 else 0)+(if a=true then 4 else 0))=(if r=true then Ka else [])++(if a=true then Ja else []):=by
 rcases hf with rfl | rfl<;>cases r<;>cases a<;>rfl
theorem Ylr {s:Zc} (h:(Qz s).2=0):Xx (Qz s).1=true/\Mx (Qz s).1/\Vt (Qz s).1=s/\s.length<=2000:=by
 unfold Qz at h ⊢
 by_cases hl:2000<s.length
 ·rw [kD hl] at h;cases h
 rw [kA hl] at h ⊢
 simp only at h ⊢
 have ha1:=@Zik Ja s
 have ha2:=@Zl0 Ja s
 generalize Xr Ja s=a at h ha1 ha2 ⊢
 have hr1:=@Zik Ka a.1
 have hr2:=@Zl0 Ka a.1
 generalize Xr Ka a.1=r at h hr1 hr2 ⊢
 cases hc:Uy r.1 with
 | none=>rw [hc] at h;cases h
 | some p=>
  rw [hc] at h
  simp only at h ⊢
  obtain ⟨g1,g2,g3,g3',g4⟩:=Zw9 hc
  by_cases ho:Xx ⟨p.tag,p.value,p.flags+(if r.2=true then 1 else 0)+(if a.2=true then 4 else 0)⟩=true
  ·rw [kD ho]
   refine ⟨ho,⟨⟨g3,by simp only;omega⟩,g1,?_⟩,?_,by omega⟩
   ·simp only;constructor<;>(split<;>split<;>omega)
   ·have e:Vj ⟨p.tag,p.value,p.flags+(if r.2=true then 1 else 0)+(if a.2=true then 4 else 0)⟩=r.1:=g4
    unfold Vt
    rw [e]
    simp only
    rw [Yi3 g2]
    cases hr:r.2 with
    | true=>
     cases ha:a.2 with
     | true=>rw [ha1 ha,hr1 hr];simp
     | false=>rw [<- ha2 ha,hr1 hr];simp
    | false=>
     cases ha:a.2 with
     | true=>rw [ha1 ha,<- hr2 hr];simp
     | false=>rw [<- ha2 ha,<- hr2 hr];simp
  ·rw [kA ho] at h;cases h
end Go.AM

namespace Go.AM
open Go
structure Has38 (PG:Zb):Prop extends Has03 PG,HasB PG where
 f72:PG.fn 72=some Zbv
 f74:PG.fn 74=some Za8
 f76:PG.fn 76=some Zg0
 f78:PG.fn 78=some Zcd
 f104:PG.fn 104=some Pm
 f107:PG.fn 107=some Pk
 f109:PG.fn 109=some Zal
 f128:PG.fn 128=some Ph
 f129:PG.fn 129=some Fs
 f130:PG.fn 130=some Lt
 f131:PG.fn 131=some Fq
 f136:PG.fn 136=some Zjq
section
variable {PG:Zb} (H:Has38 PG)
include H
end
end Go.AM

namespace Go.AM
open Go
theorem Yp7 (n:Int):Gb .i64 n 1=n % 2:=by
 unfold Gb
 have h1:(BitVec.ofInt IntKind.i64.bits n &&& BitVec.ofInt IntKind.i64.bits 1).toNat=(n % 2).toNat:=by
  show (BitVec.ofInt 64 n &&& BitVec.ofInt 64 1).toNat=_
  rw [BitVec.toNat_and]
  have h2:(BitVec.ofInt 64 1).toNat=2 ^ 1-1:=by decide
  rw [h2,Nat.and_two_pow_sub_one_eq_mod,BitVec.toNat_ofInt]
  omega
 rw [h1,Ws (by omega) (by omega)]
 omega
theorem Xig (v:Za):(v.cut=true/\v.cut.toNat=1)\/(v.cut=false/\v.cut.toNat=0):=by cases v.cut<;>simp
theorem Yes (d:Nat) (v:Za):Kt (d+1) v=(decide v.okh&&v.list.all (Kt d)):=rfl
theorem Ym0 {d:Nat} {v:Za} (h:¬v.okh):Kt (d+1) v=false:=by rw [Yes,kM h];rfl
theorem Yy5 {d:Nat} {v:Za} (h:v.okh):Kt (d+1) v=v.list.all (Kt d):=by rw [Yes,kN h];rfl
section
variable {PG:Zb} (H:Has38 PG)
include H
end
end Go.AM

namespace Go.AM
open Go
section
variable {PG:Zb} (H:Has38 PG)
include H
set_option maxHeartbeats 1000000 in
theorem Zrg :∀(d:Nat) {v:Za},Wf v->d<=1000->Ze PG 109 [v.av,.i .i64 (d:Int)] (.tup [.i .i64 (Qv d v).1,.b (Qv d v).2])
 | 0,v,hw,hd=>by
  obtain ⟨x,y,⟨rfl,rfl⟩,h⟩:=Zyf H.f109 (v0:=v) (aw:=((0:Nat):Int)) (K:=fun x y=>x=(Qv 0 v).1/\y=(Qv 0 v).2) (by
   unfold Zee Zgc Zf9 Ma Zfe
   have:Qv 0 v=(0,false):=by unfold Qv;rw [kA (by rintro ⟨h,_⟩;cases h)]
   rw [this]
   repeat' first | exact ⟨rfl,rfl⟩ | refine ⟨fun _=>?_,fun _=>?_⟩ | (intro h)
   all_goals exact absurd rfl ‹¬((0:Nat):Int)=0›)
  exact h
 | d+1,v,hw,hd=>by
  have ih:=@Zrg d
  obtain ⟨x,y,⟨rfl,rfl⟩,h⟩:=Zyf H.f109 (v0:=v) (aw:=((d+1:Nat):Int)) (K:=fun x y=>x=(Qv (d+1) v).1/\y=(Qv (d+1) v).2) (by
   have hm:IntKind.i64.wrap (((d+1:Nat):Int)-1)=(d:Int):=by rw [Ws (by omega) (by omega)];omega
   have ht:v.text=[]↔v.text.length=0:=yM.symm
   have ht':[]=v.text↔v.text.length=0:=by rw [<- ht];exact eq_comm
   have cno:¬(Kt (d+1) v=true/\v.nodes<=5000)->Qv (d+1) v=(0,false):=fun h=>by unfold Qv;rw [kA h]
   have no:¬v.okh->(0:Int)=(Qv (d+1) v).1/\false=(Qv (d+1) v).2:=fun h=>by
    rw [cno (by rw [Ym0 h];rintro ⟨h,_⟩;cases h)];exact ⟨rfl,rfl⟩
   have hl:=hw.l
   have hn:=Zpk v
   have lp:v.okh->∀P:Int->Int->Prop,(∀(cl:Int) (t103:Int),Lr PG (fun x y=>x=(Qv (d+1) v).1/\y=(Qv (d+1) v).2) P ((d+1:Nat):Int) cl v.list (v.list.length:Int) t103->P cl t103)->P 1 0:=by
    intro ho P hP
    have e:=Yy5 (d:=d) ho
    refine Zjp (P:=fun s i=>P s i) (fun i=>((1+Za.nodesL (v.list.take i):Nat):Int)) v.list.length (fun i=>(v.list.take i).all (Kt d)=true/\1+Za.nodesL (v.list.take i)<=5000) (by simp [Za.nodesL]) (fun hI=>?_) (fun i hi hI ihP=>?_)
    ·apply hP
     unfold Lr Zkx
     refine ⟨fun h=>absurd h (by omega),fun _=>?_⟩
     rw [jG] at hI ⊢
     unfold Qv
     rw [kD ⟨by rw [e];exact hI.1,by omega⟩,hn]
     exact ⟨rfl,rfl⟩
    ·apply hP
     unfold Lr
     have hnt:=Zyn hi
     have hle:=Yct (l:=v.list) (i+1)
     refine ⟨fun _=>⟨by omega,_,Wj hi,_,_,by rw [hm];exact ih (hw.e _ (kP hi)) (by omega),?_⟩,fun h=>absurd (show (i:Int)<v.list.length by omega) h⟩
     by_cases hc:Kt d v.list[i]=true/\v.list[i].nodes<=5000
     ·rw [show Qv d v.list[i]=((v.list[i].nodes:Int),true) by unfold Qv;rw [kD hc]]
      refine ⟨fun h=>(by cases h),fun _=>⟨fun h=>?_,fun h=>?_⟩⟩
      ·rw [Ws (by omega) (by omega)] at h
       rw [cno (by omega)]
       exact ⟨rfl,rfl⟩
      ·rw [Ws (by omega) (by omega)] at h ⊢
       rw [Ws (by omega) (by omega)]
       have:=ihP ⟨by rw [kK hi,List.all_append,hI.1];simpa using hc.1,by omega⟩
       rw [hnt] at this
       rw [show ((1+Za.nodesL (v.list.take i):Nat):Int)+(v.list[i].nodes:Int)=((1+(Za.nodesL (v.list.take i)+v.list[i].nodes):Nat):Int) by omega]
       exact this
     ·rw [show Qv d v.list[i]=(0,false) by unfold Qv;rw [kA hc]]
      refine ⟨fun _=>?_,fun h=>(by cases h)⟩
      rw [cno (fun h=>hc ⟨Zf4 h.1 _ (kP hi),by have:=Yyj (kP hi);omega⟩)]
      exact ⟨rfl,rfl⟩
   unfold Zee Zgc Zf9 Ma Zfe
   simp only [Za.int_mk,Za.text_mk,Za.cut_mk,Za.kind_mk,Za.list_mk,Yp7,ht',ne_eq,not_true_eq_false,false_imp_iff,true_imp_iff,true_and,not_false_eq_true]
   rcases Xig v with ⟨hc,hcn⟩ | ⟨hc,hcn⟩
   all_goals simp only [hc,reduceCtorEq,false_imp_iff,true_imp_iff,not_true_eq_false,not_false_eq_true,true_and,and_true]
   all_goals repeat' first | refine ⟨fun _=>?_,fun _=>?_⟩ | (intro h)
   all_goals first
    | exact no (by unfold Za.okh Qe;omega)
    | exact lp (by unfold Za.okh Qe;omega) _ ‹_›
    | (exfalso;omega))
  exact h
theorem c76 {v:Za} (hw:Wf v):Ze PG 76 [v.av] (.i .i64 (Mu v)):=by
 obtain ⟨x,rfl,h⟩:=p76 H.f76 (v0:=v) (K:=fun x=>x=Mu v) (by
  unfold Zq0 Mu
  refine ⟨_,_,Zrg H 130 hw (by decide),?_⟩
  unfold Qv Vh
  by_cases h:Kt 130 v=true/\v.nodes<=5000
  ·rw [kD h,kD (by simpa using h)]
   exact ⟨fun h=>(by cases h),fun _=>rfl⟩
  ·rw [kA h,kA (by simpa using h)]
   exact ⟨fun _=>rfl,fun h=>(by cases h)⟩)
 exact h
end
end Go.AM

namespace Go.AM
open Go
theorem Yi4 (l m:List Za):Xb (l++m)=Xb l++(if l.length=0 then Xb m else Ub m):=by
 cases l with
 | nil=>simp [Xb]
 | cons a l=>simp [Xb,Zng]
theorem Xgt (l:List Za) (i:Nat):(Xb (l.take i)).length<=(Xb l).length:=by
 have:=Yi4 (l.take i) (l.drop i)
 rw [yG] at this
 rw [this,kF]
 omega
theorem Zko {s:Zc} (h:s.length<=400):Nz s=(quo s,0):=by
 unfold Nz
 rw [kA (by omega)]
section
variable {PG:Zb} (H:Has38 PG)
include H
theorem Zpm {K:Int->Zc->Prop} {l:List Za} {e0 e1:UInt8} {b:Zc} (hl:l.length<=16) (hx :∀x∈l,∀b:Zc,b.length+(Xg x).length<=100000000->Yt PG 104 (Bl b) [x.av] (fun r=>r=.i .i64 0) (Bl (b++Xg x)))
  (hb:b.length+(Xb l).length+2<=100000000) (hK:K 0 (b++[e0]++Xb l++[e1])) :∀P0:Int->Zc->Prop,(∀(t22:Int) (mP:Zc),Pp PG K P0 [e0,e1] l (l.length:Int) t22 mP->P0 t22 mP)->P0 0 (b++[e0]):=by
 intro P hP
 have:=Ml (P:=fun m i=>P i m) (fun i=>b++[e0]++Xb (l.take i)) l.length ?_ fun i hi ihP=>?_
 ·simpa [Xb] using this
 ·apply hP
  unfold Pp Zkg Dr
  rw [jG]
  refine ⟨fun h=>absurd h (by omega),fun _=>⟨by simp,_,_,Bz H.toHasB (s:=[e1]) ?_,hK⟩⟩
  rw [Wq];simp only [kF,kB,kG];omega
 ·apply hP
  have h1:=Xgt l (i+1)
  rw [Xer hi] at h1 ihP
  simp only [kF] at h1
  unfold Pp Zb8
  refine ⟨fun _=>⟨by omega,_,Wj hi,fun h2=>?_,fun h2=>?_⟩,fun h=>absurd (show (i:Int)<l.length by omega) h⟩
  ·rw [kD (by omega)] at h1 ihP
   refine ⟨_,_,Bz H.toHasB (s:=[44,32]) ?_,_,_,hx _ (kP hi) _ ?_,fun h=>absurd rfl h,fun _=>?_⟩
   ·rw [Wq];simp only [kF,kB,kG];omega
   ·simp only [kF,kB,kG] at h1 ⊢;omega
   ·rw [Sa (by omega)]
    simpa using ihP
  ·rw [kA (by omega)] at h1 ihP
   refine ⟨_,_,hx _ (kP hi) _ ?_,fun h=>absurd rfl h,fun _=>?_⟩
   ·simp only [kF,kB,kG] at h1 ⊢;omega
   ·rw [Sa (by omega)]
    simpa using ihP
set_option maxHeartbeats 1000000 in
theorem Zxl :∀(d:Nat) {v:Za},Kt d v=true->Wf v->∀b:Zc,b.length+(Xg v).length<=100000000->Yt PG 104 (Bl b) [v.av] (fun r=>r=.i .i64 0) (Bl (b++Xg v))
 | 0,v,h,_,_,_=>by cases h
 | d+1,v,h,hw,b,hlen=>by
  have h1:=Re h
  have h2:=Zf4 h
  have ih :∀x∈v.list,∀b:Zc,b.length+(Xg x).length<=100000000->Yt PG 104 (Bl b) [x.av] (fun r=>r=.i .i64 0) (Bl (b++Xg x)):=fun x hx b hb=>Zxl d (h2 _ hx) (hw.e _ hx) b hb
  refine (Yg1 H.f104 (v1:=v) (mP:=b) (K:=fun r b'=>r=0/\b'=b++Xg v) ?_).to fun r b' hk=>?_
  ·have hB :∀{s:Zc} {a:Int},(Xg v)=s->∃r':Int,∃b'':Zc,Yt PG 126 (Bl b) [.s s] (fun r=>r=.tup [.i .i64 r',.ni]) (Bl b'')/\Dr PG (fun r b'=>r=0/\b'=b++Xg v) b'':=by
    intro s a hs
    refine ⟨_,_,Bz H.toHasB (s:=s) ?_ (hs ▸ Zto v),?_⟩
    ·rw [<- hs,Wq];omega
    ·unfold Dr;rw [hs];exact ⟨rfl,rfl⟩
   have hk:1<=v.kind/\v.kind<=7:=by unfold Za.okh Qe at h1;omega
   have hn:=hw.n
   rw [Cb] at hlen
   have ht:=Cb v
   unfold Zh2 Zkc
   refine ⟨by omega,?_⟩
   have hkk:v.kind=1\/v.kind=2\/v.kind=3\/v.kind=4\/v.kind=5\/v.kind=6\/v.kind=7:=by omega
   rcases hkk with k | k | k | k | k | k | k
   all_goals rw [k]
   all_goals simp only [k,jO,reduceCtorEq,jS,Int.reduceEq] at ht hlen
   ·refine ⟨[],rfl,?_⟩
    unfold Rf By Nw
    rw [k]
    refine ⟨fun _=>⟨fun h=>hB (a:=0) ?_,fun h=>⟨fun _=>hB (a:=0) ?_,fun h=>by simp at h⟩⟩,fun h=>absurd rfl h⟩
    ·rw [ht,kD (by simpa using h)];rfl
    ·rw [ht,kA (by simpa using h)];rfl
   ·refine ⟨[],rfl,?_⟩
    unfold Rf By Nw Rk
    rw [k]
    refine ⟨fun h=>absurd h (by decide),fun _=>⟨fun h=>(by cases h),fun _=>⟨fun h=>(by simp at h),fun _=>⟨fun _=>⟨_,c15 H.toHas03 hn.1 hn.2,hB (a:=0) ht⟩,fun h=>by simp at h⟩⟩⟩⟩
   ·refine ⟨[],rfl,?_⟩
    unfold Rf By Nw Rk Cj
    rw [k]
    refine ⟨fun h=>absurd h (by decide),fun _=>⟨fun h=>(by cases h),fun _=>⟨fun h=>(by simp at h),fun _=>⟨fun h=>(by simp at h),fun _=>⟨fun _=>⟨_,_,c11 H.toHas03 v.text,?_⟩,fun h=>by simp at h⟩⟩⟩⟩⟩
    rw [Zko (by unfold Za.okh Qe at h1;omega)]
    refine ⟨_,_,Bz H.toHasB (s:=quo v.text) ?_,rfl,?_⟩
    ·rw [Wq];omega
    ·rw [ht]
   ·refine ⟨[],rfl,?_⟩
    unfold Rf By Nw Rk Cj Cc
    rw [k]
    refine ⟨fun h=>absurd h (by decide),fun _=>⟨fun h=>(by cases h),fun _=>⟨fun h=>(by simp at h),fun _=>⟨fun h=>(by simp at h),fun _=>⟨fun h=>(by simp at h),fun _=>⟨fun _=>⟨fun hc=>hB (a:=0) ?_,fun hc=>⟨fun _=>⟨fun hl=>hB (a:=0) ?_,fun hl=>⟨fun _=>?_,fun h=>absurd rfl h⟩⟩,fun h=>absurd rfl h⟩⟩,fun h=>absurd rfl h⟩⟩⟩⟩⟩⟩
    ·rw [ht,kD hc];rfl
    ·rw [ht,kA (by rw [hc];decide),kD (by omega)];rfl
    ·rw [kA (by rw [hc];decide),kA (by omega)] at ht hlen
     have hl1:v.list.length=1:=by unfold Za.okh Qe at h1;omega
     obtain ⟨w,hw1⟩:=List.length_eq_one_iff.1 hl1
     rw [hw1,Zim] at hlen ht
     simp only [kB] at hlen
     refine ⟨_,_,Bz H.toHasB (s:=[38]) ?_,w,by rw [hw1];rfl,_,_,ih w (by rw [hw1];exact jN) _ ?_,rfl,?_⟩
     ·rw [Wq];simp only [kB,kG];omega
     ·simp only [kF,kB,kG];omega
     ·rw [ht];simp
   ·have hc:v.cut=false:=by
     have:v.cut.toNat=0:=by unfold Za.okh Qe at h1;omega
     cases hc:v.cut
     ·rfl
     ·rw [hc] at this;cases this
    refine ⟨[123,125],rfl,?_⟩
    unfold Rf By Nw Rk Cj Cc
    rw [k]
    refine ⟨fun h=>absurd h (by decide),fun _=>⟨fun h=>(by cases h),fun _=>⟨fun h=>(by simp at h),fun _=>⟨fun h=>(by simp at h),fun _=>⟨fun h=>(by simp at h),fun _=>⟨fun h=>absurd h (by decide),fun _=>⟨fun h=>(by cases h),fun _=>⟨fun h=>absurd h (by decide),fun _=>⟨fun h=>absurd h (by decide),fun _=>⟨fun h=>(by rw [hc] at h;cases h),fun _=>⟨by decide,_,_,Bz H.toHasB (s:=[123]) ?_,?_⟩⟩⟩⟩⟩⟩⟩⟩⟩⟩⟩
    ·rw [Wq];simp only [kB,kG,kF] at hlen ⊢;omega
    ·simp only [kB,kG,kF] at hlen
     exact Zpm H (by unfold Za.okh Qe at h1;omega) ih (by omega) ⟨rfl,by rw [ht];simp⟩
   ·have hc:v.cut=false:=by
     have:v.cut.toNat=0:=by unfold Za.okh Qe at h1;omega
     cases hc:v.cut
     ·rfl
     ·rw [hc] at this;cases this
    refine ⟨[91,93],rfl,?_⟩
    unfold Rf By Nw Rk Cj Cc
    rw [k]
    refine ⟨fun h=>absurd h (by decide),fun _=>⟨fun h=>(by cases h),fun _=>⟨fun h=>(by simp at h),fun _=>⟨fun h=>(by simp at h),fun _=>⟨fun h=>(by simp at h),fun _=>⟨fun h=>absurd h (by decide),fun _=>⟨fun h=>(by cases h),fun _=>⟨fun h=>absurd h (by decide),fun _=>⟨fun h=>absurd h (by decide),fun _=>⟨fun h=>(by rw [hc] at h;cases h),fun _=>⟨by decide,_,_,Bz H.toHasB (s:=[91]) ?_,?_⟩⟩⟩⟩⟩⟩⟩⟩⟩⟩⟩
    ·rw [Wq];simp only [kB,kG,kF] at hlen ⊢;omega
    ·simp only [kB,kG,kF] at hlen
     exact Zpm H (by unfold Za.okh Qe at h1;omega) ih (by omega) ⟨rfl,by rw [ht];simp⟩
   ·refine ⟨[60,62],rfl,?_⟩
    unfold Rf By Nw Rk Cj Cc
    rw [k]
    refine ⟨fun h=>absurd h (by decide),fun _=>⟨fun h=>(by cases h),fun _=>⟨fun h=>(by simp at h),fun _=>⟨fun h=>(by simp at h),fun _=>⟨fun h=>(by simp at h),fun _=>⟨fun h=>absurd h (by decide),fun _=>⟨fun h=>(by cases h),fun _=>⟨fun h=>absurd h (by decide),fun _=>⟨fun h=>absurd h (by decide),fun _=>⟨fun hc=>hB (a:=0) ?_,fun hc=>⟨by decide,_,_,Bz H.toHasB (s:=[60]) ?_,?_⟩⟩⟩⟩⟩⟩⟩⟩⟩⟩⟩
    ·rw [ht,kD hc];rfl
    ·rw [kA (by rw [hc];decide)] at hlen
     rw [Wq];simp only [kB,kG,kF] at hlen ⊢;omega
    ·rw [kA (by rw [hc];decide)] at hlen ht
     simp only [kB,kG,kF] at hlen
     exact Zpm H (by unfold Za.okh Qe at h1;omega) ih (by omega) ⟨rfl,by rw [ht];simp⟩
  ·obtain ⟨x0,h1,rfl,rfl⟩:=hk
   exact ⟨h1,rfl⟩
theorem c72 {v:Za} (hw:Wf v):Ze PG 72 [v.av] (.tup [.s (if Vh v=true then Xg v else []),.i .i64 (Mu v)]):=by
 obtain ⟨x,y,⟨rfl,rfl⟩,h⟩:=p72 H.f72 (v0:=v) (K:=fun x y=>x=(if Vh v=true then Xg v else [])/\y=Mu v) (by
  unfold Zpd
  refine ⟨_,c76 H hw,fun h=>?_,fun h=>?_⟩
  ·unfold Mu at h ⊢
   by_cases hf:Vh v=true
   ·rw [kD hf] at h;exact absurd rfl h
   ·rw [kA hf,kA hf];exact ⟨rfl,rfl⟩
  ·unfold Mu at h ⊢
   by_cases hf:Vh v=true
   ·rw [kD hf,kD hf]
    have:=Cq hf
    refine ⟨_,_,Zxl H 130 (Sj hf).1 hw [] (by simp only [kG];omega),fun h=>absurd rfl h,fun _=>⟨_,Zzk H.toHasB (by rw [zA,Wq];omega),rfl,rfl⟩⟩
   ·rw [kA hf] at h;exact absurd (by decide) h)
 exact h
end
end Go.AM

namespace Go.AM
open Go
theorem Zqr :∀{s:Zc} {i:Nat},i<Qp s->∃c,s[i]?=some c/\Uu c=true
 | [],i,h=>absurd h (yE _)
 | c::s,0,h=>by
  rw [Qp] at h
  split at h
  ·rename_i hc;exact ⟨c,rfl,hc⟩
  ·exact absurd h (yE _)
 | c::s,i+1,h=>by
  rw [Qp] at h
  split at h
  ·exact Zqr (s:=s) (i:=i) (by omega)
  ·exact absurd h (yE _)
theorem Zj9 :∀{s:Zc} {c:UInt8},s[Qp s]?=some c->Uu c=false
 | [],c,h=>by cases h
 | x::s,c,h=>by
  rw [Qp] at h
  split at h
  ·rw [Nat.add_comm,zK] at h
   exact Zj9 h
  ·rename_i hx
   rw [yL] at h
   injection h with h
   subst h
   simpa using hx
theorem Ykm {s:Zc} {i:Nat} (h:i<Jl s) :∃c,s[i]?=some c/\(Uu c=true\/(i=0/\c=45)):=by
 unfold Jl at h
 split at h
 ·rename_i h1
  cases s with
  | nil=>cases h1
  | cons x s=>
   injection h1 with h1
   subst h1
   cases i with
   | zero=>exact ⟨45,rfl,.inr ⟨rfl,rfl⟩⟩
   | succ i=>
    obtain ⟨c,h2,h3⟩:=Zqr (s:=s) (i:=i) (by simp only [yF,zT] at h;omega)
    exact ⟨c,h2,.inl h3⟩
 ·obtain ⟨c,h2,h3⟩:=Zqr h
  exact ⟨c,h2,.inl h3⟩
theorem Yvb {s:Zc} {c:UInt8} (h:s[Jl s]?=some c):Uu c=false/\(Jl s=0->c≠45):=by
 unfold Jl at *
 split at h
 ·rename_i h1
  rw [kD h1]
  cases s with
  | nil=>cases h1
  | cons x s=>
   simp only [yF,zT] at h ⊢
   rw [Nat.add_comm,zK] at h
   exact ⟨Zj9 h,fun h=>absurd h (by omega)⟩
 ·rename_i h1
  rw [kA h1]
  refine ⟨Zj9 h,fun h2=>?_⟩
  rw [h2] at h
  rintro rfl
  exact h1 (by rw [List.head?_eq_getElem?];exact h)
theorem Zyy {c:UInt8}:Uu c=true↔48<=c.toNat/\c.toNat<=57:=by unfold Uu;simp
theorem Yhr {c:UInt8}:Uu c=false↔¬(48<=c.toNat/\c.toNat<=57):=by rw [<- Zyy];simp
theorem Zrn:qs []=none:=rfl
theorem Ygg:qs [92]=none:=rfl
theorem Yr6 (x:UInt8) (r:Zc):qs (92::x::r)=(qs r).map (·+2):=rfl
theorem Yyw (r:Zc):qs (34::r)=some 1:=by rw [qs.eq_def];rfl
theorem Yjb {c:UInt8} (h1:¬c=92) (h2:¬c=34) (r:Zc):qs (c::r)=(qs r).map (·+1):=by
 rw [qs.eq_def]
 simp only [kA h1,kA h2]
theorem Zrf {c:UInt8}:c=45↔c.toNat=45:=⟨fun h=>by rw [h];rfl,fun h=>Do h⟩
section
variable {PG:Zb} (H:Has38 PG)
include H
theorem Ue (p s:Zc):Yt PG 128 (Bx [.s s]) [.s p] (fun r=>r=.b (Zn p s).2) (Bx [.s (Zn p s).1]):=by
 refine (Yph H.f128 (fk:=p) (mP:=⟨s⟩) (K:=fun r b=>r=(Zn p s).2/\b=⟨(Zn p s).1⟩) ?_).to (b:=⟨(Zn p s).1⟩) fun r b' hk=>?_
 ·unfold Zlp
  exact ⟨_,_,Pz H.toHas03 s p,rfl,rfl⟩
 ·obtain ⟨x0,h1,rfl,rfl⟩:=hk
  exact ⟨h1,rfl⟩
theorem Zug {s:Zc} (hs:s.length<=1000000000):Yt PG 131 (Bx [.s s]) [] (fun r=>r=.tup [.i .i64 (Km s).1,.b (Km s).2.1]) (Bx [.s (Km s).2.2]):=by
 refine (Xbn H.f131 (mP:=⟨s⟩) (K:=fun x y b=>x=(Km s).1/\y=(Km s).2.1/\b=⟨(Km s).2.2⟩) ?_).to (b:=⟨(Km s).2.2⟩) fun r b' hk=>?_
 ·unfold Zmb Zhx
  intro P hP
  have hle:=Yok s
  refine Xdi (P:=fun i=>P i ⟨s⟩) (Jl s) ?_ fun i hi ih=>?_
  ·apply hP
   unfold Zau
   have fin:0<=((Jl s:Nat):Int)/\((Jl s:Nat):Int).toNat<=s.length/\∃r:Int,∃r':Int,Ze PG 21 [.s (s.take ((Jl s:Nat):Int).toNat)] (.tup [.i .i64 r,.i .i64 r'])/\0<=((Jl s:Nat):Int)/\((Jl s:Nat):Int).toNat<=s.length/\r=(Km s).1/\(decide (r'=0))=(Km s).2.1/\Sc.mk (s.drop ((Jl s:Nat):Int).toNat)=⟨(Km s).2.2⟩:=by
    rw [De]
    exact ⟨by omega,hle,_,_,c21 H.toHas03 _,by omega,hle,rfl,rfl,rfl⟩
   refine ⟨fun h=>?_,fun _=>fin⟩
   have hlt:Jl s<s.length:=by simp only at h;omega
   obtain ⟨h1,h2⟩:=Yvb (kH hlt)
   have h1:=Yhr.1 h1
   have h2:Jl s=0->¬(s[Jl s].toNat=45):=fun h=>fun h'=>h2 h (Zrf.2 h')
   refine ⟨by omega,s[Jl s],Wj hlt,fun h3=>⟨by omega,s[Jl s],Wj hlt,fun h4=>absurd ⟨by omega,by omega⟩ h1,fun h4=>⟨fun h5=>⟨by omega,s[Jl s],Wj hlt,fun h6=>absurd (show s[Jl s].toNat=45 by omega) (h2 (by omega)),fun _=>fin⟩,fun _=>fin⟩⟩,
    fun h3=>⟨fun h5=>⟨by omega,s[Jl s],Wj hlt,fun h6=>absurd (show s[Jl s].toNat=45 by omega) (h2 (by omega)),fun _=>fin⟩,fun _=>fin⟩⟩
  ·apply hP
   obtain ⟨c,hc,hd⟩:=Ykm hi
   have hc':s[((i:Nat):Int).toNat]?=some c:=hc
   rw [Zyy,Zrf] at hd
   have ih':P (IntKind.i64.wrap ((i:Int)+1)) ⟨s⟩:=by rw [Sa (by omega)];exact ih
   unfold Zau
   refine ⟨fun _=>⟨by omega,c,hc',fun h3=>⟨by omega,c,hc',fun _=>ih',fun h4=>⟨fun h5=>⟨by omega,c,hc',fun _=>ih',fun h6=>absurd h6 (by omega)⟩,fun h5=>absurd h5 (by omega)⟩⟩,
    fun h3=>⟨fun h5=>⟨by omega,c,hc',fun _=>ih',fun h6=>absurd h6 (by omega)⟩,fun h5=>absurd h5 (by omega)⟩⟩,fun h=>absurd (show (i:Int)<s.length by omega) h⟩
 ·obtain ⟨x0,x1,h1,rfl,rfl,rfl⟩:=hk
  exact ⟨h1,rfl⟩
theorem Xbd {s:Zc} (hs:s.length<=1000000000):Yt PG 130 (Bx [.s s]) [] (fun r=>r=.tup [.s (Gy s).1,.b (Gy s).2.1]) (Bx [.s (Gy s).2.2]):=by
 refine (Yzs H.f130 (mP:=⟨s⟩) (K:=fun x y b=>x=(Gy s).1/\y=(Gy s).2.1/\b=⟨(Gy s).2.2⟩) ?_).to (b:=⟨(Gy s).2.2⟩) fun r b' hk=>?_
 ·unfold Zn1 Zih
  intro P hP
  have go :∀m i:Nat,s.length<=i+m->i<=s.length+1->1<=i->qs (s.drop 1)=(qs (s.drop i)).map (·+(i-1))->P (i:Int) ⟨s⟩:=by
   intro m
   induction m using Nat.strongRecOn with
   | _ m ih=>
   intro i hm hi h1 hq
   apply hP
   unfold Zks
   refine ⟨fun h=>?_,fun h=>?_⟩
   ·have:s.drop i=[]:=xF (by simp only at h;omega)
    rw [this,Zrn,Option.map_none] at hq
    unfold Gy
    rw [hq]
    exact ⟨rfl,rfl,rfl⟩
   ·have hlt:i<s.length:=by simp only at h;omega
    have hd:s.drop i=s[i]::s.drop (i+1):=zS hlt
    refine ⟨by omega,s[i],Wj hlt,fun h2=>?_,fun h2=>⟨by omega,s[i],Wj hlt,fun h3=>?_,fun h3=>?_⟩⟩
    ·rw [Ws (by omega) (by omega),show (i:Int)+2=((i+2:Nat):Int) by omega]
     have hc:s[i]=92:=Do (by show s[i].toNat=92;omega)
     rw [hd,hc] at hq
     by_cases hl:i+1<s.length
     ·have hd2:s.drop (i+1)=s[i+1]::s.drop (i+2):=zS hl
      refine ih (m-2) (by omega) (i+2) (by omega) (by omega) (by omega) ?_
      rw [hd2,Yr6,Option.map_map] at hq
      rw [hq]
      congr 1
      funext x
      simp only [Function.comp]
      omega
     ·have hd2:s.drop (i+1)=[]:=xF (by omega)
      refine ih (m-1) (by omega) (i+2) (by omega) (by omega) (by omega) ?_
      rw [hd2,Ygg] at hq
      rw [hq,xF (show s.length<=i+2 by omega),Zrn]
      rfl
    ·rw [Sa (by omega)]
     have hc:¬s[i]=92:=fun e=>h2 (by rw [e];rfl)
     have hc':¬s[i]=34:=fun e=>h3 (by rw [e];rfl)
     rw [hd,Yjb hc hc',Option.map_map] at hq
     refine ih (m-1) (by omega) (i+1) (by omega) (by omega) (by omega) ?_
     rw [hq]
     congr 1
     funext x
     simp only [Function.comp]
     omega
    ·rw [Sa (by omega),De]
     have hc:s[i]=34:=Do (by show s[i].toNat=34;simp only [ne_eq,kW] at h3;omega)
     rw [hd,hc,Yyw,kJ] at hq
     have e:1+(i-1)+1=i+1:=by omega
     refine ⟨by omega,by show i+1<=s.length;omega,_,_,c25 H.toHas03 _,by omega,by show i+1<=s.length;omega,?_⟩
     unfold Gy
     rw [hq]
     simp [e]
  exact go s.length 1 (by omega) (by omega) (by omega) (by simp)
 ·obtain ⟨x0,x1,h1,rfl,rfl,rfl⟩:=hk
  exact ⟨h1,rfl⟩
end
end Go.AM

namespace Go.AM
open Go
theorem Zyu (s:Zc):(Km s).2.2.length<=s.length:=by unfold Km;simp
theorem Yop (s:Zc):(Gy s).2.2.length<=s.length:=by
 unfold Gy
 split<;>simp
theorem Kd (p s:Zc):(Zn p s).1.length<=s.length:=by
 unfold Zn
 split<;>simp
section
variable {f:Zc->Za × Bool × Zc}
theorem Zx8 {kind:Int} {stop:Zc} (hf :∀s,(f s).2.2.length<=s.length) :∀(n:Nat) (acc:List Za) (s:Zc),(Gn f kind stop n acc s).2.2.length<=s.length
 | 0,acc,s=>kU _
 | n+1,acc,s=>by
  have h1:=hf s
  have h2:=Kd stop (f s).2.2
  have h3:=Kd [44,32] (Zn stop (f s).2.2).1
  rw [Gn]
  split
  ·exact h1
  ·split
   ·exact jA h2 h1
   ·split
    ·exact jA h3 (jA h2 h1)
    ·exact jA (Zx8 hf n _ _) (jA h3 (jA h2 h1))
theorem Zl7 {kind:Int} {stop s:Zc} (hf :∀s,(f s).2.2.length<=s.length):(Uq f kind stop s).2.2.length<=s.length:=by
 unfold Uq
 split
 ·exact Kd _ _
 ·exact jA (Zx8 hf 17 [] _) (Kd _ _)
theorem Br {c:Prop} [Decidable c] {a b:Za × Bool × Zc} {n:Nat} (ha:a.2.2.length<=n) (hb:b.2.2.length<=n):(if c then a else b).2.2.length<=n:=by
 split
 ·exact ha
 ·exact hb
theorem Zep :∀(d:Nat) (s:Zc),(Jb d s).2.2.length<=s.length
 | 0,s=>kU _
 | d+1,s=>by
  have ih:=Zep d
  rw [Jb]
  exact Br (kU _) (Br (Kd _ _) (Br (Kd _ _) (Br (Kd _ _) (Br (Kd _ _) (Br (Kd _ _) (Br (jA (ih _) (Kd _ _)) (Br (jA (Zl7 ih) (Kd _ _))
   (Br (jA (Zl7 ih) (Kd _ _)) (Br (jA (Zl7 ih) (Kd _ _)) (Br (Yop _) (Zyu _)))))))))))
end
section
variable {PG:Zb} (H:Has38 PG)
include H
abbrev ScR (r:Za × Bool × Zc):AV->Prop:=fun x=>∃o:Zm,x=.tup [.ag [.i .u8 r.1.kind,.i .i64 r.1.int,.s r.1.text,.sl o (List.map Za.row r.1.list),.b r.1.cut],.b r.2.1]
theorem Zo5 {f:Zc->Za × Bool × Zc} {d:Nat} (hf :∀s,(f s).2.2.length<=s.length) (hc :∀s:Zc,s.length<=1000000000->Yt PG 107 (Bx [.s s]) [.i .i64 (d:Int)] (ScR (f s)) (Bx [.s (f s).2.2])) {kind:Int} {stop s:Zc} (hs:s.length<=1000000000) :
  Yt PG 129 (Bx [.s s]) [.i .u8 kind,.s stop,.i .i64 (d:Int)] (ScR (Uq f kind stop s)) (Bx [.s (Uq f kind stop s).2.2]):=by
 refine (Xbv H.f129 (et:=kind) (el:=stop) (dh:=(d:Int)) (mP:=⟨s⟩) (K:=fun x y b=>x=(Uq f kind stop s).1/\y=(Uq f kind stop s).2.1/\b=⟨(Uq f kind stop s).2.2⟩) ?_).to (b:=⟨(Uq f kind stop s).2.2⟩) fun r b' hk=>?_
 ·unfold Zlf
  refine ⟨_,⟨(Zn stop s).1⟩,Ue H stop s,fun h=>?_,fun h P hP=>?_⟩
  ·unfold Uq
   rw [kD h]
   exact ⟨rfl,rfl,rfl⟩
  ·have e:Uq f kind stop s=Gn f kind stop 17 [] (Zn stop s).1:=by unfold Uq;rw [kA (by rw [h];decide)]
   have hl:=Kd stop s
   generalize (Zn stop s).1=t at hl e ⊢
   have go :∀(n:Nat) (acc:List Za) (u:Zc),acc.length+n=17->u.length<=t.length->Gn f kind stop 17 [] t=Gn f kind stop n acc u->P (Za.mk 0 0 [] [] false) (Za.mk kind 0 [] acc false) ⟨u⟩:=by
    intro n
    induction n with
    | zero=>
     intro acc u ha hu hq
     apply hP
     rw [e,hq]
     unfold Zfs Zn5
     refine ⟨fun h=>absurd h (by simp only [Za.list_mk];omega),fun _=>⟨rfl,rfl,rfl⟩⟩
    | succ n ih=>
     intro acc u ha hu hq
     apply hP
     rw [e,hq,Gn]
     have h1:=hf u
     have h2:=Kd stop (f u).2.2
     have h3:=Kd [44,32] (Zn stop (f u).2.2).1
     unfold Zfs
     refine ⟨fun _=>⟨(f u).1,(f u).2.1,⟨(f u).2.2⟩,hc u (by omega),fun g1=>?_,fun g1=>⟨⟨?_,?_⟩,_,⟨(Zn stop (f u).2.2).1⟩,Ue H stop (f u).2.2,fun g2=>?_,fun g2=>⟨_,⟨(Zn [44,32] (Zn stop (f u).2.2).1).1⟩,Ue H [44,32] (Zn stop (f u).2.2).1,fun g3=>?_,fun g3=>?_⟩⟩⟩,fun h=>absurd (show (acc.length:Int)<=16 by omega) h⟩
     ·rw [kD (by simpa using g1)]
      exact ⟨rfl,rfl,rfl⟩
     ·simp only [Za.list_mk,kB,kG,Wq];omega
     ·simp only [Za.list_mk,kB,kG,Wq];omega
     ·rw [kA (by simpa using g1),kD g2]
      exact ⟨rfl,rfl,rfl⟩
     ·rw [kA (by simpa using g1),kA (by rw [g2];decide),kD (by simpa using g3)]
      exact ⟨rfl,rfl,rfl⟩
     ·refine ih (acc++[(f u).1]) _ (by simp;omega) (by omega) ?_
      rw [hq,Gn,kA (by simpa using g1),kA (by rw [g2];decide),kA (by simpa using g3)]
   exact go 17 [] t rfl (kU _) rfl
 ·obtain ⟨x0,x1,h1,rfl,rfl,rfl⟩:=hk
  exact ⟨h1,rfl⟩
theorem Zxi :∀(d:Nat) {s:Zc},s.length<=1000000000->d<=1000->Yt PG 107 (Bx [.s s]) [.i .i64 (d:Int)] (ScR (Jb d s)) (Bx [.s (Jb d s).2.2])
 | 0,s,hs,hd=>by
  refine (Yf2 H.f107 (aw:=((0:Nat):Int)) (mP:=⟨s⟩) (K:=fun x y b=>x=(Jb 0 s).1/\y=(Jb 0 s).2.1/\b=⟨(Jb 0 s).2.2⟩) ?_).to (b:=⟨(Jb 0 s).2.2⟩) fun r b' hk=>?_
  ·unfold Zg3 Zci
   exact ⟨fun _=>⟨rfl,rfl,rfl⟩,fun h=>absurd rfl h⟩
  ·obtain ⟨x0,x1,h1,rfl,rfl,rfl⟩:=hk
   exact ⟨h1,rfl⟩
 | d+1,s,hs,hd=>by
  have ih:=fun s hs=>@Zxi d s hs (by omega)
  have hm:IntKind.i64.wrap (((d+1:Nat):Int)-1)=(d:Int):=by rw [Ws (by omega) (by omega)];omega
  refine (Yf2 H.f107 (aw:=((d+1:Nat):Int)) (mP:=⟨s⟩) (K:=fun x y b=>x=(Jb (d+1) s).1/\y=(Jb (d+1) s).2.1/\b=⟨(Jb (d+1) s).2.2⟩) ?_).to (b:=⟨(Jb (d+1) s).2.2⟩) fun r b' hk=>?_
  ·have e:=Jb.eq_2 s d
   unfold Zg3 Zci
   refine ⟨fun h=>absurd h (by omega),fun _=>⟨fun h=>?_,fun h0=>?_⟩⟩
   ·rw [e,kD h];exact ⟨rfl,rfl,rfl⟩
   rw [kA h0] at e
   unfold Zna
   refine ⟨_,⟨(Zn Qx s).1⟩,Ue H Qx s,?_⟩
   unfold Zkd
   refine ⟨fun h=>?_,fun h=>?_⟩
   ·rw [e,kD h];exact ⟨rfl,rfl,rfl⟩
   rw [kA (by rw [h];decide)] at e
   rw [Nf h]
   refine ⟨_,⟨(Zn Qg s).1⟩,Ue H Qg s,?_⟩
   clear h
   unfold Zo8
   refine ⟨fun h=>?_,fun h=>?_⟩
   ·rw [e,kD h];exact ⟨rfl,rfl,rfl⟩
   rw [kA (by rw [h];decide)] at e
   rw [Nf h]
   refine ⟨_,⟨(Zn Qw s).1⟩,Ue H Qw s,?_⟩
   clear h
   unfold Zov
   refine ⟨fun h=>?_,fun h=>?_⟩
   ·rw [e,kD h];exact ⟨rfl,rfl,rfl⟩
   rw [kA (by rw [h];decide)] at e
   rw [Nf h]
   refine ⟨_,⟨(Zn Ud s).1⟩,Ue H Ud s,?_⟩
   clear h
   unfold Zi5
   refine ⟨fun h=>?_,fun h=>?_⟩
   ·rw [e,kD h];exact ⟨rfl,rfl,rfl⟩
   rw [kA (by rw [h];decide)] at e
   rw [Nf h]
   refine ⟨_,⟨(Zn Um s).1⟩,Ue H Um s,?_⟩
   clear h
   unfold Zoo
   refine ⟨fun h=>?_,fun h=>?_⟩
   ·rw [e,kD h];exact ⟨rfl,rfl,rfl⟩
   rw [kA (by rw [h];decide)] at e
   rw [Nf h]
   refine ⟨_,⟨(Zn [38] s).1⟩,Ue H [38] s,?_⟩
   clear h
   unfold Zmh
   rw [hm]
   have l1:=Kd [38] s
   refine ⟨fun h=>⟨_,_,⟨_⟩,ih _ (jA l1 hs),?_⟩,fun h=>?_⟩
   ·rw [e,kD h];exact ⟨rfl,rfl,rfl⟩
   rw [kA (by rw [h];decide)] at e
   rw [Nf h]
   have l1:=Kd [123] s
   refine ⟨_,⟨(Zn [123] s).1⟩,Ue H [123] s,fun h=>⟨_,_,⟨_⟩,Zo5 H (Zep d) ih (jA l1 hs),?_⟩,fun h=>?_⟩
   ·rw [e,kD h];exact ⟨rfl,rfl,rfl⟩
   rw [kA (by rw [h];decide)] at e
   rw [Nf h]
   have l1:=Kd [91] s
   refine ⟨_,⟨(Zn [91] s).1⟩,Ue H [91] s,fun h=>⟨_,_,⟨_⟩,Zo5 H (Zep d) ih (jA l1 hs),?_⟩,fun h=>?_⟩
   ·rw [e,kD h];exact ⟨rfl,rfl,rfl⟩
   rw [kA (by rw [h];decide)] at e
   rw [Nf h]
   have l1:=Kd [60] s
   refine ⟨_,⟨(Zn [60] s).1⟩,Ue H [60] s,fun h=>⟨_,_,⟨_⟩,Zo5 H (Zep d) ih (jA l1 hs),?_⟩,fun h=>?_⟩
   ·rw [e,kD h];exact ⟨rfl,rfl,rfl⟩
   rw [kA (by rw [h];decide)] at e
   rw [Nf h]
   cases s with
   | nil=>exact absurd rfl h0
   | cons c s=>
    refine ⟨c,rfl,fun h=>⟨_,_,⟨_⟩,Xbd H hs,?_⟩,fun h=>⟨_,_,⟨_⟩,Zug H hs,?_⟩⟩
    ·have hc:c=34:=Do (by show c.toNat=34;omega)
     subst hc
     rw [e,xE,kD rfl];exact ⟨rfl,rfl,rfl⟩
    ·rw [e,kA (by rw [xE];intro he;injection he with he;exact h (by rw [he];rfl))];exact ⟨rfl,rfl,rfl⟩
  ·obtain ⟨x0,x1,h1,rfl,rfl,rfl⟩:=hk
   exact ⟨h1,rfl⟩
omit H in
theorem Nv {v:Za}:Mu v=0↔Vh v=true:=by
 unfold Mu
 by_cases h:Vh v=true
 ·rw [kD h];simp [h]
 ·rw [kA h];simp [h]
theorem c74 {s:Zc} (hs:s.length<=1000000000):Ze PG 74 [.s s] (.tup [(Ji s).1.av,.i .i64 (Ji s).2]):=by
 obtain ⟨x,y,⟨rfl,rfl⟩,h⟩:=p74 H.f74 (s0:=s) (K:=fun x y=>x=(Ji s).1/\y=(Ji s).2) (by
  unfold Zit Ji
  refine ⟨fun h=>?_,fun h=>⟨_,_,⟨_⟩,Zxi H 130 hs (by decide),fun h1=>?_,fun h1=>⟨fun h2=>?_,fun h2=>⟨_,_,c72 H (Tj _ _),fun h3=>?_,fun h3=>⟨fun h4=>?_,fun h4=>?_⟩⟩⟩⟩⟩
  ·rw [kD (by omega)];exact ⟨rfl,rfl⟩
  ·rw [kA (by omega),kA (by rintro ⟨h,_⟩;rw [h] at h1;cases h1)];exact ⟨rfl,rfl⟩
  ·rw [kA (by omega),kA (by rintro ⟨_,h,_⟩;exact h2 h)];exact ⟨rfl,rfl⟩
  ·rw [kA (by omega),kA (by rintro ⟨_,_,h,_⟩;exact h3 (Nv.2 h))];exact ⟨rfl,rfl⟩
  ·rw [kA (by omega),kA];· exact ⟨rfl,rfl⟩
   rintro ⟨_,_,h5,h6⟩
   rw [kD h5] at h4
   exact h4 h6
  ·have h5:=Nv.1 (kW.1 h3)
   rw [kD h5] at h4
   rw [kA (by omega),kD ⟨by simpa using h1,kW.1 h2,h5,kW.1 h4⟩]
   exact ⟨rfl,rfl⟩)
 exact h
end
end Go.AM

namespace Go.AM
open Go
section
variable {PG:Zb} (H:Has38 PG)
include H
theorem c78 {a:Za} (hw:Wf a) :∀b:Za,Ze PG 78 [a.av,b.av] (.b (Sv a b)):=by
 induction hw with
 | @mk k n s l c hk hn hl _ ih=>
  intro b
  obtain ⟨x,rfl,h⟩:=p78 H.f78 (a0:=Za.mk k n s l c) (b1:=b) (K:=fun x=>x=Sv (Za.mk k n s l c) b) (by
   have no :∀{p:Prop},(Za.mk k n s l c=b->p)->¬p->false=Sv (Za.mk k n s l c) b:=fun h1 h2=>(Zey.2 fun h=>h2 (h1 h)).symm
   unfold Zh1
   refine ⟨fun h=>no (fun e=>by rw [<- e]) h,fun h1=>⟨fun h=>no (fun e=>by rw [<- e]) h,fun h2=>⟨fun h=>no (fun e=>by rw [<- e]) h,fun h3=>⟨fun h=>no (fun e=>by rw [<- e]) h,fun h4=>⟨fun h=>no (fun e=>by rw [<- e]) h,fun h5 P hP=>?_⟩⟩⟩⟩⟩
   have h1:=kW.1 h1
   have h2:=kW.1 h2
   have h3:=kW.1 h3
   have h4:=kW.1 h4
   have h5:l.length=b.list.length:=by have:=kW.1 h5;simp only [Za.list_mk] at this;omega
   refine Zjp (P:=fun _ i=>P i (Za.mk k n s l c) b) (fun _=>()) l.length (fun i=>l.take i=b.list.take i) (by simp) (fun hI=>?_) (fun i hi hI ihP=>?_)
   ·apply hP
    unfold Zaw Zqh
    refine ⟨fun h=>absurd h (by simp only [Za.list_mk];omega),fun _=>(Fo.2 ?_).symm⟩
    rw [jG,h5,jG] at hI
    rw [b.eta,<- h1,<- h2,<- h3,<- h4,hI]
    rfl
   ·apply hP
    have hi2:i<b.list.length:=by omega
    unfold Zaw
    refine ⟨fun _=>⟨by omega,l[i],Wj (l:=l) hi,by omega,b.list[i],Wj hi2,_,ih _ (kP hi) _,fun h6=>?_,fun h6=>?_⟩,fun h=>absurd (show (i:Int)<l.length by omega) h⟩
    ·refine no (p:=l[i]=b.list[i]) (fun e=>?_) (Zey.1 (by simpa using h6))
     subst e
     rfl
    ·rw [Ws (by omega) (by omega)]
     refine ihP ?_
     have h7:l[i]=b.list[i]:=Fo.1 (by simpa using h6)
     rw [kK hi,kK hi2,hI,h7])
  exact h
end
end Go.AM

namespace Go.AM
open Go
structure HasO (PG:Zb):Prop extends Has38 PG where
 f154:PG.fn 154=some Zbb
 f158:PG.fn 158=some Zan
 f178:PG.fn 178=some Eg
 f180:PG.fn 180=some Zdm
 f183:PG.fn 183=some Za6
 f190:PG.fn 190=some Zea
 f191:PG.fn 191=some Ze4
def Zc5:List Zc:=[[],Ca,Tk,Pc]
def Ia:List UInt8:=[0,2,1,3,2]
theorem Yvp {t:Int} (h:0<=t) (h4:¬t>4) :∃c:UInt8,Ia[t.toNat]?=some c/\((c.toNat:Nat):Int)=Mq t:=by
 rcases (show t=0\/t=1\/t=2\/t=3\/t=4 by omega) with rfl | rfl | rfl | rfl | rfl
 ·exact ⟨0,rfl,rfl⟩
 ·exact ⟨2,rfl,rfl⟩
 ·exact ⟨1,rfl,rfl⟩
 ·exact ⟨3,rfl,rfl⟩
 ·exact ⟨2,rfl,rfl⟩
theorem Ys8 {n:Int} (h:1<=n) (h3:n<=3):Zc5[n.toNat]?=some (Oh n):=by
 rcases (show n=1\/n=2\/n=3 by omega) with rfl | rfl | rfl<;>rfl
theorem Xgf {p:Zf} (h:p.tag>4):Xx p=false:=by unfold Xx;rw [kM (by omega)];rfl
theorem Yww {p:Zf} (h:p.value.kind≠Mq p.tag):Xx p=false:=by unfold Xx;rw [kM h];simp
theorem Ynm {p:Zf} (h:p.tag=0) (hk:p.value.kind=Mq p.tag):Xx p=(Bo p.value&&decide (p.flags=2\/p.flags=6)):=by
 unfold Xx;rw [kN hk,kN (by omega),kD h];rfl
theorem Ynj {p:Zf} (h4:¬p.tag>4) (h:p.tag≠0) (hk:p.value.kind=Mq p.tag):Xx p=(decide (p.flags=0\/p.flags=1\/p.flags=4\/p.flags=5)&&decide (p.tag=4->1<=p.value.int/\p.value.int<=3)&&Vh p.value):=by
 unfold Xx;rw [kN hk,kN (by omega),kA h];rfl
theorem Cf {p:Zf} (h:Xx p=false):Hx p=8:=by unfold Hx;rw [h];rfl
theorem Yvg {p:Zf} (h:Xx p=true):Hx p=0:=by unfold Hx;rw [h];rfl
theorem Zfl {p:Zf}:Hx p=0↔Xx p=true:=by unfold Hx;split<;>simp_all
section
variable {PG:Zb} (H:HasO PG)
include H
theorem Zvr:Ze PG 178 [] (.ag (Zc5.map AV.s)):=by
 obtain ⟨x,rfl,h⟩:=Yn4 H.f178 (K:=fun x=>x=Zc5) rfl
 exact h
theorem Zv6:Ze PG 183 [] (.ag (Ia.map c8)):=by
 obtain ⟨x,rfl,h⟩:=Xbe H.f183 (K:=fun x=>x=Ia) rfl
 exact h
theorem Yu1 {s p:Zc} (hs:s.length<=1000000000):Ze PG 191 [.s s,.s p] (.b (Xr p s).2):=by
 obtain ⟨x,rfl,h⟩:=Ytz H.f191 (s0:=s) (bh:=p) (K:=fun x=>x=(Xr p s).2) (by
  unfold Zj6 Xr
  refine ⟨fun h=>?_,fun h=>?_⟩
  ·rw [Ws (by omega) (by omega),show ((s.length:Int)-(p.length:Int)).toNat=s.length-p.length by omega]
   refine ⟨by omega,by omega,?_⟩
   by_cases h1:s.drop (s.length-p.length)=p
   ·rw [kN h1,kD ⟨by omega,h1⟩]
   ·rw [kM h1,kA fun h2=>h1 h2.2]
  ·rw [kA fun h2=>h (by omega)])
 exact h
theorem Yzc {s p:Zc} (hs:s.length<=1000000000):Ze PG 190 [.s s,.s p] (.tup [.s (Xr p s).1,.b (Xr p s).2]):=by
 obtain ⟨x,y,⟨rfl,rfl⟩,h⟩:=Ylt H.f190 (s0:=s) (bh:=p) (K:=fun x y=>x=(Xr p s).1/\y=(Xr p s).2) (by
  unfold Zox
  refine ⟨_,Yu1 H hs,fun h=>?_,fun h=>?_⟩
  ·have h:(Xr p s).2=false:=by simpa using h
   exact ⟨(Zl0 h).symm,h.symm⟩
  ·have h:(Xr p s).2=true:=by simpa using h
   have hl:p.length<=s.length:=by have:=jD List.length (Zik h);rw [kF] at this;omega
   rw [Ws (by omega) (by omega),show ((s.length:Int)-(p.length:Int)).toNat=s.length-p.length by omega]
   refine ⟨by omega,by omega,?_,h.symm⟩
   unfold Xr at h ⊢
   split
   ·rfl
   ·rename_i h1;rw [kA h1] at h;cases h)
 exact h
theorem Zzp {s p:Zc} (hs:s.length<=1000000000):Ze PG 180 [.s s,.s p] (.tup [.s (Xr p s).1,.b (Xr p s).2]):=by
 obtain ⟨x,y,⟨rfl,rfl⟩,h⟩:=Yiq H.f180 (s0:=s) (bh:=p) (K:=fun x y=>x=(Xr p s).1/\y=(Xr p s).2) (by
  unfold Zo6
  exact ⟨_,_,Yzc H hs,rfl,rfl⟩)
 exact h
theorem Zls {p:Zf} (hp:Mx p):Ze PG 158 [p.av] (.i .i64 (Hx p)):=by
 obtain ⟨x,rfl,h⟩:=Xj1 H.f158 (p0:=p) (K:=fun x=>x=Hx p) (by
  unfold Zpu Zjl
  refine ⟨fun h=>(Cf (Xgf h)).symm,fun h4=>?_⟩
  obtain ⟨c,g1,g2⟩:=Yvp hp.t.1 h4
  refine ⟨_,Zv6 H,rfl,hp.t.1,c,g1,fun h=>(Cf (Yww (by rw [<- g2];exact h))).symm,fun h=>?_⟩
  have hk:p.value.kind=Mq p.tag:=by rw [<- g2];exact kW.1 h
  unfold Zm9
  refine ⟨fun h0=>?_,fun h0=>?_⟩
  ·have e:=Ynm h0 hk
   have hk0:p.value.kind=0:=by rw [hk,h0];rfl
   have no:Bo p.value=false->8=Hx p:=fun h=>(Cf (by rw [e,h];rfl)).symm
   have nz :∀{q:Prop},(p.value=vz->q)->¬q->Bo p.value=false:=fun a b=>by rw [<- zV,Zpt];exact fun h=>b (a h)
   refine ⟨fun h=>no (nz (fun e=>by rw [e];rfl) h),fun h1=>⟨fun h=>no (nz (fun e=>by rw [e];rfl) h),fun h2=>⟨fun h=>no (nz (q:=¬((p.value.list.length:Int)>0)) (fun e=>by rw [e];decide) (fun h'=>h' h)),fun h3=>⟨fun h=>no (nz (q:=p.value.cut=false) (fun e=>by rw [e];rfl) (by rw [h];decide)),fun h4=>?_⟩⟩⟩⟩
   have hz:Bo p.value=true:=by
    unfold Bo
    rw [kN hk0,kN (kW.1 h1),kN (kW.1 h2),kN (by omega),h4];rfl
   have fl:=Yzt hp.f
   rw [hz,zN] at e
   refine ⟨fun h=>(Cf (by rw [e];exact kM fun h'=>h (fl.2 h'))).symm,fun h=>(Yvg (by rw [e];exact kN (fl.1 (kW.1 h)))).symm⟩
  ·have e:=Ynj h4 h0 hk
   have fl:=Yvr hp.f
   unfold Znf
   refine ⟨fun h=>(Cf (by rw [e,kM (fun h'=>h (fl.2 h'))];rfl)).symm,fun h=>?_⟩
   rw [kN (fl.1 (kW.1 h)),zN] at e
   have last:(p.tag=4->1<=p.value.int/\p.value.int<=3)->Eu PG (fun x=>x=Hx p) p:=fun hh=>by
    unfold Eu
    refine ⟨_,c76 H.toHas38 hp.v,?_⟩
    rw [kN hh,zN] at e
    unfold Mu Hx
    rw [e]
   refine ⟨fun h5=>⟨fun h=>(Cf (by rw [e,kM (fun h'=>by have:=h' h5;omega)];rfl)).symm,fun h6=>⟨fun h=>(Cf (by rw [e,kM (fun h'=>by have:=h' h5;omega)];rfl)).symm,fun h7=>last fun _=>by omega⟩⟩,fun h5=>last fun h'=>absurd h' h5⟩)
 exact h
omit H in
theorem Yot {f:Int} (h:f=0\/f=1\/f=2\/f=4\/f=5\/f=6):(Gb .u64 f 1≠0↔f % 2=1)/\(Gb .u64 f 4≠0↔4<=f)/\(f.tmod 2=1↔f % 2=1):=by
 rcases h with rfl | rfl | rfl | rfl | rfl | rfl<;>decide
omit H in
theorem Yu2 {p:Zf} (h:Xx p=true):p.flags=0\/p.flags=1\/p.flags=2\/p.flags=4\/p.flags=5\/p.flags=6:=by rcases Sx h with ⟨_,_,h⟩ | ⟨_,_,h⟩<;>omega
omit H in
theorem Zxv {p:Zf} (h:Xx p=true) (h4:p.tag=4):1<=p.value.int/\p.value.int<=3:=by
 unfold Xx at h
 simp only [kL,kV] at h
 have h3:=h.2
 rw [kA (by omega)] at h3
 simp only [kL,kV] at h3
 exact h3.1.2 h4
omit H in
theorem Yqo {p:Zf} {b:Zc} (hb:b=Vj p):Vt p=(b++(if p.flags % 2=1 then Ka else []))++(if 4<=p.flags then Ja else []):=by
 rw [hb,Vt,Tu,jC]
theorem Xgz {p:Zf} (hp:Mx p):Ze PG 154 [p.av] (.tup [.s (So p).1,.i .i64 (So p).2]):=by
 obtain ⟨x,y,⟨rfl,rfl⟩,h⟩:=Xex H.f154 (p0:=p) (K:=fun x y=>x=(So p).1/\y=(So p).2) (by
  unfold Zla
  refine ⟨_,Zls H hp,fun h=>?_,fun h=>?_⟩
  ·have h1:Xx p≠true:=fun h'=>h (Zfl.2 h')
   unfold So Hx;rw [kA h1,kA h1];exact ⟨rfl,rfl⟩
  ·have ho:=Zfl.1 (kW.1 h)
   have hl:=Zoz ho
   obtain ⟨a1,a2,a3⟩:=Yot (Yu2 ho)
   unfold So;rw [kD ho]
   have t1 :∀b,b=Vj p->Fh PG (fun x y=>x=(Vt p,(0:Int)).1/\y=(Vt p,(0:Int)).2) b p:=fun b hb=>by
    have e:=Yqo hb
    have hl:b.length<=400:=by rw [e,kF,kF] at hl;omega
    unfold Fh Zcy Zfj
    simp only [kF,kB,kG,Gi]
    refine ⟨fun h1=>⟨by omega,fun h2=>⟨by omega,?_,trivial⟩,fun h2=>⟨?_,trivial⟩⟩,fun h1=>⟨fun h2=>⟨by omega,?_,trivial⟩,fun h2=>⟨?_,trivial⟩⟩⟩
    ·rw [e,kD (a1.1 h1),kD (a2.1 h2)];rfl
    ·rw [e,kD (a1.1 h1),kA fun h=>h2 (a2.2 h),zQ];rfl
    ·rw [e,kA fun h=>h1 (a1.2 h),kD (a2.1 h2),zQ];rfl
    ·rw [e,kA fun h=>h1 (a1.2 h),kA fun h=>h2 (a2.2 h),zQ,zQ]
   refine ⟨fun h0=>t1 _ (by unfold Vj;rw [kD h0];rfl),fun h0=>⟨fun h4=>?_,fun h4=>?_⟩⟩
   ·obtain ⟨g1,g2⟩:=Zxv ho h4
    exact ⟨_,Zvr H,rfl,by omega,_,Ys8 g1 g2,t1 _ (by unfold Vj;rw [kA h0,kD h4])⟩
   ·have hf:Vh p.value=true:=by rcases Sx ho with h | h;exact absurd h.1 h0;exact h.2.1
    have:=Cq hf
    refine ⟨_,_,c72 H.toHas38 hp.v,fun h=>absurd (Nv.2 hf) h,fun _=>?_⟩
    rw [kD hf]
    refine ⟨?_,t1 _ (by unfold Vj;rw [kA h0,kA h4];rfl)⟩
    simp only [kB,kG,Gi];omega)
 exact h
end
end Go.AM

namespace Go.AM
open Go
structure HasP (PG:Zb):Prop extends HasO PG where
 f156:PG.fn 156=some Aj
 f160:PG.fn 160=some Zad
 f181:PG.fn 181=some Za0
theorem Zre (p s:Zc):(Xr p s).1.length<=s.length:=by
 unfold Xr
 split
 ·simp only [jI];omega
 ·exact kU _
noncomputable def Tg (p q:Zf):Bool:=decide (p.tag=q.tag)&&decide (p.flags=q.flags)&&Sv p.value q.value
theorem Ya6 {p q:Zf}:Tg p q=true↔p=q:=by
 obtain ⟨a,b,c⟩:=p
 obtain ⟨d,e,f⟩:=q
 unfold Tg
 simp only [kL,kV,Fo,Zf.mk.injEq]
 constructor
 ·rintro ⟨⟨h1,h2⟩,h3⟩;exact ⟨h1,h3,h2⟩
 ·rintro ⟨h1,h2,h3⟩;exact ⟨⟨h1,h3⟩,h2⟩
def Ul (s:Zc):Zf × Bool:=match Uy s with | some p=>(p,true) | none=>(pz,false)
def Dx (p:Zf) (r a:Bool):Zf:=⟨p.tag,p.value,p.flags+(if r=true then 1 else 0)+(if a=true then 4 else 0)⟩
section
variable {PG:Zb} (H:HasP PG)
include H
theorem Yzg {p q:Zf} (hp:Wf p.value):Ze PG 160 [p.av,q.av] (.b (Tg p q)):=by
 obtain ⟨x,rfl,h⟩:=Yib H.f160 (a0:=p) (b1:=q) (K:=fun x=>x=Tg p q) (by
  unfold Zkm
  refine ⟨fun h1=>⟨fun h2=>⟨_,c78 H.toHas38 hp _,?_⟩,fun h2=>?_⟩,fun h1=>?_⟩
  ·unfold Tg;rw [kN h1,kN h2];rfl
  ·unfold Tg;rw [kM h2,Bool.and_false];rfl
  ·unfold Tg;rw [kM h1];rfl)
 exact h
theorem Xge {s:Zc} (hs:s.length<=1000000000):Ze PG 181 [.s s] (.tup [(Ul s).1.av,.b (Ul s).2]):=by
 obtain ⟨x,y,⟨rfl,rfl⟩,h⟩:=Ygr H.f181 (s0:=s) (K:=fun x y=>x=(Ul s).1/\y=(Ul s).2) (by
  unfold Zia Zj2
  have yes :∀{p:Zf},Uy s=some p->p=(Ul s).1/\true=(Ul s).2:=fun h=>by unfold Ul;rw [h];exact ⟨rfl,rfl⟩
  have no:Uy s=none->pz=(Ul s).1/\false=(Ul s).2:=fun h=>by unfold Ul;rw [h];exact ⟨rfl,rfl⟩
  refine ⟨fun h=>yes (by unfold Uy;rw [kD (show s=Fb from h)]),fun h0=>?_⟩
  have h0:s≠Fb:=h0
  unfold Zh4
  refine ⟨_,Zvr H.toHasO,fun P hP=>?_⟩
  have step :∀(i:Nat) (f:Zc),Zc5[i]?=some f->i<4->(0<i->f=s->(Zf.mk 4 (Za.mk 2 (i:Int) [] [] false) 0)=(Ul s).1/\true=(Ul s).2)->((0<i->f≠s)->P ((i+1:Nat):Int) pz)->P (i:Int) pz:=fun i f hf hi h1 h2=>by
   apply hP
   unfold Zba
   refine ⟨fun _=>⟨rfl,by omega,f,by rw [De];exact hf,fun h3=>?_,fun h3=>?_⟩,fun h=>absurd (show (i:Int)<4 by omega) h⟩
   ·unfold Oq
    rw [Ws (by omega) (by omega)]
    exact ⟨fun h4=>h1 (by omega) (zX h4),fun h4=>h2 fun _=>yQ h4⟩
   ·unfold Oq
    rw [Ws (by omega) (by omega)]
    exact ⟨fun h4=>(by cases h4),fun _=>h2 fun h=>by omega⟩
  refine step 0 [] rfl (by decide) (fun h=>absurd h (by decide)) fun _=>step 1 Ca rfl (by decide) (fun _ e=>yes (by unfold Uy;rw [kA h0,kD e.symm];rfl)) fun n1=>step 2 Tk rfl (by decide) (fun _ e=>yes (by unfold Uy;rw [kA h0,kA fun e'=>n1 (by decide) e'.symm,kD e.symm];rfl)) fun n2=>step 3 Pc rfl (by decide) (fun _ e=>yes (by unfold Uy;rw [kA h0,kA fun e'=>n1 (by decide) e'.symm,kA fun e'=>n2 (by decide) e'.symm,kD e.symm];rfl)) fun n3=>?_
  apply hP
  unfold Zba Zjo
  refine ⟨fun h=>absurd h (by decide),fun _=>⟨_,_,Pz H.toHas03 s Kr,fun h1=>?_,fun h1=>?_⟩⟩
  all_goals
   have e1:Uy s=if (Zn Kr s).2=false then none else
    if (Ji (Zn Kr s).1).2≠0 then none else
    let v:=(Ji (Zn Kr s).1).1
    if v.kind=2 then some ⟨1,v,0⟩ else if v.kind=1 then some ⟨2,v,0⟩ else if v.kind=3 then some ⟨3,v,0⟩ else none:=by
    conv=>lhs;unfold Uy
    rw [kA h0,kA fun e'=>n1 (by decide) e'.symm,kA fun e'=>n2 (by decide) e'.symm,kA fun e'=>n3 (by decide) e'.symm]
  ·exact no (by rw [e1,kD (by simpa using h1)])
  ·rw [kA (by simpa using h1)] at e1
   have hl:(Zn Kr s).1.length<=1000000000:=by unfold Zn;split<;>simp<;>omega
   refine ⟨_,_,c74 H.toHas38 hl,_,Zv6 H.toHasO,fun Q hQ=>?_⟩
   by_cases he:(Ji (Zn Kr s).1).2=0
   ·rw [kA (by rw [he];decide)] at e1
    obtain ⟨g1,_,_⟩:=Zsv he
    generalize (Ji (Zn Kr s).1).1=v at e1 g1 hQ ⊢
    have h7:=Re (Sj g1).1
    unfold Za.okh Qe at h7
    simp only at e1
    have st :∀(i:Nat) (c:UInt8),Ia[i]?=some c->i<5->((c.toNat:Int)=v.kind->(Zf.mk (i:Int) v 0)=(Ul s).1/\true=(Ul s).2)->(¬(c.toNat:Int)=v.kind->Q ((i+1:Nat):Int) pz v)->Q (i:Int) pz v:=fun i c hc hi h1 h2=>by
     apply hQ
     unfold Fc
     refine ⟨fun _=>⟨rfl,by omega,c,by rw [De];exact hc,fun h3=>?_,fun h3=>absurd he h3⟩,fun h=>absurd (show (i:Int)<5 by omega) h⟩
     unfold Ik
     rw [Ws (by omega) (by omega),Ah (by omega) (by omega)]
     exact ⟨fun h4=>h1 (zX h4),fun h4=>h2 (yQ h4)⟩
    refine st 0 0 rfl (by decide) (fun h=>absurd h (show ¬((0:Int)=v.kind) by omega)) fun _=>st 1 2 rfl (by decide) (fun h=>yes (by rw [e1,kD (show v.kind=2 from h.symm)];rfl)) fun n2=>st 2 1 rfl (by decide) (fun h=>yes (by rw [e1,kA fun h'=>n2 h'.symm,kD (show v.kind=1 from h.symm)];rfl)) fun n1=>st 3 3 rfl (by decide) (fun h=>yes (by rw [e1,kA fun h'=>n2 h'.symm,kA fun h'=>n1 h'.symm,kD (show v.kind=3 from h.symm)];rfl)) fun n3=>st 4 2 rfl (by decide) (fun h=>absurd h n2) fun _=>?_
    apply hQ
    unfold Fc Zgi
    exact ⟨fun h=>absurd h (by decide),fun _=>no (by rw [e1,kA fun h'=>n2 h'.symm,kA fun h'=>n1 h'.symm,kA fun h'=>n3 h'.symm])⟩
   ·rw [kD he] at e1
    have st :∀(i:Nat) (c:UInt8),Ia[i]?=some c->i<5->Q ((i+1:Nat):Int) pz (Ji (Zn Kr s).1).1->Q (i:Int) pz (Ji (Zn Kr s).1).1:=fun i c hc hi h2=>by
     apply hQ
     unfold Fc
     refine ⟨fun _=>⟨rfl,by omega,c,by rw [De];exact hc,fun h3=>absurd h3 he,fun h3=>?_⟩,fun h=>absurd (show (i:Int)<5 by omega) h⟩
     unfold Ik
     rw [Ws (by omega) (by omega)]
     exact ⟨fun h4=>(by cases h4),fun _=>h2⟩
    refine st 0 0 rfl (by decide) (st 1 2 rfl (by decide) (st 2 1 rfl (by decide) (st 3 3 rfl (by decide) (st 4 2 rfl (by decide) ?_))))
    apply hQ
    unfold Fc Zgi
    exact ⟨fun h=>absurd h (by decide),fun _=>no e1⟩)
 exact h
omit H in
theorem Xby {f:Int} (h:f=0\/f=2):Iq .u64 f 1=f+1/\Iq .u64 f 4=f+4/\Iq .u64 (f+1) 4=f+1+4/\IntKind.u64.wrap (f+1)=f+1/\IntKind.u64.wrap (f+4)=f+4/\IntKind.u64.wrap (f+1+4)=f+1+4:=by
 rcases h with rfl | rfl<;>decide
theorem Xar {s:Zc} (hs:s.length<=1000000000):Ze PG 156 [.s s] (.tup [(Qz s).1.av,.i .i64 (Qz s).2]):=by
 obtain ⟨x,y,⟨rfl,rfl⟩,h⟩:=Yjn H.f156 (s0:=s) (K:=fun x y=>x=(Qz s).1/\y=(Qz s).2) (by
  unfold Zgw
  refine ⟨fun h=>?_,fun h=>?_⟩
  ·unfold Qz;rw [kD (by omega)];exact ⟨rfl,rfl⟩
  have hl:¬2000<s.length:=by omega
  have l1:(Xr Ja s).1.length<=1000000000:=jA (Zre _ _) hs
  have l2:(Xr Ka (Xr Ja s).1).1.length<=1000000000:=jA (Zre _ _) l1
  have e:Qz s=(match Uy (Xr Ka (Xr Ja s).1).1 with
   | none=>(pz,12)
   | some p=>if Xx (Dx p (Xr Ka (Xr Ja s).1).2 (Xr Ja s).2)=true then (Dx p (Xr Ka (Xr Ja s).1).2 (Xr Ja s).2,0) else (pz,12)):=by
   conv=>lhs;unfold Qz
   rw [kA hl]
   rfl
  refine ⟨_,_,Zzp H.toHasO (p:=Ja) hs,_,_,Zzp H.toHasO (p:=Ka) l1,_,_,Xge H l2,?_⟩
  generalize Xr Ja s=a at e l1 l2 ⊢
  generalize Xr Ka a.1=r at e l2 ⊢
  cases hc:Uy r.1 with
  | none=>
   rw [hc] at e
   have e2:Ul r.1=(pz,false):=by unfold Ul;rw [hc]
   rw [e,e2]
   unfold Of Lx
   exact ⟨fun _=>⟨fun _=>⟨fun _=>⟨rfl,rfl⟩,fun h=>(by cases h)⟩,fun _=>⟨fun _=>⟨rfl,rfl⟩,fun h=>(by cases h)⟩⟩,fun _=>⟨fun _=>⟨fun _=>⟨rfl,rfl⟩,fun h=>(by cases h)⟩,fun _=>⟨fun _=>⟨rfl,rfl⟩,fun h=>(by cases h)⟩⟩⟩
  | some p=>
   rw [hc] at e
   have e2:Ul r.1=(p,true):=by unfold Ul;rw [hc]
   rw [e,e2]
   obtain ⟨w1,w2,w3,w4,_⟩:=Zw9 hc
   obtain ⟨o1,o2,o3,_⟩:=Xby w2
   have fin :∀q:Zf,q=Dx p r.2 a.2->Lx PG (fun x y=>x=(if Xx (Dx p r.2 a.2)=true then (Dx p r.2 a.2,(0:Int)) else (pz,12)).1/\y=(if Xx (Dx p r.2 a.2)=true then (Dx p r.2 a.2,(0:Int)) else (pz,12)).2) true pz q:=fun q hq=>by
    subst hq
    have hw:Mx (Dx p r.2 a.2):=⟨⟨w3,by simp only [Dx];omega⟩,w1,by simp only [Dx];constructor<;>(split<;>split<;>omega)⟩
    unfold Lx
    refine ⟨fun h=>(by cases h),fun _=>⟨_,Zls H.toHasO hw,fun h1=>?_,fun h1=>?_⟩⟩
    ·rw [kA fun h'=>h1 (Zfl.2 h')];exact ⟨rfl,rfl⟩
    ·rw [kD (Zfl.1 (kW.1 h1))];exact ⟨rfl,rfl⟩
   unfold Of
   simp only
   refine ⟨fun h1=>⟨fun h2=>fin _ ?_,fun h2=>fin _ ?_⟩,fun h1=>⟨fun h2=>fin _ ?_,fun h2=>fin _ ?_⟩⟩<;>unfold Dx<;>rw [h1,h2]
   ·rw [o1,o3];rfl
   ·rw [o1];simp
   ·rw [o2];simp
   ·simp)
 exact h
end
end Go.AM

namespace Go.AM
open Go
structure HasQ (PG:Zb):Prop extends HasP PG where
 f169:PG.fn 169=some Ydn
 f170:PG.fn 170=some Zdy
def Rr (l:List Zf):Int:=if 410<l.length then 4 else if l.all Xx=true then 0 else 8
def Ytv (l:List Zf):Bool:=(decide (20<l.length)&&decide (l.length<=410))||decide (420<l.length)||l.any (fun p=>Zkh p.value)
theorem Ycm {l:List Zf} (h:Rr l=0):l.length<=410/\∀p∈l,Xx p=true:=by
 unfold Rr at h
 split at h
 ·cases h
 ·split at h
  ·rename_i h1 h2;exact ⟨by omega,zB.1 h2⟩
  ·cases h
section
variable {PG:Zb} (H:HasQ PG)
include H
end
section
variable {PG:Zb} (H:HasQ PG)
include H
end
end Go.AM
