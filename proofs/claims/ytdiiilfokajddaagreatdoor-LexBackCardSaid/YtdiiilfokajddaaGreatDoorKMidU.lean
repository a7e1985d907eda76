/- The shallow reading of code: definitions. `den` reads code into combinators that work on values; what it leaves is what the kernel reckons. -/
import Derived.Test.YtdiiilfokajddaaGreatDoorKMidT
set_option linter.all false
set_option warn.classDefReducibility false
noncomputable section
section
namespace Go.Mid
section
def intE (v : V) : (IntKind → Int → VH) → VH :=
 V.rec (motive_1 := fun _ => (IntKind → Int → VH) → VH) (motive_2 := fun _ => Unit) (fun _ _ => none) (fun d n k => k d n) (fun _ _ => none) (fun _ _ _ => none) (fun _ => none) (fun _ _ _ _ _ _ => none) (fun _ => none) (fun _ _ => none) (fun _ => none)
  (fun _ _ _ _ _ _ => none) (fun _ => none) (fun _ _ _ _ => none) (fun _ => none) (fun _ _ _ => none) (fun _ _ _ => none) () (fun _ _ _ _ => ()) v
def ptrE (v : V) : (Nat → Nat → VH) → VH :=
 V.rec (motive_1 := fun _ => (Nat → Nat → VH) → VH) (motive_2 := fun _ => Unit) (fun _ _ => none) (fun _ _ _ => none) (fun _ _ => none) (fun b o k => k b o) (fun _ => none) (fun _ _ _ _ _ _ => none) (fun _ => none) (fun _ _ => none) (fun _ => none)
  (fun _ _ _ _ _ _ => none) (fun _ => none) (fun _ _ _ _ => none) (fun _ => none) (fun _ _ _ => none) (fun _ _ _ => none) () (fun _ _ _ _ => ()) v
def ifS (v : V) : VH → VH → VH :=
 V.rec (motive_1 := fun _ => VH → VH → VH) (motive_2 := fun _ => Unit) (fun b x y => Bool.rec (motive := fun _ => VH) y x b) (fun _ _ _ _ => none) (fun _ _ _ => none) (fun _ _ _ _ => none) (fun _ _ => none) (fun _ _ _ _ _ _ _ => none) (fun _ _ => none) (fun _ _ _ => none) (fun _ _ => none)
  (fun _ _ _ _ _ _ _ => none) (fun _ _ => none) (fun _ _ _ _ _ => none) (fun _ _ => none) (fun _ _ _ _ => none) (fun _ _ _ _ => none) () (fun _ _ _ _ => ()) v
def tl0 : Nat:=0
def tl1:=tl0
def tl2:=tl1
def tl3:=tl2
def tl4:=tl3
def tl5:=tl4
def tl6:=tl5
def tl7:=tl6
def tl8:=tl7
def tl9:=tl8
def tl10:=tl9
def tl11:=tl10
def tl12:=tl11
def tl13:=tl12
def tl14:=tl13
def tl15:=tl14
def tl16:=tl15
def tl17:=tl16
def tl18:=tl17
def tl19:=tl18
def tl20:=tl19
def tl21:=tl20
def tl22:=tl21
def tl23:=tl22
def tl24:=tl23
def tl25:=tl24
def tl26:=tl25
def tl27:=tl26
def tl28:=tl27
def tl29:=tl28
def tl30:=tl29
def tl31:=tl30
def tl32:=tl31
def tl33:=tl32
def tl34:=tl33
def tl35:=tl34
def tl36:=tl35
def tl37:=tl36
def tl38:=tl37
def tl39:=tl38
def tl40:=tl39
def tl41:=tl40
def tl42:=tl41
def tl43:=tl42
def tl44:=tl43
def tl45:=tl44
def tl46:=tl45
def tl47:=tl46
def tl48:=tl47
def tl49:=tl48
def tl50:=tl49
def tl51:=tl50
def tl52:=tl51
def tl53:=tl52
def tl54:=tl53
def tl55:=tl54
def tl56:=tl55
def tl57:=tl56
def tl58:=tl57
def tl59:=tl58
def tl60:=tl59
def tl61:=tl60
def tl62:=tl61
def tl63:=tl62
def tl64:=tl63
def tl65:=tl64
def tl66:=tl65
def tl67:=tl66
def tl68:=tl67
def tl69:=tl68
def tl70:=tl69
def tl71:=tl70
def tl72:=tl71
def tl73:=tl72
def tl74:=tl73
def tl75:=tl74
def tl76:=tl75
def tl77:=tl76
def tl78:=tl77
def tl79:=tl78
def tl80:=tl79
def tl81:=tl80
def tl82:=tl81
def tl83:=tl82
def tl84:=tl83
def tl85:=tl84
def tl86:=tl85
def tl87:=tl86
def tl88:=tl87
def tl89:=tl88
def tl90:=tl89
def tl91:=tl90
def tl92:=tl91
def tl93:=tl92
def tl94:=tl93
def tl95:=tl94
def tl96:=tl95
def tl97:=tl96
def tl98:=tl97
def tl99:=tl98
def tl100:=tl99
def tl101:=tl100
def tl102:=tl101
def tl103:=tl102
def tl104:=tl103
def tl105:=tl104
def tl106:=tl105
def tl107:=tl106
def tl108:=tl107
def tl109:=tl108
def tl110:=tl109
def tl111:=tl110
def tl112:=tl111
def tl113:=tl112
def tl114:=tl113
def tl115:=tl114
def tl116:=tl115
def tl117:=tl116
def tl118:=tl117
def tl119:=tl118
def tl120:=tl119
def tl121:=tl120
def tl122:=tl121
def tl123:=tl122
def tl124:=tl123
def tl125:=tl124
def tl126:=tl125
def tl127:=tl126
def tl128:=tl127
def tl129:=tl128
def tl130:=tl129
def tl131:=tl130
def tl132:=tl131
def tl133:=tl132
def tl134:=tl133
def tl135:=tl134
def tl136:=tl135
def tl137:=tl136
def tl138:=tl137
def tl139:=tl138
def tl140:=tl139
def tl141:=tl140
def tl142:=tl141
def tl143:=tl142
def tl144:=tl143
def tl145:=tl144
def tl146:=tl145
def tl147:=tl146
def tl148:=tl147
def tl149:=tl148
def tl150:=tl149
def tl151:=tl150
def tl152:=tl151
def tl153:=tl152
def tl154:=tl153
def tl155:=tl154
def tl156:=tl155
def tl157:=tl156
def tl158:=tl157
def tl159:=tl158
def tl160:=tl159
def tl161:=tl160
def tl162:=tl161
def tl163:=tl162
def tl164:=tl163
def tl165:=tl164
def tl166:=tl165
def tl167:=tl166
def tl168:=tl167
def tl169:=tl168
def tl170:=tl169
def tl171:=tl170
def tl172:=tl171
def tl173:=tl172
def tl174:=tl173
def tl175:=tl174
def tl176:=tl175
def tl177:=tl176
def tl178:=tl177
def tl179:=tl178
def tl180:=tl179
def tl181:=tl180
def tl182:=tl181
def tl183:=tl182
def tl184:=tl183
def tl185:=tl184
def tl186:=tl185
def tl187:=tl186
def tl188:=tl187
def tl189:=tl188
def tl190:=tl189
def tl191:=tl190
def tl192:=tl191
def tl193:=tl192
def tl194:=tl193
def tl195:=tl194
def tl196:=tl195
def tl197:=tl196
def tl198:=tl197
def tl199:=tl198
def tl200:=tl199
def tl201:=tl200
def tl202:=tl201
def tl203:=tl202
def tl204:=tl203
def tl205:=tl204
def tl206:=tl205
def tl207:=tl206
def tl208:=tl207
def tl209:=tl208
def tl210:=tl209
def tl211:=tl210
def tl212:=tl211
def tl213:=tl212
def tl214:=tl213
def tl215:=tl214
def tl216:=tl215
def tl217:=tl216
def tl218:=tl217
def tl219:=tl218
def tl220:=tl219
def tl221:=tl220
def tl222:=tl221
def tl223:=tl222
def tl224:=tl223
def tl225:=tl224
def tl226:=tl225
def tl227:=tl226
def tl228:=tl227
def tl229:=tl228
def tl230:=tl229
def tl231:=tl230
def tl232:=tl231
def tl233:=tl232
def tl234:=tl233
def tl235:=tl234
def tl236:=tl235
def tl237:=tl236
def tl238:=tl237
def tl239:=tl238
def tl240:=tl239
def tl241:=tl240
def tl242:=tl241
def tl243:=tl242
def tl244:=tl243
def tl245:=tl244
def tl246:=tl245
def tl247:=tl246
def tl248:=tl247
def tl249:=tl248
def tl250:=tl249
def tl251:=tl250
def tl252:=tl251
def tl253:=tl252
def tl254:=tl253
def tl255:=tl254
def tl256:=tl255
def tl257:=tl256
def tl258:=tl257
def tl259:=tl258
def tl260:=tl259
def tl261:=tl260
def tl262:=tl261
def tl263:=tl262
def tl264:=tl263
def tl265:=tl264
def tl266:=tl265
def tl267:=tl266
def tl268:=tl267
def tl269:=tl268
def tl270:=tl269
def tl271:=tl270
def tl272:=tl271
def tl273:=tl272
def tl274:=tl273
def tl275:=tl274
def tl276:=tl275
def tl277:=tl276
def tl278:=tl277
def tl279:=tl278
def tl280:=tl279
def tl281:=tl280
def tl282:=tl281
def tl283:=tl282
def tl284:=tl283
def tl285:=tl284
def tl286:=tl285
def tl287:=tl286
def tl288:=tl287
def tl289:=tl288
def tl290:=tl289
def tl291:=tl290
def tl292:=tl291
def tl293:=tl292
def tl294:=tl293
def tl295:=tl294
def tl296:=tl295
def tl297:=tl296
def tl298:=tl297
def tl299:=tl298
def tl300:=tl299
def tl301:=tl300
def tl302:=tl301
def tl303:=tl302
def tl304:=tl303
def tl305:=tl304
def tl306:=tl305
def tl307:=tl306
def tl308:=tl307
def tl309:=tl308
def tl310:=tl309
def tl311:=tl310
def tl312:=tl311
def tl313:=tl312
def tl314:=tl313
def tl315:=tl314
def tl316:=tl315
def tl317:=tl316
def tl318:=tl317
def tl319:=tl318
def tl320:=tl319
def tl321:=tl320
def tl322:=tl321
def tl323:=tl322
def tl324:=tl323
def tl325:=tl324
def tl326:=tl325
def tl327:=tl326
def tl328:=tl327
def tl329:=tl328
def tl330:=tl329
def tl331:=tl330
def tl332:=tl331
def tl333:=tl332
def tl334:=tl333
def tl335:=tl334
def tl336:=tl335
def tl337:=tl336
def tl338:=tl337
def tl339:=tl338
def tl340:=tl339
def tl341:=tl340
def tl342:=tl341
def tl343:=tl342
def tl344:=tl343
def tl345:=tl344
def tl346:=tl345
def tl347:=tl346
def tl348:=tl347
def tl349:=tl348
def tl350:=tl349
def tl351:=tl350
def tl352:=tl351
def tl353:=tl352
def tl354:=tl353
def tl355:=tl354
def tl356:=tl355
def tl357:=tl356
def tl358:=tl357
def tl359:=tl358
def tl360:=tl359
def tl361:=tl360
def tl362:=tl361
def tl363:=tl362
def tl364:=tl363
def tl365:=tl364
def tl366:=tl365
def tl367:=tl366
def tl368:=tl367
def tl369:=tl368
def tl370:=tl369
def tl371:=tl370
def tl372:=tl371
def tl373:=tl372
def tl374:=tl373
def tl375:=tl374
def tl376:=tl375
def tl377:=tl376
def tl378:=tl377
def tl379:=tl378
def tl380:=tl379
def tl381:=tl380
def tl382:=tl381
def tl383:=tl382
def tl384:=tl383
def tl385:=tl384
def tl386:=tl385
def tl387:=tl386
def tl388:=tl387
def tl389:=tl388
def tl390:=tl389
def tl391:=tl390
def tl392:=tl391
def tl393:=tl392
def tl394:=tl393
def tl395:=tl394
def tl396:=tl395
def tl397:=tl396
def tl398:=tl397
def tl399:=tl398
def tlTop : Nat:=tl399
def bindS (x : VH) : (V → Hp → VH) → VH:=Option.rec (motive:=fun _ => (V → Hp → VH) → VH) (fun _ => none) (fun p k => Prod.rec (motive:=fun _ => VH) k p) x
def optS (x : Option V) : (V → VH) → VH:=Option.rec (motive:=fun _ => (V → VH) → VH) (fun _ => none) (fun v k => k v) x
def cD {α : Type} (c : Bool) (x y : α) : α:=(fun _ : Nat => Bool.rec (motive:=fun _ => α) y x c) tlTop
theorem cD_eq {α : Type} (c : Bool) (x y : α) : cD c x y = cond c x y:=by cases c <;> rfl
def optD (x : Option V) (k : V → VH) : VH:=(fun _ : Nat => Option.rec (motive:=fun _ => (V → VH) → VH) (fun _ => none) (fun v k => k v) x k) tlTop
def guardS (v : V) : Bool → VH → Hp → (V → Hp → VH) → VH :=
 V.rec (motive_1:=fun _ => Bool → VH → Hp → (V → Hp → VH) → VH) (motive_2:=fun _ => Unit) (fun b w x h k => Bool.rec (motive:=fun _ => VH) (k undefV h) (bindS x k) (Bool.rec (motive:=fun _ => Bool) (Bool.not b) b w)) (fun _ _ _ _ _ _ => none) (fun _ _ _ _ _ => none) (fun _ _ _ _ _ _ => none) (fun _ _ _ _ => none) (fun _ _ _ _ _ _ _ _ _ => none) (fun _ _ _ _ => none) (fun _ _ _ _ _ => none) (fun _ _ _ _ => none) (fun _ _ _ _ _ _ _ _ _ => none) (fun _ _ _ _ => none) (fun _ _ _ _ _ _ _ => none) (fun _ _ _ _ => none) (fun _ _ _ _ _ _ => none) (fun vs _ _ _ h k => List.rec (motive:=fun _ => VH) (k undefV h) (fun _ _ _ => none) vs) () (fun _ _ _ _ => ()) v
def guardB (v : V) : Bool → VH → VH → VH :=
 V.rec (motive_1:=fun _ => Bool → VH → VH → VH) (motive_2:=fun _ => Unit) (fun b w x y => Bool.rec (motive:=fun _ => VH) y x (Bool.rec (motive:=fun _ => Bool) (Bool.not b) b w)) (fun _ _ _ _ _ => none) (fun _ _ _ _ => none) (fun _ _ _ _ _ => none) (fun _ _ _ => none) (fun _ _ _ _ _ _ _ _ => none) (fun _ _ _ => none) (fun _ _ _ _ => none) (fun _ _ _ => none) (fun _ _ _ _ _ _ _ _ => none) (fun _ _ _ => none) (fun _ _ _ _ _ _ => none) (fun _ _ _ => none) (fun _ _ _ _ _ => none) (fun vs _ _ _ y => List.rec (motive:=fun _ => VH) y (fun _ _ _ => none) vs) () (fun _ _ _ _ => ()) v
def dynE (cal : Nat → List V → Hp → VH) (v : V) (as : List V) (h : Hp) : VH :=
 match v with
 | .func g first cap => cal (2 * g) (first ++ as ++ cap) h
 | _ => none
def nth (i : Nat) : List V → Option V:=Nat.rec (motive:=fun _ => List V → Option V) (fun l => List.rec (motive:=fun _ => Option V) none (fun a _ _ => some a) l) (fun _ ih l => List.rec (motive:=fun _ => Option V) none (fun _ m _ => ih m) l) i
theorem nth_eq : ∀ (i : Nat) (l : List V), nth i l = getN l i
 | 0, [] => rfl
 | 0, _ :: _ => rfl
 | _ + 1, [] => rfl
 | i + 1, _ :: l => nth_eq i l
def extS (i : Nat) (v : V) : (V → VH) → VH :=
 V.rec (motive_1:=fun _ => (V → VH) → VH) (motive_2:=fun _ => Unit) (fun _ _ => none) (fun _ _ _ => none) (fun _ _ => none) (fun _ _ _ => none) (fun _ => none) (fun _ _ _ _ _ _ => none) (fun _ => none) (fun _ _ => none) (fun _ => none) (fun _ _ _ _ _ _ => none) (fun _ => none) (fun _ _ _ _ => none) (fun _ => none) (fun _ _ _ => none) (fun vs _ k => optS (nth i vs) k) () (fun _ _ _ _ => ()) v
def strE (v : V) : (Bs → VH) → VH:=V.rec (motive_1:=fun _ => (Bs → VH) → VH) (motive_2:=fun _ => Unit) (fun _ _ => none) (fun _ _ _ => none) (fun s k => k s) (fun _ _ _ => none) (fun _ => none) (fun _ _ _ _ _ _ => none) (fun _ => none) (fun _ _ => none) (fun _ => none) (fun _ _ _ _ _ _ => none) (fun _ => none) (fun _ _ _ _ => none) (fun _ => none) (fun _ _ _ => none) (fun _ _ _ => none) () (fun _ _ _ _ => ()) v
def boolE (v : V) : (Bool → VH) → VH:=V.rec (motive_1:=fun _ => (Bool → VH) → VH) (motive_2:=fun _ => Unit) (fun b k => k b) (fun _ _ _ => none) (fun _ _ => none) (fun _ _ _ => none) (fun _ => none) (fun _ _ _ _ _ _ => none) (fun _ => none) (fun _ _ => none) (fun _ => none) (fun _ _ _ _ _ _ => none) (fun _ => none) (fun _ _ _ _ => none) (fun _ => none) (fun _ _ _ => none) (fun _ _ _ => none) () (fun _ _ _ _ => ()) v
def aggE (v : V) : (List V → VH) → VH:=V.rec (motive_1:=fun _ => (List V → VH) → VH) (motive_2:=fun _ => Unit) (fun _ _ => none) (fun _ _ _ => none) (fun _ _ => none) (fun _ _ _ => none) (fun _ => none) (fun _ _ _ _ _ _ => none) (fun _ => none) (fun _ _ => none) (fun _ => none) (fun _ _ _ _ _ _ => none) (fun _ => none) (fun _ _ _ _ => none) (fun _ => none) (fun cs _ k => k cs) (fun _ _ _ => none) () (fun _ _ _ _ => ()) v
def slE (v : V) : (Nat → Nat → Nat → VH) → VH:=V.rec (motive_1:=fun _ => (Nat → Nat → Nat → VH) → VH) (motive_2:=fun _ => Unit) (fun _ _ => none) (fun _ _ _ => none) (fun _ _ => none) (fun _ _ _ => none) (fun _ => none) (fun b o n _ _ k => k b o n) (fun _ => none) (fun _ _ => none) (fun _ => none) (fun _ _ _ _ _ _ => none) (fun _ => none) (fun _ _ _ _ => none) (fun _ => none) (fun _ _ _ => none) (fun _ _ _ => none) () (fun _ _ _ _ => ()) v
def lenE (v : V) : (Nat → VH) → VH:=V.rec (motive_1:=fun _ => (Nat → VH) → VH) (motive_2:=fun _ => Unit) (fun _ _ => none) (fun _ _ _ => none) (fun _ _ => none) (fun _ _ _ => none) (fun _ => none) (fun _ _ n _ _ k => k n) (fun k => k 0) (fun _ _ => none) (fun _ => none) (fun _ _ _ _ _ _ => none) (fun _ => none) (fun _ _ _ _ => none) (fun _ => none) (fun _ _ _ => none) (fun _ _ _ => none) () (fun _ _ _ _ => ()) v
def soundE (v : V) : (V → VH) → VH:=V.rec (motive_1:=fun _ => (V → VH) → VH) (motive_2:=fun _ => Unit) (fun _ _ => none) (fun _ _ _ => none) (fun _ _ => none) (fun b o k => k (.ptr b o)) (fun _ => none) (fun _ _ _ _ _ _ => none) (fun _ => none) (fun _ _ => none) (fun _ => none) (fun f a c _ _ k => k (.func f a c)) (fun _ => none) (fun t v _ k => k (.iface t v)) (fun _ => none) (fun _ _ _ => none) (fun _ _ _ => none) () (fun _ _ _ _ => ()) v
def natE (v : V) (k : Nat → VH) : VH:=intE v fun _ n => Int.rec (motive:=fun _ => VH) (fun m => k m) (fun _ => none) n
def lstE (x : Option (List V)) (k : List V → VH) : VH:=Option.rec (motive:=fun _ => (List V → VH) → VH) (fun _ => none) (fun l k => k l) x k
def natO (x : Option Nat) (k : Nat → VH) : VH:=Option.rec (motive:=fun _ => (Nat → VH) → VH) (fun _ => none) (fun n k => k n) x k
def trO (x : Option (Tr V)) (k : Tr V → VH) : VH:=Option.rec (motive:=fun _ => (Tr V → VH) → VH) (fun _ => none) (fun n k => k n) x k
def whenE (b : Bool) (x : VH) : VH:=Bool.rec (motive:=fun _ => VH) none x b
def cellE (o : Option Ob) : (Tr V → Nat → Bool → TypeId → VH) → VH :=
 Option.rec (motive:=fun _ => (Tr V → Nat → Bool → TypeId → VH) → VH) (fun _ => none) (fun ob => Ob.rec (motive:=fun _ => (Tr V → Nat → Bool → TypeId → VH) → VH) (fun t n g e k => k t n g e) (fun _ _ _ => none) (fun _ _ => none) (fun _ => none) ob) o
def load1 (a : V) (h : Hp) (k : V → VH) : VH:=ptrE a fun b o => trO (cellsT (h.t.get b)) fun c => optS (c.get o) k
def store1 (a x : V) (h : Hp) (k : Hp → VH) : VH :=
 ptrE a fun b o => cellE (h.t.get b) fun c n g e => Bool.rec (motive:=fun _ => VH) none (k (h.put b (.cells (c.set o x) n g e))) (Nat.ble (Nat.succ o) n)
def addrS (off : Nat) (a : V) (k : V → VH) : VH:=ptrE a fun b o => k (.ptr b (Nat.add o off))
def idxS (s : Nat) (x i : V) (k : V → VH) : VH:=slE x fun b o len => natE i fun n => whenE (Nat.blt n len) (k (.ptr b (Nat.add o (Nat.mul n s))))
def idxP (s len : Nat) (x i : V) (k : V → VH) : VH:=ptrE x fun b o => natE i fun n => whenE (Nat.blt n len) (k (.ptr b (Nat.add o (Nat.mul n s))))
def idxStr (x i : V) (k : V → VH) : VH:=strE x fun l => natE i fun n => natO (l.get n) fun b => k (.int .u8 (.ofNat b))
def idxA1 (s len : Nat) (x i : V) (k : V → VH) : VH:=aggE x fun cs => natE i fun n => whenE (Nat.blt n len) (optS (nth (Nat.mul n s) cs) k)
def idxAN (s len : Nat) (x i : V) (k : V → VH) : VH:=aggE x fun cs => natE i fun n => whenE (Nat.blt n len) (k (.agg ((cs.drop (Nat.mul n s)).take s)))
def fld1 (off : Nat) (x : V) (k : V → VH) : VH:=aggE x fun cs => optS (nth off cs) k
def fldN (off s : Nat) (x : V) (k : V → VH) : VH:=aggE x fun cs => k (.agg ((cs.drop off).take s))
def loadN (s : Nat) (a : V) (h : Hp) (k : V → VH) : VH:=ptrE a fun b o => trO (cellsT (h.t.get b)) fun c => lstE (c.getL o s) fun l => k (.agg l)
def storeN (s : Nat) (a x : V) (h : Hp) (k : Hp → VH) : VH :=
 ptrE a fun b o => cellE (h.t.get b) fun c n g e => whenE (Nat.beq (vcells x).length s && Nat.ble (o + s) n && allOne (vcells x)) (k (h.put b (.cells (c.setL o (vcells x)) n g e)))
def lenStr (x : V) (k : V → VH) : VH:=strE x fun l => k (.int .i64 (.ofNat l.n))
def lenSl (x : V) (k : V → VH) : VH:=lenE x fun n => k (.int .i64 (.ofNat n))
def lenMp (x : V) (h : Hp) (k : V → VH) : VH:=natO (lenV h (.map 0 0) x) fun n => k (.int .i64 (.ofNat n))
def boundP (d : Nat) : Option V → Option Nat
 | none => some d
 | some v => natA (some v)
def slStrK (lo hi : Option V) (x : V) (k : V → VH) : VH :=
 strE x fun l => natO (boundP 0 lo) fun a => natO (boundP l.n hi) fun b => whenE (Nat.ble a b && Nat.ble b l.n) (k (.str (l.cut a b)))
def slSlK (elem s : Nat) (lo hi : Option V) (h : Hp) (x : V) : VH :=
 match x with
 | .slice b off len cap g => natO (boundP 0 lo) fun l => natO (boundP len hi) fun r => slS h elem s b off cap g l r
 | .nilSlice => natO (boundP 0 lo) fun l => natO (boundP 0 hi) fun r => whenE (Nat.beq l 0 && Nat.beq r 0) (some (.nilSlice, h))
 | _ => none
def newS (e : Nat) (cs : List V) (h : Hp) (k : V → Hp → VH) : VH:=k (.ptr h.n 0) (h.newRow e cs false)
def strS (op : BinOp) (a b : V) (k : V → VH) : VH:=strE a fun x => strE b fun y => optS (strOp op x y) k
def eqS (d : TypeDesc) (op : BinOp) (a b : V) (k : V → VH) : VH:=optS (eqOp op (eqD d a b)) k
def shS (op : BinOp) (a b : V) (k : V → VH) : VH:=intE a fun d m => intE b fun _ n => optS (shOp op d m n) k
def notS (a : V) (k : V → VH) : VH:=boolE a fun b => k (.bool (!b))
def negS (a : V) (k : V → VH) : VH:=intE a fun d n => k (.int d (fwrap d (0 - n)))
def convI (d : IntKind) (a : V) (k : V → VH) : VH:=intE a fun _ n => k (.int d (fwrap d n))
def convS (a : V) (k : V → VH) : VH:=strE a fun l => k (.str l)
def nilS (a : V) (k : V → VH) : VH:=soundE a k
def natOf (v : V) (k : Nat → VH) : VH:=natO (natV (some v)) k
def mkS (e bytes size : Nat) (z l c : V) (h : Hp) : VH:=natOf l fun l => natOf c fun c => mkSl h e bytes size z l c
def lookS (d : TypeDesc) (z : Option V) (ok : Bool) (x key : V) (h : Hp) : VH :=
 whenE (keyOk (some d) key) (match mapOf h (some x) with
  | some es => lookZ h z ok (mapGet key es)
  | none => none)
def updS (d : TypeDesc) (m key x : V) (h : Hp) : VH :=
 match m with
 | .map b => whenE (keyOk (some d) key) (mapPut h b key x)
 | _ => none
def appS (elem bytes size : Nat) (s x : V) (h : Hp) : VH:=appGo h elem bytes size s (newCells h size x)
def storeC (a x : V) (h : Hp) (k : Hp → VH) : VH:=bif oneCell x then store1 a x h k else none
def storeB (ob : Option Ob) (k : Ob → VH) : VH :=
 match ob with
 | some ob => k ob
 | none => none
def wroteS (low : Nat) (h : Hp) (k : Hp → VH) : VH:=k ⟨h.t, h.n, Nat.min low h.low⟩
def madeS (n low : Nat) (h : Hp) (k : Hp → VH) : VH:=bif Nat.ble n h.low then k ⟨h.t, h.n, low⟩ else none
inductive Fk where
 | seq (b : Code) (q : Nat)
 | blk (id : Nat)
 | loop (c : Code) (q : Nat)
def childL (q : Nat) (κ : List Fk) : Code → Option (Code × List Fk)
 | .seq a b => some (a, .seq b (2 * q + 1) :: κ)
 | .cond _ a _ => some (a, κ)
 | .block id c => some (c, .blk id :: κ)
 | .loop c => some (c, .loop c q :: κ)
 | .scope c => some (c, κ)
 | _ => none
def childR (κ : List Fk) : Code → Option (Code × List Fk)
 | .seq _ b => some (b, κ)
 | .cond _ _ b => some (b, κ)
 | _ => none
def childOf (q : Nat) (odd : Bool) : Option (Code × List Fk) → Option (Code × List Fk)
 | some (c, κ) => bif odd then childR κ c else childL q κ c
 | none => none
def atN (body : Code) : Nat → Nat → Option (Code × List Fk)
 | 0, _ => none
 | n + 1, q => bif Nat.beq q 1 then some (body, []) else childOf (q / 2) (Nat.beq (q % 2) 1) (atN body n (q / 2))
def setAll : List Tmp → List V → Tr V → Tr V
 | i :: l, v :: vs, t => (setAll l vs t).set i v
 | _, _, t => t
def getAll (t : Tr V) : List Tmp → Option (List V)
 | [] => some []
 | i :: l => match t.get i with
  | none => none
  | some v => match getAll t l with
   | none => none
   | some vs => some (v :: vs)
abbrev Cuts:=List (Nat × Nat × List Tmp)
def cutAt (q : Nat) : Cuts → Option (Nat × List Tmp)
 | [] => none
 | (p, l, live) :: cs => bif Nat.beq p q then some (l, live) else cutAt q cs
section
variable (P : Program) [Orc] (g : Nat → List V → Hp → VH)
def jumpTo (t : Tr V) (h : Hp) : Option (Nat × List Tmp) → VH
 | some (l, live) => (match getAll t live with
  | some vs => g (2 * l + 1) vs h
  | none => none)
 | none => none
def opt2 (x y : Option V) (k : V → V → VH) : VH:=optD x fun a => optD y fun b => k a b
def intS (op : BinOp) (a b : V) (k : V → VH) : VH:=intE a fun d m => intE b fun d' n => whenE (kEq d d') (optS (intOp op d m n) k)
def binD (d : Option TypeDesc) (op : BinOp) (a b : V) (k : V → VH) : VH :=
 match d with
 | some (.int _) => cD (shiftB op) (shS op a b k) (intS op a b k)
 | some .string => strS op a b k
 | some d => eqS d op a b k
 | none => none
def lenD (d : Option TypeDesc) (as : List V) (h : Hp) (k : V → Hp → VH) (bk : VH) : VH :=
 match d with
 | some .string => (match as with
  | x :: _ => lenStr x fun v => k v h
  | [] => none)
 | some (.slice _) => (match as with
  | x :: _ => lenSl x fun v => k v h
  | [] => none)
 | some (.map _ _) => (match as with
  | x :: _ => lenMp x h fun v => k v h
  | [] => none)
 | _ => bk
def appZ (size : Nat) (z : Option V) (x bk : VH) : VH :=
 match z with
 | some z => cD (Nat.beq (vcells z).length size) x bk
 | none => none
def appD2 (elem : TypeId) (as : List V) (h : Hp) (k : V → Hp → VH) (bk : VH) : VH :=
 match as with
 | [s, x] => (match P.info? elem with
  | some info => appZ info.size (zero P elem) (bindS (appS elem info.bytes info.size s x h) k) bk
  | none => none)
 | _ => none
def appT (d : Option TypeDesc) (x : VH) : VH :=
 match d with
 | some (.slice _) => x
 | some .string => x
 | _ => none
def appD (d d2 : Option TypeDesc) (as : List V) (h : Hp) (k : V → Hp → VH) (bk : VH) : VH :=
 match d with
 | some (.slice elem) => appT d2 (appD2 P elem as h k bk)
 | _ => none
def exBuiltinP (h : Hp) (b : Builtin) (as : List V) (tys : List TypeId) : VH :=
 match b with
 | .len => exLen P h (some as) tys
 | .append => exAppend P h (some as) tys
 | _ => none
def builtinD (h : Hp) (b : Builtin) (as : List V) (tys : List TypeId) (k : V → Hp → VH) : VH :=
 match b with
 | .len => (match tys with
  | ty :: _ => lenD (P.underlying ty) as h k (bindS (exLen P h (some as) tys) k)
  | [] => none)
 | .append => (match tys with
  | ty :: ty2 :: _ => appD P (P.underlying ty) (P.underlying ty2) as h k (bindS (exAppend P h (some as) tys) k)
  | _ => none)
 | _ => none
def callD (t : Tr V) (h : Hp) (c : Call) (k : V → Hp → VH) : VH :=
 match c.callee with
 | .value f => optD (evalO t f) fun v => (match evalL t c.args.toList with
  | some as => bindS (dynE g v as h) k
  | none => none)
 | .builtin b => (match evalL t c.args.toList with
  | some as => builtinD P h b as c.argTypes.toList k
  | none => none)
 | _ => none
def buildD (d : Option TypeDesc) (h : Hp) (z : Option V) (ps : List (Nat × V)) (k : V → Hp → VH) : VH :=
 match z with
 | none => none
 | some z => (match d with
  | some (.struct fields) => (match placesL P fields.toList with
   | some pl => bindS (bldStruct h ps z (some pl)) k
   | none => none)
  | some (.array _ elem) => (match sz P elem with
   | some s => bindS (bldArr h ps z s) k
   | none => none)
  | _ => none)
def buildSliceD (d : Option TypeDesc) (h : Hp) (len : Nat) (ps : List (Nat × V)) (k : V → Hp → VH) : VH :=
 match d with
 | some (.slice elem) => (match sz P elem with
  | none => none
  | some s => match zero P elem with
   | none => none
   | some z => bindS (bldSl h ps elem len s z) k)
 | _ => none
def pickV (c a b : V) : Option V :=
 match c with
 | .bool true => some a
 | .bool false => some b
 | _ => none
def evalM (t : Tr V) : Option Operand → Option (Option V)
 | none => some none
 | some y => match evalO t y with
  | some v => some (some v)
  | none => none
def sliceD (d : Option TypeDesc) (h : Hp) (x : V) (lo hi : Option V) (k : V → Hp → VH) : VH :=
 match d with
 | some .string => slStrK lo hi x fun v => k v h
 | some (.slice elem) => (match sz P elem with
  | some s => bindS (slSlK elem s lo hi h x) k
  | none => none)
 | _ => none
def loadD (ty : TypeId) (a : V) (h : Hp) (k : V → Hp → VH) : VH :=
 match aggT P ty with
 | some false => load1 a h fun v => k v h
 | some true => (match sz P ty with
  | some s => loadN s a h fun v => k v h
  | none => none)
 | none => none
def denRes (h : Hp) (t : Tr V) : List ResultVar → (List V → VH) → VH
 | [], k => k []
 | .tmp i :: rs, k => optD (t.get i) fun v => denRes h t rs fun vs => k (v :: vs)
 | .cell a ty :: rs, k => optD (t.get a) fun p => loadD P ty p h fun v _ => denRes h t rs fun vs => k (v :: vs)
def retS (rs : List ResultVar) (t : Tr V) (h : Hp) : VH:=denRes P h t rs fun vs => some (one vs, h)
def storeD (ty : TypeId) (a x : V) (h : Hp) (k : V → Hp → VH) : VH :=
 match aggT P ty with
 | some false => (match sz P ty with
  | some 1 => storeC a x h fun h' => k unitV h'
  | _ => bindS (exStore P h ty (some a) (some x)) k)
 | some true => (match sz P ty with
  | some s => storeN s a x h fun h' => k unitV h'
  | none => none)
 | none => none
def fieldAddrD (d : Option TypeDesc) (f : Nat) (a : V) (k : V → VH) : VH :=
 match d with
 | some (.struct fields) => (match fields[f]? with
  | some fl => (match sz P fl.type with
   | some s => cD (Nat.beq s 0) none (addrS fl.offset a k)
   | none => none)
  | none => none)
 | _ => none
def fieldD (d : Option TypeDesc) (f : Nat) (x : V) (k : V → VH) : VH :=
 match d with
 | some (.struct fields) => (match fields[f]? with
  | some fl => (match aggT P fl.type with
   | some true => (match sz P fl.type with
    | some s => fldN fl.offset s x k
    | none => none)
   | some false => fld1 fl.offset x k
   | none => none)
  | none => none)
 | _ => none
def indexAddrD (d : Option TypeDesc) (x i : V) (k : V → VH) : VH :=
 match d with
 | some (.slice elem) => (match sz P elem with
  | some s => idxS s x i k
  | none => none)
 | some (.array len elem) => (match sz P elem with
  | some s => idxP s len x i k
  | none => none)
 | _ => none
def indexD (d : Option TypeDesc) (x i : V) (k : V → VH) : VH :=
 match d with
 | some .string => idxStr x i k
 | some (.array len elem) => (match sz P elem with
  | some s => (match aggT P elem with
   | some true => idxAN s len x i k
   | some false => idxA1 s len x i k
   | none => none)
  | none => none)
 | _ => none
def convD (ds dd : Option TypeDesc) (x : V) (k : V → VH) : VH :=
 match ds with
 | some (.int _) => (match dd with
  | some (.int d) => convI d x k
  | _ => none)
 | some .string => (match dd with
  | some .string => convS x k
  | _ => none)
 | _ => none
def ifaceD (d : Option TypeDesc) (x : VH) : VH :=
 match d with
 | some (.interface _) => none
 | some _ => x
 | none => none
def unD (op : UnOp) (x : V) (k : V → VH) : VH :=
 match op with
 | .not => notS x k
 | .neg => negS x k
 | _ => none
def makeD (d : Option TypeDesc) (l c : V) (h : Hp) (k : V → Hp → VH) : VH :=
 match d with
 | some (.slice elem) => (match P.info? elem with
  | some info => (match zero P elem with
   | some z => bindS (mkS elem info.bytes info.size z l c h) k
   | none => none)
  | none => none)
 | _ => none
def lookD (d : Option TypeDesc) (ok : Bool) (x key : V) (h : Hp) (k : V → Hp → VH) : VH :=
 match d with
 | some (.map kt elem) => (match P.underlying kt with
  | some d => bindS (lookS d (zero P elem) ok x key h) k
  | none => none)
 | _ => none
def updD (d : Option TypeDesc) (m key x : V) (h : Hp) (k : V → Hp → VH) : VH :=
 match d with
 | some (.map kt _) => (match P.underlying kt with
  | some d => bindS (updS d m key x h) k
  | none => none)
 | _ => none
def allocD (e : TypeId) (z : Option V) (h : Hp) (k : V → Hp → VH) : VH :=
 match z with
 | some z => newS e (vcells z) h k
 | none => none
def denOpC (o : Oper) (t : Tr V) (h : Hp) (k : V → Hp → VH) : VH :=
 match o.op with
 | .move x => optD (evalO t x) fun v => k v h
 | .assign x => optD (evalO t x) fun v => k v h
 | .binOp op ty x y _ => opt2 (evalO t x) (evalO t y) fun a b => binD (P.underlying ty) op a b fun v => k v h
 | .load ty a => optD (evalO t a) fun a => loadD P ty a h k
 | .store ty a x => opt2 (evalO t a) (evalO t x) fun a x => storeD P ty a x h k
 | .extract x i => optD (evalO t x) fun v => extS i v fun v => k v h
 | .call c => callD P g t h c k
 | .build ty parts => (match evalP t parts.toList with
  | some ps => buildD P (P.underlying ty) h (zero P ty) ps k
  | none => none)
 | .buildSlice ty len parts => (match evalP t parts.toList with
  | some ps => buildSliceD P (P.underlying ty) h len ps k
  | none => none)
 | .pick c a b => optD (evalO t c) fun c => opt2 (evalO t a) (evalO t b) fun a b => optS (pickV c a b) fun v => k v h
 | .makeFunc (.func f) first cap => (match evalL t first.toList with
  | some as => (match evalL t cap.toList with
   | some cs => k (.func f as cs) h
   | none => none)
  | none => none)
 | .slice ty x lo hi none => optD (evalO t x) fun x => (match evalM t lo with
  | some lo => (match evalM t hi with
   | some hi => sliceD P (P.underlying ty) h x lo hi k
   | none => none)
  | none => none)
 | .alloc e => allocD e (zero P e) h k
 | .box e x => optD (evalO t x) fun x => newS e (vcells x) h k
 | .nilCheck x => optD (evalO t x) fun x => nilS x fun v => k v h
 | .unOp op _ x => optD (evalO t x) fun x => unD op x fun v => k v h
 | .convert s d x => optD (evalO t x) fun x => convD (P.underlying s) (P.underlying d) x fun v => k v h
 | .makeInterface ty x => optD (evalO t x) fun x => ifaceD (P.underlying ty) (k (.iface ty x) h)
 | .makeMap _ none => k (.map h.n) (h.new (.map []))
 | .makeSlice ty l c => opt2 (evalO t l) (evalO t c) fun l c => makeD P (P.underlying ty) l c h k
 | .fieldAddr ty x f => optD (evalO t x) fun x => fieldAddrD P (P.underlying ty) f x fun v => k v h
 | .field ty x f => optD (evalO t x) fun x => fieldD P (P.underlying ty) f x fun v => k v h
 | .indexAddr ty x i => opt2 (evalO t x) (evalO t i) fun x i => indexAddrD P (P.underlying ty) x i fun v => k v h
 | .index ty x i => opt2 (evalO t x) (evalO t i) fun x i => indexD P (P.underlying ty) x i fun v => k v h
 | .lookup ty x i ok => opt2 (evalO t x) (evalO t i) fun x i => lookD P (P.underlying ty) ok x i h k
 | .mapUpdate ty m key x => optD (evalO t m) fun m => opt2 (evalO t key) (evalO t x) fun key x => updD P (P.underlying ty) m key x h k
 | op => bindS (execC P t h op) k
def denX (o : Op) (t : Tr V) (h : Hp) (k : V → Hp → VH) : VH :=
 match evalL t o.operands.toList with
 | some as => bindS (Orc.op o as h) k
 | none => none
def denOp (o : Oper) (t : Tr V) (h : Hp) (k : V → Hp → VH) : VH :=
 cD (Nat.beq (xk o.op) 0) (denOpC P g o t h k) (denX o.op t h k)
def guardAt (all : Array Oper) (t : Tr V) (j : Nat) : Option V :=
 match all[j]? with
 | some o => (match o.dst with
  | some d => t.get d
  | none => none)
 | none => none
def sameG (j : Nat) (w : Bool) (o : Oper) : Bool := match o.guard with
 | some (i, v) => Nat.beq i j && (v == w)
 | none => false
def runG (j : Nat) (w : Bool) : List Oper → Nat
 | [] => 0
 | o :: l => bif sameG j w o then Nat.succ (runG j w l) else 0
def okG (all : Array Oper) (t : Tr V) (after : List Oper) (o : Oper) : Bool := match o.dst with
 | some d => (match t.get d with
  | some _ => false
  | none => true) && after.all fun x => !(memN d (looks all x))
 | none => true
def grpN (all : Array Oper) (t : Tr V) (o : Oper) (l : List Oper) : Nat → Nat
 | 0 => 0
 | n + 1 => bif (o :: l.take n).all (okG all t (l.drop (n + 1))) then n + 1 else grpN all t o l n
def denG : Nat → Oper → List Oper → Tr V → Hp → VH
 | 0, o, _, t, h => denOp P g o t h fun v h' => some (v, h')
 | n + 1, o, l, t, h => match l with
  | o' :: l => denOp P g o t h fun v h' => denG n o' l (putO t o.dst v) h'
  | [] => none
def lastD : Nat → Oper → List Oper → Option Tmp
 | 0, o, _ => o.dst
 | n + 1, o, l => match l with
  | o' :: l => lastD n o' l
  | [] => o.dst
def denOpsS (all : Array Oper) : List Oper → Nat → Tr V → Hp → (Tr V → Hp → VH) → VH
 | [], _, t, h, k => k t h
 | _ :: l, s + 1, t, h, k => denOpsS all l s t h k
 | o :: l, 0, t, h, k => match o.guard with
  | none => denOp P g o t h fun v h' => denOpsS all l 0 (putO t o.dst v) h' k
  | some (j, w) => optD (guardAt all t j) fun x => (fun n => guardS x w (denG P g n o l t h) h fun v h' => denOpsS all l n (putO t (lastD n o l) v) h' k) (grpN all t o l (runG j w l))
def denOps (all : Array Oper) (l : List Oper) (t : Tr V) (h : Hp) (k : Tr V → Hp → VH) : VH:=denOpsS P g all l 0 t h k
def hdStoreD (ms : Tr Nat) (s : Hd) (o : Oper) (i m : Nat) (h : Hp) (ty : TypeId) (a x : V) (k : Hd → VH) : VH :=
 ptrE a fun b off => storeB (storeO P (stores s.st h) ty b off x) fun ob => cD (s.nob.all (fun x => anc ms i x.1 || okV b x.2)) (k ⟨s.c, s.hs, s.need.set i m, putO s.t o.dst unitV, s.st ++ [(b, ob)], (i, undefV) :: s.nob⟩) none
def hdMkD (ms : Tr Nat) (s : Hd) (o : Oper) (i : Nat) (h : Hp) (k : Hd → VH) : VH :=
 cD (obliv o.op)
  (denOp P g o s.t ⟨h.t, h.n, h.n⟩ fun v h' => madeS h.n h.low h' fun h'' => k ⟨s.c + 1, s.hs.set (s.c + 1) h'', s.need.set i (s.c + 1), putO s.t o.dst v, s.st, hdNob s o i v⟩)
  (denOp P g o s.t ⟨h.t, h.n, h.n⟩ fun v h' => cD (s.nob.all fun x => (anc ms i x.1 || markV x.2) || (pureB h h' || sameLd h h' x.2))
    (wroteS h.low h' fun h'' => k ⟨s.c + 1, s.hs.set (s.c + 1) h'', s.need.set i (s.c + 1), putO s.t o.dst v, s.st, (i, .bool (pureB h h')) :: (i, undefV) :: s.nob⟩) none)
def hdPlainD (ms : Tr Nat) (s : Hd) (o : Oper) (i m : Nat) (h : Hp) (k : Hd → VH) : VH :=
 cD (obliv o.op || freeM ms i s o)
  (cD (makes o) (cD (Nat.beq m s.c) (hdMkD P g ms s o i h k) none)
  (denOp P g o s.t h fun v _ => cD (obliv o.op || behindR ms i s (ldV s.t o.op v)) (k ⟨s.c, s.hs, s.need.set i m, putO s.t o.dst v, s.st, hdNob s o i v⟩) none))
 none
def hdFloD (ms : Tr Nat) (s : Hd) (o : Oper) (i m : Nat) (h : Hp) (k : Hd → VH) : Option (List V) → VH
 | none => hdPlainD P g ms s o i m h k
 | some (p :: _) => k ⟨s.c, s.hs, s.need.set i m, putO s.t o.dst p, s.st, s.nob⟩
 | some [] => none
def hdFloSD (ms : Tr Nat) (s : Hd) (o : Oper) (i m : Nat) (h : Hp) (k : Hd → VH) : Option (List V) → VH
 | none => hdPlainD P g ms s o i m h k
 | some [p, .int .i64 (.ofNat e), .agg cs] => cD (Nat.beq (xk o.op) 0) (denOpC P g o s.t (floH p) fun v h' => cD (floIs p e cs v h') (k ⟨s.c, s.hs, s.need.set i m, putO s.t o.dst p, s.st, s.nob⟩) none) none
 | some _ => none
def hdDoD (ms : Tr Nat) (s : Hd) (o : Oper) (i m : Nat) (k : Hd → VH) : Option Hp → VH
 | none => none
 | some h => (match o.op with
  | .store ty a x => opt2 (evalO s.t a) (evalO s.t x) fun a x => hdStoreD P ms s o i m h ty a x k
  | .alloc _ => hdFloD P g ms s o i m h k (floOf s.nob i)
  | .buildSlice .. => hdFloSD P g ms s o i m h k (floOf s.nob i)
  | _ => hdPlainD P g ms s o i m h k)
def stFree (ms : Tr Nat) (i : Nat) (s : Hd) : Bool:=isNil s.st && s.nob.all fun x => anc ms i x.1 || !(markV x.2)
def mergeOk (ms : Tr Nat) (i : Nat) (s : Hd) (o : Oper) : Bool:=!makes o && ((obliv o.op || stFree ms i s) && (floOf s.nob i).isNone)
def guardM (h : Option Hp) (k : Hp → VH) : VH := (fun _ : Nat => match h with
 | some h => k h
 | none => none) tlTop
def denHead (ms : Tr Nat) (all : Array Oper) : List Oper → Nat → Hd → (Hd → VH) → VH
 | [], _, s, k => k s
 | o :: l, i, s, k => match o.guard with
  | none => hdDoD P g ms s o i (maxNeed s.need o.after.toList) (fun s' => denHead ms all l (i + 1) s' k) (s.hs.get (maxNeed s.need o.after.toList))
  | some (j, w) => optD (guardAt all s.t j) fun x => cD (mergeOk ms i s o)
   (guardM (s.hs.get (maxNeed s.need o.after.toList)) fun h => guardS x w (denOp P g o s.t h fun v h' => some (v, h')) h fun v _ =>
     denHead ms all l (i + 1) ⟨s.c, s.hs, s.need.set i (maxNeed s.need o.after.toList), putO s.t o.dst v, s.st, hdNob s o i v⟩ k)
   (guardB x w
     (hdDoD P g ms s o i (maxNeed s.need o.after.toList) (fun s' => denHead ms all l (i + 1) s' k) (s.hs.get (maxNeed s.need o.after.toList)))
     (denHead ms all l (i + 1) (hdSkip s o i (maxNeed s.need o.after.toList)) k))
def denTail (ops : Array Oper) (k : Tr V → Hp → VH) (s : Hd) : VH :=
 match s.hs.get s.c with
 | some h => denOps P g ops (ops.toList.drop (headLen ops)) s.t (stores s.st h) k
 | none => none
def denPd (t : Tr V) (h : Hp) (x : Pd) (k : V → VH) : VH :=
 match x with
 | .op x => optD (evalO t x) k
 | .ld ty a => optD (evalO t a) fun p => loadD P ty p h fun v _ => k v
def denPds (t : Tr V) (h : Hp) : List Pd → (List V → VH) → VH
 | [], k => k []
 | x :: xs, k => denPd P t h x fun v => denPds t h xs fun vs => k (v :: vs)
def denFlo (ms : Tr Nat) (all : List Oper) (t : Tr V) : List Oper → Nat → Hp → (Hp → List (Nat × V) → VH) → VH
 | [], _, h, k => k h []
 | o :: l, i, h, k => match (match o.op, o.guard with
  | .alloc ty, none => bif obliv o.op then (match zero P ty with
   | some z => some (ty, vcells z)
   | none => none) else none
  | _, _ => none) with
  | some (ty, cs) => denFlo ms all t l (i + 1) (h.newRow ty cs false) fun h' n => k h' ((i, fent (.ptr h.n 0) ty cs) :: n)
  | none => match floS P ms all i o with
   | some (e, len, ys) => denPds P t h ys fun vs => denFlo ms all t l (i + 1) (h.newRow e (flat vs) false) fun h' n => k h' ((i, fent (.slice h.n 0 len len false) e (flat vs)) :: n)
   | none => denFlo ms all t l (i + 1) h k
def denHd (ops : Array Oper) (t : Tr V) (k : Tr V → Hp → VH) (h : Hp) (n : List (Nat × V)) : VH :=
 denHead P g (masks ops) ops (ops.toList.take (headLen ops)) 0 ⟨0, Tr.nil.set 0 h, .nil, t, [], n⟩ (denTail P g ops k)
def denReg (ops : Array Oper) (t : Tr V) (h : Hp) (k : Tr V → Hp → VH) : Bool → VH
 | false => denOps P g ops ops.toList t h k
 | true => cD (okDraw ops) (denFlo P (masks ops) (ops.toList.take (headLen ops)) t (ops.toList.take (headLen ops)) 0 h (denHd P g ops t k)) none
def denB : Nat → Code → Tr V → Hp → (Tr V → Hp → VH) → (Nat → Tr V → Hp → VH) → (Hp → VH) → VH
 | 0, _, _, _, _, _, _ => none
 | m + 1, c, t, h, kn, kx, kr => match c with
  | .skip => kn t h
  | .region _ ops d => denReg P g ops t h kn d
  | .seq a b => denB m a t h (fun t h => denB m b t h kn kx kr) kx kr
  | .cond x a b => optD (evalO t x) fun v => ifS v (denB m a t h kn kx kr) (denB m b t h kn kx kr)
  | .block id c => denB m c t h kn (fun j t h => cD (Nat.beq j id) (kn t h) (kx j t h)) kr
  | .exit id => kx id t h
  | .ret => kr h
  | .scope c => denB m c t h kn kx kr
  | .label _ => kn t h
  | _ => none
def rngE (it : It) (p : V) (kn : Hp → VH) (round : V → V → Hp → (Hp → VH) → VH) (n : Nat) : Hp → VH :=
 Nat.rec (motive:=fun _ => Hp → VH) kn (fun i ih h => optS (rowEl it h p i) fun v => round (.int .i64 (.ofNat i)) v h ih) n
def rngI (p : V) (h : Hp) (kn : Hp → VH) (round : V → V → Hp → (Hp → VH) → VH) : Option It → VH
 | some it => natO (rowLen h p) fun n => whenE (Nat.ble n big) (rngE it p kn round n h)
 | none => none
def rngT (itr : FuncId → Option It) (v : V) (h : Hp) (kn : Hp → VH) (round : V → V → Hp → (Hp → VH) → VH) : VH :=
 match v with
 | .func f [] [p] => rngI p h kn round (itr f)
 | _ => none
def rngV (v : V) (h : Hp) (kn : Hp → VH) (round : V → V → Hp → (Hp → VH) → VH) : VH:=rngT Orc.itr v h kn round
def rngD (m : Nat) (ps : List Tmp) (a b : Code) (t : Tr V) (h : Hp) (v : V) (kn : Hp → VH) (kx : Nat → Hp → VH) (kr : Hp → VH) : VH :=
 match ps with
 | [x, y] => rngV v h kn fun i v h next => denB P g m a ((t.set x i).set y v) h (fun t h => denB P g m b t h (fun _ h => next h) (fun j _ h => kx j h) kr) (fun _ _ _ => none) (fun _ => none)
 | _ => none
section
variable (cuts : Cuts) (rs : List ResultVar)
def popN (d : Code → Nat → List Fk → Tr V → Hp → VH) (t : Tr V) (h : Hp) : List Fk → VH
 | [] => retS P rs t h
 | .seq b q :: κ => (match cutAt q cuts with
  | some c => jumpTo g t h (some c)
  | none => d b q κ t h)
 | .blk _ :: κ => popN d t h κ
 | .loop _ q :: _ => jumpTo g t h (cutAt q cuts)
def popX (d : Code → Nat → List Fk → Tr V → Hp → VH) (id : Nat) (t : Tr V) (h : Hp) : List Fk → VH
 | [] => none
 | .seq _ _ :: κ => popX d id t h κ
 | .blk j :: κ => cD (Nat.beq id j) (popN P g cuts rs d t h κ) (popX d id t h κ)
 | .loop _ _ :: κ => popX d id t h κ
def den : Nat → Code → Nat → List Fk → Tr V → Hp → VH
 | 0, _, _, _, _, _ => none
 | m + 1, c, q, κ, t, h => match c with
  | .skip => popN P g cuts rs (den m) t h κ
  | .region _ ops d => denReg P g ops t h (fun t h => popN P g cuts rs (den m) t h κ) d
  | .seq a b => den m a (2 * q) (.seq b (2 * q + 1) :: κ) t h
  | .cond x a b => optD (evalO t x) fun v => ifS v (den m a (2 * q) κ t h) (den m b (2 * q + 1) κ t h)
  | .block id c => den m c (2 * q) (.blk id :: κ) t h
  | .loop _ => jumpTo g t h (cutAt q cuts)
  | .exit id => popX P g cuts rs (den m) id t h κ
  | .ret => retS P rs t h
  | .scope c => den m c (2 * q) κ t h
  | .label _ => popN P g cuts rs (den m) t h κ
  | .rangeFunc f ps a b => optD (evalO t f) fun v => rngD P g m ps.toList a b t h v (fun h => popN P g cuts rs (den m) t h κ) (fun j h => popX P g cuts rs (den m) j t h κ) (fun h => retS P rs t h)
  | _ => none
def denIn (m : Nat) (q : Nat) (t : Tr V) (h : Hp) : Option (Code × List Fk) → VH
 | some (.loop c, κ) => den P g cuts rs m c (2 * q) (.loop c q :: κ) t h
 | some (c, κ) => den P g cuts rs m c q κ t h
 | none => none
end
def denF (m : Nat) (cuts : Cuts) (as : List V) (h : Hp) : Option Func → VH
 | some fn => (match fn.body with
  | some c => cD (Nat.ble as.length fn.ntmps && okCode fn.ntmps c) (denIn P g cuts fn.results.toList m 1 (Tr.nil.setL 0 as) h (some (c, []))) none
  | none => none)
 | none => none
def denL (m : Nat) (cuts : Cuts) (q : Nat) (live : List Tmp) (vs : List V) (h : Hp) : Option Func → VH
 | some fn => (match fn.body with
  | some c => denIn P g cuts fn.results.toList m q (setAll live vs .nil) h (atN c (q + 1) q)
  | none => none)
 | none => none
end
end
end Go.Mid
end
