/- Parts of the proof: D38f, Pk, R0, R1, R2, R3, V03, V03b, V03c, V38, R4, R5, Pq, R6, Rn, S3, Pt, U30a, U30b, U38a. -/
import Derived.Test.YtheacfnopahmjaaGreatDoorG1
import Derived.Carry
import Derived.DataReads
import Derived.Test.YtheacfnopahmjaaGreatDoorG0
import Derived.WalkKit
import Derived.ProofKit
import Derived.OpenShut
import Derived.Laws.Externs
import Derived.Lib.Bytealg
import Derived.Lib.Builder
import Derived.HandedShaped
import Derived.Shelf.Vars
import Derived.Lay
import Derived.LaidMore
import Derived.Stop.Joined
import Derived.Shelf.Strings.Split
import Derived.Shelf.Strings.Cut
import Derived.Lib.SplitLaws
set_option linter.all false
namespace Go.AM
open Go
structure Xh where
 name:List UInt8
 type:Int
def Xh.row (x:Xh):List AV:=[.s x.name,.i .i64 x.type]
theorem Xh.row_eq (x:Xh):x.row=[.s x.name,.i .i64 x.type]:=rfl
def Xh.zero:Xh:=⟨[],0⟩
abbrev Xh.av (x:Xh):AV:=.ag [.s x.name,.i .i64 x.type]
structure Ko where
 op:Int
 a:Int
 b:Int
 c:Int
def Ko.row (x:Ko):List AV:=[.i .u8 x.op,.i .i64 x.a,.i .i64 x.b,.i .i64 x.c]
theorem Ko.row_eq (x:Ko):x.row=[.i .u8 x.op,.i .i64 x.a,.i .i64 x.b,.i .i64 x.c]:=rfl
def Ko.zero:Ko:=⟨0,0,0,0⟩
abbrev Ko.av (x:Ko):AV:=.ag [.i .u8 x.op,.i .i64 x.a,.i .i64 x.b,.i .i64 x.c]
structure Vy where
 start:Int
 value:Int
def Vy.row (x:Vy):List AV:=[.i .i64 x.start,.i .u64 x.value]
theorem Vy.row_eq (x:Vy):x.row=[.i .i64 x.start,.i .u64 x.value]:=rfl
def Vy.zero:Vy:=⟨0,0⟩
abbrev Vy.av (x:Vy):AV:=.ag [.i .i64 x.start,.i .u64 x.value]
structure Wx where
 kind:Int
 elem:Int
 len:Int
 fields:List Xh
def Wx.row (x:Wx):List AV:=[.i .u8 x.kind,.i .i64 x.elem,.i .i64 x.len,.sl .ext (List.map Xh.row x.fields)]
theorem Wx.row_eq (x:Wx):x.row=[.i .u8 x.kind,.i .i64 x.elem,.i .i64 x.len,.sl .ext (List.map Xh.row x.fields)]:=rfl
def Wx.zero:Wx:=⟨0,0,0,[]⟩
abbrev Wx.av (x:Wx):AV:=.ag [.i .u8 x.kind,.i .i64 x.elem,.i .i64 x.len,.sl .ext (List.map Xh.row x.fields)]
abbrev Wx.avo (x:Wx) (o:Zm):AV:=.ag [.i .u8 x.kind,.i .i64 x.elem,.i .i64 x.len,.sl o (List.map Xh.row x.fields)]
structure Ye where
 name:List UInt8
 params:Int
 result:Int
 slots:List Xh
 code:List Ko
 sizes:List Vy
 lives:List Vy
def Ye.row (x:Ye):List AV:=[.s x.name,.i .i64 x.params,.i .i64 x.result,.sl .ext (List.map Xh.row x.slots),.sl .ext (List.map Ko.row x.code),.sl .ext (List.map Vy.row x.sizes),.sl .ext (List.map Vy.row x.lives)]
theorem Ye.row_eq (x:Ye):x.row=[.s x.name,.i .i64 x.params,.i .i64 x.result,.sl .ext (List.map Xh.row x.slots),.sl .ext (List.map Ko.row x.code),.sl .ext (List.map Vy.row x.sizes),.sl .ext (List.map Vy.row x.lives)]:=rfl
def Ye.zero:Ye:=⟨[],0,0,[],[],[],[]⟩
abbrev Ye.av (x:Ye):AV:=.ag [.s x.name,.i .i64 x.params,.i .i64 x.result,.sl .ext (List.map Xh.row x.slots),.sl .ext (List.map Ko.row x.code),.sl .ext (List.map Vy.row x.sizes),.sl .ext (List.map Vy.row x.lives)]
structure Zh where
 types:List Wx
 texts:List (List UInt8)
 funcs:List Ye
def Zh.row (x:Zh):List AV:=[.sl .ext (List.map Wx.row x.types),.sl .ext (List.map Zt x.texts),.sl .ext (List.map Ye.row x.funcs)]
theorem Zh.row_eq (x:Zh):x.row=[.sl .ext (List.map Wx.row x.types),.sl .ext (List.map Zt x.texts),.sl .ext (List.map Ye.row x.funcs)]:=rfl
def Zh.zero:Zh:=⟨[],[],[]⟩
abbrev Zh.av (x:Zh):AV:=.ag [.sl .ext (List.map Wx.row x.types),.sl .ext (List.map Zt x.texts),.sl .ext (List.map Ye.row x.funcs)]
structure Zy where
 slot:Int
 value:Za
def Zy.row (x:Zy):List AV:=[.i .i64 x.slot,.i .u8 x.value.kind,.i .i64 x.value.int,.s x.value.text,.sl .ext (List.map Za.row x.value.list),.b x.value.cut]
theorem Zy.row_eq (x:Zy):x.row=[.i .i64 x.slot,.i .u8 x.value.kind,.i .i64 x.value.int,.s x.value.text,.sl .ext (List.map Za.row x.value.list),.b x.value.cut]:=rfl
theorem Zy.row_len (x:Zy):x.row.length=6:=rfl
def Zy.zero:Zy:=⟨0,Za.zero⟩
abbrev Zy.av (x:Zy):AV:=.ag [.i .i64 x.slot,.i .u8 x.value.kind,.i .i64 x.value.int,.s x.value.text,.sl .ext (List.map Za.row x.value.list),.b x.value.cut]
abbrev Zy.avo (x:Zy) (o:Zm):AV:=.ag [.i .i64 x.slot,.i .u8 x.value.kind,.i .i64 x.value.int,.s x.value.text,.sl o (List.map Za.row x.value.list),.b x.value.cut]
structure Zg where
 func:Int
 pos:Int
 mode:Int
 locals:List Zy
def Zg.row (x:Zg):List AV:=[.i .i64 x.func,.i .i64 x.pos,.i .u64 x.mode,.sl .ext (List.map Zy.row x.locals)]
theorem Zg.row_eq (x:Zg):x.row=[.i .i64 x.func,.i .i64 x.pos,.i .u64 x.mode,.sl .ext (List.map Zy.row x.locals)]:=rfl
theorem Zg.row_len (x:Zg):x.row.length=4:=rfl
def Zg.zero:Zg:=⟨0,0,0,[]⟩
abbrev Zg.av (x:Zg):AV:=.ag [.i .i64 x.func,.i .i64 x.pos,.i .u64 x.mode,.sl .ext (List.map Zy.row x.locals)]
abbrev Zg.avo (x:Zg) (o:Zm):AV:=.ag [.i .i64 x.func,.i .i64 x.pos,.i .u64 x.mode,.sl o (List.map Zy.row x.locals)]
structure Zf where
 tag:Int
 value:Za
 flags:Int
def Zf.row (x:Zf):List AV:=[.i .u64 x.tag,.i .u8 x.value.kind,.i .i64 x.value.int,.s x.value.text,.sl .ext (List.map Za.row x.value.list),.b x.value.cut,.i .u64 x.flags]
theorem Zf.row_eq (x:Zf):x.row=[.i .u64 x.tag,.i .u8 x.value.kind,.i .i64 x.value.int,.s x.value.text,.sl .ext (List.map Za.row x.value.list),.b x.value.cut,.i .u64 x.flags]:=rfl
theorem Zf.row_len (x:Zf):x.row.length=7:=rfl
def Zf.zero:Zf:=⟨0,Za.zero,0⟩
abbrev Zf.av (x:Zf):AV:=.ag [.i .u64 x.tag,.i .u8 x.value.kind,.i .i64 x.value.int,.s x.value.text,.sl .ext (List.map Za.row x.value.list),.b x.value.cut,.i .u64 x.flags]
abbrev Zf.avo (x:Zf) (o:Zm):AV:=.ag [.i .u64 x.tag,.i .u8 x.value.kind,.i .i64 x.value.int,.s x.value.text,.sl o (List.map Za.row x.value.list),.b x.value.cut,.i .u64 x.flags]
structure Zi where
 frame:Int
 func:Int
 hasArg:Bool
 arg:Za
def Zi.row (x:Zi):List AV:=[.i .i64 x.frame,.i .i64 x.func,.b x.hasArg,.i .u8 x.arg.kind,.i .i64 x.arg.int,.s x.arg.text,.sl .ext (List.map Za.row x.arg.list),.b x.arg.cut]
theorem Zi.row_eq (x:Zi):x.row=[.i .i64 x.frame,.i .i64 x.func,.b x.hasArg,.i .u8 x.arg.kind,.i .i64 x.arg.int,.s x.arg.text,.sl .ext (List.map Za.row x.arg.list),.b x.arg.cut]:=rfl
theorem Zi.row_len (x:Zi):x.row.length=8:=rfl
def Zi.zero:Zi:=⟨0,0,false,Za.zero⟩
abbrev Zi.av (x:Zi):AV:=.ag [.i .i64 x.frame,.i .i64 x.func,.b x.hasArg,.i .u8 x.arg.kind,.i .i64 x.arg.int,.s x.arg.text,.sl .ext (List.map Za.row x.arg.list),.b x.arg.cut]
abbrev Zi.avo (x:Zi) (o:Zm):AV:=.ag [.i .i64 x.frame,.i .i64 x.func,.b x.hasArg,.i .u8 x.arg.kind,.i .i64 x.arg.int,.s x.arg.text,.sl o (List.map Za.row x.arg.list),.b x.arg.cut]
structure Zl where
 status:Int
 key:Int
 frames:List Zg
 defers:List Zi
 panics:List Zf
def Zl.row (x:Zl):List AV:=[.i .u8 x.status,.i .i64 x.key,.sl .ext (List.map Zg.row x.frames),.sl .ext (List.map Zi.row x.defers),.sl .ext (List.map Zf.row x.panics)]
theorem Zl.row_eq (x:Zl):x.row=[.i .u8 x.status,.i .i64 x.key,.sl .ext (List.map Zg.row x.frames),.sl .ext (List.map Zi.row x.defers),.sl .ext (List.map Zf.row x.panics)]:=rfl
theorem Zl.row_len (x:Zl):x.row.length=5:=rfl
def Zl.zero:Zl:=⟨0,0,[],[],[]⟩
abbrev Zl.av (x:Zl):AV:=.ag [.i .u8 x.status,.i .i64 x.key,.sl .ext (List.map Zg.row x.frames),.sl .ext (List.map Zi.row x.defers),.sl .ext (List.map Zf.row x.panics)]
structure Zw where
 outcome:Int
 failing:Int
 steps:Int
 routines:List Zl
def Zw.row (x:Zw):List AV:=[.i .u8 x.outcome,.i .i64 x.failing,.i .i64 x.steps,.sl .ext (List.map Zl.row x.routines)]
theorem Zw.row_eq (x:Zw):x.row=[.i .u8 x.outcome,.i .i64 x.failing,.i .i64 x.steps,.sl .ext (List.map Zl.row x.routines)]:=rfl
def Zw.zero:Zw:=⟨0,0,0,[]⟩
abbrev Zw.av (x:Zw):AV:=.ag [.i .u8 x.outcome,.i .i64 x.failing,.i .i64 x.steps,.sl .ext (List.map Zl.row x.routines)]
abbrev Zw.avo (x:Zw) (o:Zm):AV:=.ag [.i .u8 x.outcome,.i .i64 x.failing,.i .i64 x.steps,.sl o (List.map Zl.row x.routines)]
structure Bf where
 kind:Int
 g:Int
 k:Int
 key:Int
 name:List UInt8
def Bf.row (x:Bf):List AV:=[.i .u8 x.kind,.i .i64 x.g,.i .i64 x.k,.i .i64 x.key,.s x.name]
theorem Bf.row_eq (x:Bf):x.row=[.i .u8 x.kind,.i .i64 x.g,.i .i64 x.k,.i .i64 x.key,.s x.name]:=rfl
def Bf.zero:Bf:=⟨0,0,0,0,[]⟩
abbrev Bf.av (x:Bf):AV:=.ag [.i .u8 x.kind,.i .i64 x.g,.i .i64 x.k,.i .i64 x.key,.s x.name]
end Go.AM

/- Helpers of the packed texts (pack.py): short operations, short steps. -/
namespace Go.AM
open Go
theorem J {α:Sort _} {a:α}:a=a:=rfl
abbrev oI (d:Nat) (n:Int):AI:=⟨some d,.mv (.c (.i .i64 n)),none⟩
abbrev oU (d:Nat) (n:Int):AI:=⟨some d,.mv (.c (.i .u8 n)),none⟩
abbrev oT (d:Nat) (op:BinOp) (a b:Nat):AI:=⟨some d,.bin op (.t a) (.t b),none⟩
abbrev oV (d:Nat) (op:BinOp) (a:Nat) (n:Int):AI:=⟨some d,.bin op (.t a) (.c (.i .i64 n)),none⟩
abbrev oW (d:Nat) (op:BinOp) (a:Nat) (n:Int):AI:=⟨some d,.bin op (.t a) (.c (.i .u8 n)),none⟩
abbrev oK (d n a:Nat):AI:=⟨some d,.load n true (.t a),none⟩
abbrev oA (d a b:Nat):AI:=⟨some d,.pick (.t a) (.t b) (.c (.b false)),none⟩
abbrev oR (d a b:Nat):AI:=⟨some d,.pick (.t a) (.c (.b true)) (.t b),none⟩
abbrev ts:List Nat->List Zq
 | []=>[]
 | a::r=>.t a::ts r
abbrev oQ (d f:Nat) (l:List Nat):AI:=⟨some d,.call false f (ts l),none⟩
abbrev oX (d n a b:Nat):AI:=⟨some d,.iaL n (.t a) (.t b),none⟩
abbrev oJ (d a:Nat):AI:=⟨some d,.len false (.t a),none⟩
abbrev oH (d a:Nat):AI:=⟨some d,.len true (.t a),none⟩
abbrev oY (d n a:Nat):AI:=⟨some d,.box n (.t a),none⟩
abbrev oZ (d a:Nat):AI:=⟨some d,.un .not (.t a),none⟩
abbrev gT (g:Nat) (a:AI):AI:=⟨a.dst,a.op,some (g,true)⟩
abbrev gF (g:Nat) (a:AI):AI:=⟨a.dst,a.op,some (g,false)⟩
abbrev z8:AV:=.i .u8 0
abbrev z6:AV:=.i .i64 0
abbrev z7:AV:=.i .u64 0
abbrev zs:AV:=.s []
abbrev zl:AV:=.sl .full []
abbrev zb:AV:=.b false
abbrev Zl.cs (V:Zl):List AV:=[.i .u8 V.status,.i .i64 V.key,.sl .ext (List.map Zg.row V.frames),.sl .ext (List.map Zi.row V.defers),.sl .ext (List.map Zf.row V.panics)]
abbrev Zh.cs (V:Zh):List AV:=[.sl .ext (List.map Wx.row V.types),.sl .ext (List.map Zt V.texts),.sl .ext (List.map Ye.row V.funcs)]
abbrev Ye.cs (V:Ye):List AV:=[.s V.name,.i .i64 V.params,.i .i64 V.result,.sl .ext (List.map Xh.row V.slots),.sl .ext (List.map Ko.row V.code),.sl .ext (List.map Vy.row V.sizes),.sl .ext (List.map Vy.row V.lives)]
abbrev Bf.cs (V:Bf):List AV:=[.i .u8 V.kind,.i .i64 V.g,.i .i64 V.k,.i .i64 V.key,.s V.name]
abbrev Za.cs (V:Za):List AV:=[.i .u8 V.kind,.i .i64 V.int,.s V.text,.sl .ext (List.map Za.row V.list),.b V.cut]
abbrev Zg.cs (V:Zg):List AV:=[.i .i64 V.func,.i .i64 V.pos,.i .u64 V.mode,.sl .ext (List.map Zy.row V.locals)]
abbrev Zw.cs (V:Zw):List AV:=[.i .u8 V.outcome,.i .i64 V.failing,.i .i64 V.steps,.sl .ext (List.map Zl.row V.routines)]
abbrev Zf.cs (V:Zf):List AV:=[.i .u64 V.tag,.i .u8 V.value.kind,.i .i64 V.value.int,.s V.value.text,.sl .ext (List.map Za.row V.value.list),.b V.value.cut,.i .u64 V.flags]
abbrev sR (n:Nat) (r:List AI) (c:AC):AC:=.seq (.reg n r) c
section
variable {PG:Zb} {d id base i:Nat} {σ:Sl} {st:St} {K:Sl->St->Prop} {r:List AI} {o o2 o3 o4:Option Nat} {p p2 p3 p4:Wz} {g g2 g3 g4:Nat}
theorem nT (hg:σ g=.b true) (h:WO PG d id base (i+1) r (Zu σ o (.tup [])) st K):WO PG d id base i (⟨o,p,some (g,false)⟩::r) σ st K:=Zbi hg rfl h
theorem nF (hg:σ g=.b false) (h:WO PG d id base (i+1) r (Zu σ o (.tup [])) st K):WO PG d id base i (⟨o,p,some (g,true)⟩::r) σ st K:=Zbi hg rfl h
theorem nT2 (hg:σ g=.b true) (hg2:Zu σ o (.tup []) g2=.b true) (h:WO PG d id base (i+1+1) r (Zu (Zu σ o (.tup [])) o2 (.tup [])) st K):WO PG d id base i (⟨o,p,some (g,false)⟩::⟨o2,p2,some (g2,false)⟩::r) σ st K:=nT hg (nT hg2 h)
theorem nF2 (hg:σ g=.b false) (hg2:Zu σ o (.tup []) g2=.b false) (h:WO PG d id base (i+1+1) r (Zu (Zu σ o (.tup [])) o2 (.tup [])) st K):WO PG d id base i (⟨o,p,some (g,true)⟩::⟨o2,p2,some (g2,true)⟩::r) σ st K:=nF hg (nF hg2 h)
theorem nT3 (hg:σ g=.b true) (hg2:Zu σ o (.tup []) g2=.b true) (hg3:Zu (Zu σ o (.tup [])) o2 (.tup []) g3=.b true) (h:WO PG d id base (i+1+1+1) r (Zu (Zu (Zu σ o (.tup [])) o2 (.tup [])) o3 (.tup [])) st K):WO PG d id base i (⟨o,p,some (g,false)⟩::⟨o2,p2,some (g2,false)⟩::⟨o3,p3,some (g3,false)⟩::r) σ st K:=nT hg (nT2 hg2 hg3 h)
theorem nF3 (hg:σ g=.b false) (hg2:Zu σ o (.tup []) g2=.b false) (hg3:Zu (Zu σ o (.tup [])) o2 (.tup []) g3=.b false) (h:WO PG d id base (i+1+1+1) r (Zu (Zu (Zu σ o (.tup [])) o2 (.tup [])) o3 (.tup [])) st K):WO PG d id base i (⟨o,p,some (g,true)⟩::⟨o2,p2,some (g2,true)⟩::⟨o3,p3,some (g3,true)⟩::r) σ st K:=nF hg (nF2 hg2 hg3 h)
theorem nT4 (hg:σ g=.b true) (hg2:Zu σ o (.tup []) g2=.b true) (hg3:Zu (Zu σ o (.tup [])) o2 (.tup []) g3=.b true) (hg4:Zu (Zu (Zu σ o (.tup [])) o2 (.tup [])) o3 (.tup []) g4=.b true) (h:WO PG d id base (i+1+1+1+1) r (Zu (Zu (Zu (Zu σ o (.tup [])) o2 (.tup [])) o3 (.tup [])) o4 (.tup [])) st K):WO PG d id base i (⟨o,p,some (g,false)⟩::⟨o2,p2,some (g2,false)⟩::⟨o3,p3,some (g3,false)⟩::⟨o4,p4,some (g4,false)⟩::r) σ st K:=nT hg (nT3 hg2 hg3 hg4 h)
theorem nF4 (hg:σ g=.b false) (hg2:Zu σ o (.tup []) g2=.b false) (hg3:Zu (Zu σ o (.tup [])) o2 (.tup []) g3=.b false) (hg4:Zu (Zu (Zu σ o (.tup [])) o2 (.tup [])) o3 (.tup []) g4=.b false) (h:WO PG d id base (i+1+1+1+1) r (Zu (Zu (Zu (Zu σ o (.tup [])) o2 (.tup [])) o3 (.tup [])) o4 (.tup [])) st K):WO PG d id base i (⟨o,p,some (g,true)⟩::⟨o2,p2,some (g2,true)⟩::⟨o3,p3,some (g3,true)⟩::⟨o4,p4,some (g4,true)⟩::r) σ st K:=nF hg (nF3 hg2 hg3 hg4 h)
end
end Go.AM
namespace Go.AM
open Go
/-! what a function returns, by shape -/
section
variable {α β γ:Type}
abbrev H1 (e:α->AV) (s:Nat) (Q:AE->Sl->St->Prop) (K:α->Prop):Prop:=∀⦃σ:Sl⦄ ⦃st:St⦄ ⦃a:α⦄,σ s=e a->K a->Q .ret σ st
abbrev H2 (e:α->AV) (f:β->AV) (s t:Nat) (Q:AE->Sl->St->Prop) (K:α->β->Prop):Prop:=∀⦃σ:Sl⦄ ⦃st:St⦄ ⦃a:α⦄ ⦃b:β⦄,σ s=e a->σ t=f b->K a b->Q .ret σ st
abbrev HL (e:α->List AV) (s:Nat) (Q:AE->Sl->St->Prop) (K:List α->Prop):Prop:=∀⦃σ:Sl⦄ ⦃st:St⦄ ⦃o:Zm⦄ ⦃a:List α⦄,σ s=.sl o (List.map e a)->K a->Q .ret σ st
abbrev HM (e:α->List AV) (f:β->AV) (s t:Nat) (Q:AE->Sl->St->Prop) (K:List α->β->Prop):Prop:=∀⦃σ:Sl⦄ ⦃st:St⦄ ⦃o:Zm⦄ ⦃a:List α⦄ ⦃b:β⦄,σ s=.sl o (List.map e a)->σ t=f b->K a b->Q .ret σ st
abbrev HF (d:Nat) (Zk:St) (e:α->AV) (s:Nat) (Q:AE->Sl->St->Prop) (K:α->Prop):Prop:=∀⦃σ:Sl⦄ ⦃st:St⦄ ⦃a:α⦄,σ s=e a->Fr d (d,0) Zk.bx Zk.ow st.bx st.ow->K a->Q .ret σ st
abbrev HD (d:Nat) (Zk:St) (kp:Zo) (vp:Nat) (B:γ->BC) (e:α->AV) (s:Nat) (Q:AE->Sl->St->Prop) (K:α->γ->Prop):Prop:=∀⦃σ:Sl⦄ ⦃st:St⦄ ⦃a:α⦄ ⦃b:γ⦄,σ s=e a->B b st.bx st.ow kp vp->Fr d kp Zk.bx Zk.ow st.bx st.ow->K a b->Q .ret σ st
variable {PG:Zb} {f:Nat} {F:AF} {args:List AV} {s t:Nat}
abbrev Q1 (F:AF) (R:AV->Prop):AE->Sl->St->Prop:=Sb 0 F.res fun r _=>∃v,r.strip=some v/\R v
theorem h1 {e:α->AV} {K:α->Prop} (hr:F.res=[.tmp s]) (he :∀a,(e a).strip=some (e a)):H1 e s (Q1 F fun v=>∃a,K a/\v=e a) K:=by
 intro σ st a h k
 exact ⟨e a,by simp only [hr,Xk,Kg,h],_,he a,a,k,rfl⟩
theorem h2 {e:α->AV} {g:β->AV} {K:α->β->Prop} (hr:F.res=[.tmp s,.tmp t]) (he :∀a b,(AV.tup [e a,g b]).strip=some (AV.tup [e a,g b])):H2 e g s t (Q1 F fun v=>∃a b,K a b/\v=.tup [e a,g b]) K:=by
 intro σ st a b h h' k
 exact ⟨.tup [e a,g b],by simp only [hr,Xk,Vb,Kg,h,h',kJ],_,he a b,a,b,k,rfl⟩
theorem hL {e:α->List AV} {K:List α->Prop} (hr:F.res=[.tmp s]):HL e s (Q1 F fun v=>∃a,K a/\v=.sl .ext (List.map e a)) K:=by
 intro σ st o a h k
 exact ⟨.sl o (List.map e a),by simp only [hr,Xk,Kg,h],_,rfl,a,k,rfl⟩
theorem hM {e:α->List AV} {g:β->AV} {K:List α->β->Prop} (hr:F.res=[.tmp s,.tmp t]) (he :∀o a b,(AV.tup [.sl o (List.map e a),g b]).strip=some (AV.tup [.sl .ext (List.map e a),g b])):HM e g s t (Q1 F fun v=>∃a b,K a b/\v=.tup [.sl .ext (List.map e a),g b]) K:=by
 intro σ st o a b h h' k
 exact ⟨.tup [.sl o (List.map e a),g b],by simp only [hr,Xk,Vb,Kg,h,h',kJ],_,he o a b,a,b,k,rfl⟩
theorem P1 {e:α->AV} {K:α->Prop} (hf:PG.fn f=some F) (hn:Nat.ble args.length F.nt=true) (w:W PG 0 F.body (Wc args) Zk (Q1 F fun v=>∃a,K a/\v=e a)) :∃a,K a/\Ze PG f args (e a):=by
 obtain ⟨v,hv,a,hk,rfl⟩:=Ze.of hf hn w
 exact ⟨a,hk,hv⟩
theorem P2 {e:α->β->AV} {K:α->β->Prop} (hf:PG.fn f=some F) (hn:Nat.ble args.length F.nt=true) (w:W PG 0 F.body (Wc args) Zk (Q1 F fun v=>∃a b,K a b/\v=e a b)) :∃a b,K a b/\Ze PG f args (e a b):=by
 obtain ⟨v,hv,a,b,hk,rfl⟩:=Ze.of hf hn w
 exact ⟨a,b,hk,hv⟩
theorem PF {e:α->AV} {K:α->Prop} (hf:PG.fn f=some F) (hn:Nat.ble args.length F.nt=true) (hr:F.res=[.tmp s]) (w :∀(d:Nat) (st:St) (Q:AE->Sl->St->Prop),HF d st e s Q K->W PG d F.body (Wc args) st Q):Ym PG f args fun r=>∃a,r=e a/\K a:=
 Ym.of hf hn fun d st=>w d st _ (by
  intro σ st' a h hf hk
  exact ⟨.inr rfl,e a,by simp only [hr,Xk,Kg,h],⟨a,rfl,hk⟩,hf⟩)
theorem PD {B0:BC} {B:γ->BC} {e:α->AV} {K:α->γ->Prop} (hf:PG.fn f=some F) (hn:Nat.ble (args.length+1) F.nt=true) (hr:F.res=[.tmp s]) (ho :∀b,Rm (B b)) (w :∀(d:Nat) (st:St) (kp:Zo) (vp:Nat),kp.1<d->B0 st.bx st.ow kp vp->∀(Q:AE->Sl->St->Prop),HD d st kp vp B e s Q K->W PG d F.body (Wc (.p kp vp 0::args)) st Q):Qr PG f B0 args (fun r b=>∃a,r=e a/\K a b) B:=
 Qr.of hf hn ho fun d st kp vp hkp hB=>w d st kp vp hkp hB _ (by
  intro σ st' a b h hb hf hk
  exact ⟨.inr rfl,e a,b,by simp only [hr,Xk,Kg,h],⟨a,rfl,hk⟩,hb,hf⟩)
end
end Go.AM
namespace Go.AM
open Go
/-! steps whose guards and bits are known -/
def Is (a:AI) (σ:Sl):Option AV:=
 match a.guard with
 | some (g,w)=>match σ g with | .b b=>(match w,b with | true,false=>some (.tup []) | false,true=>some (.tup []) | _,_=>none) | .tup []=>some (.tup []) | _=>none
 | none=>match a.op with
  | .pick c x y=>match c.ev σ with | .b t=>(match (bif t then x else y).ev σ with | .b z=>some (.b z) | _=>none) | _=>none
  | .mv x=>match x.ev σ with | .b z=>some (.b z) | _=>none
  | _=>none
def skp:Nat->List AI->Sl->Nat->Option (List AI × Sl × Nat)
 | 0,ops,σ,i=>some (ops,σ,i)
 | n+1,a::r,σ,i=>match Is a σ with | some v=>skp n r (Zu σ a.dst v) (i+1) | none=>none
 | _+1,[],_,_=>none
section
variable {PG:Zb} {d id base i:Nat} {σ:Sl} {st:St} {K:Sl->St->Prop}
theorem Yd8 {a:AI} {r:List AI} {v:AV} (hs:Is a σ=some v) (h:WO PG d id base (i+1) r (Zu σ a.dst v) st K):WO PG d id base i (a::r) σ st K:=by
 obtain ⟨t,op,g⟩:=a
 cases g with
 | some gw=>
  obtain ⟨g,w⟩:=gw
  simp only [Is] at hs
  split at hs
  ·rename_i b hg
   cases w<;>cases b<;>first | (cases hs;done) | (injection hs with hs;subst hs;exact Zbi hg rfl h)
  ·rename_i hg
   injection hs with hs
   subst hs
   exact Zvp hg h
  ·cases hs
 | none=>
  simp only [Is] at hs
  split at hs
  ·rename_i c x y
   split at hs
   ·rename_i b hc
    split at hs
    ·rename_i z hz
     injection hs with hs
     subst hs
     cases b with
     | true=>exact Ztn hc hz h
     | false=>exact Zx7 hc hz h
    ·cases hs
   ·cases hs
  ·rename_i x
   split at hs
   ·rename_i z hz
    injection hs with hs
    subst hs
    exact Vg hz h
   ·cases hs
  ·cases hs
theorem Yec :∀(n:Nat) {ops ops':List AI} {σ σ':Sl} {i i':Nat},skp n ops σ i=some (ops',σ',i')->WO PG d id base i' ops' σ' st K->WO PG d id base i ops σ st K
 | 0,_,_,_,_,_,_,hs,h=>by
  injection hs with hs
  injection hs with h1 hs
  injection hs with h2 h3
  subst h1 h2 h3
  exact h
 | n+1,[],_,_,_,_,_,hs,_=>by cases hs
 | n+1,a::r,_,σ,_,_,_,hs,h=>by
  simp only [skp] at hs
  split at hs
  ·rename_i v hv
   exact Yd8 hv (Yec n hs h)
  ·cases hs
theorem z_ (n:Nat) {ops ops':List AI} {σ':Sl} {i':Nat} (hs:skp n ops σ i=some (ops',σ',i')) (h:WO PG d id base i' ops' σ' st K):WO PG d id base i ops σ st K:=Yec n hs h
theorem Zr {Q:AE->Sl->St->Prop} (h:Q .ret σ st):WO PG d id base i [] σ st fun σ st=>W PG d .ret σ st Q:=Gj (W.ret h)
variable {x y z u:Zq} {v v2 v3 v4 w w2 w3 w4:AV}
theorem Ys (h:x.ev σ=v) (s:v.strip=some w):AV.strips (Va σ [x])=some [w]:=sc h s sn
theorem Je (h:x.ev σ=v) (h2:y.ev σ=v2) (s:(AV.strips [v,v2])=some [w,w2]):AV.strips (Va σ [x,y])=some [w,w2]:=by
 rw [<- s];simp only [Va,h,h2]
theorem Tt (h:x.ev σ=v) (h2:y.ev σ=v2) (h3:z.ev σ=v3) (s:(AV.strips [v,v2,v3])=some [w,w2,w3]):AV.strips (Va σ [x,y,z])=some [w,w2,w3]:=by
 rw [<- s];simp only [Va,h,h2,h3]
theorem sc4 (h:x.ev σ=v) (h2:y.ev σ=v2) (h3:z.ev σ=v3) (h4:u.ev σ=v4) (s:(AV.strips [v,v2,v3,v4])=some [w,w2,w3,w4]):AV.strips (Va σ [x,y,z,u])=some [w,w2,w3,w4]:=by
 rw [<- s];simp only [Va,h,h2,h3,h4]
theorem x2 {α β:Type} {p:α->β->Prop} {c:Prop} (h :∃a b,p a b) (k :∀a b,p a b->c):c:=h.elim fun a h=>h.elim fun b h=>k a b h
theorem x1 {α:Type} {p:α->Prop} {c:Prop} (h :∃a,p a) (k :∀a,p a->c):c:=h.elim k
end
end Go.AM

namespace Go.AM
open Go Go.RowKit
def HasC (T:Vr):Nat->TypeId->List AV->Prop
 | 0,_,_=>False
 | f+1,t,vsA=>match T t with
  | some i=>match i.kind with
   | .int k=>∃n,vsA=[.i k n]/\k.min<=n/\n<=k.max
   | .bool=>∃b,vsA=[.b b]
   | .str=>∃s,vsA=[.s s]/\s.length<=maxLen
   | .sl e=>∃rows,vsA=[.sl .ext rows]/\rows.length<=maxLen/\(∀r∈rows,HasC T f e r)/\∀j,T e=some j->∀r∈rows,r.length=j.size
   | .st fs=>∀x∈fs,∃j,T x.1=some j/\HasC T f x.1 ((vsA.drop x.2).take j.size)
   | _=>False
  | none=>False
def Zaa (T:Vr):Nat->List (Nat × Nat)->Option Nat
 | off,[]=>some off
 | off,(t,o)::r=>match T t with
  | some i=>if o=off then Zaa T (off+i.size) r else none
  | none=>none
def Cl (T:Vr) (L:List Nat) (t:Nat):Bool:=
 match T t with
 | some i=>match i.kind with
  | .int _ | .bool | .str=>i.size==1
  | .sl e=>L.contains e&&(match T e with | some j=>decide (0<j.size) | none=>false)
  | .st fs=>(fs.all fun x=>L.contains x.1)&&Zaa T 0 fs==some i.size
  | _=>false
 | none=>false
def H0 (w:World):Hp:=fun g o=>match w.cell? ⟨g,o,none⟩ with | some v=>if v.oneCell' then some v else none | none=>none
theorem Ywk {w:World} {g o:Nat} {v:Value} (h:w.cell? ⟨g,o,none⟩=some v) (h1:v.oneCell'=true):H0 w g o=some v:=by
 simp only [H0,h,h1,jO]
theorem Yhc {w:World} {g o:Nat} {v:Value} (h:H0 w g o=some v):w.cell? ⟨g,o,none⟩=some v/\v.oneCell'=true:=by
 unfold H0 at h
 split at h
 ·rename_i v' hv
  split at h
  ·rename_i h1;cases h;exact ⟨hv,h1⟩
  ·cases h
 ·cases h
def Hr (w:World) (vsA:List AV) (cs:List Value):Prop:=vsA.length=cs.length/\∀(j:Nat) a u,vsA[j]?=some a->cs[j]?=some u->Fz (H0 w) a u/\a.one=true
theorem Hr.one {w:World} {a:AV} {u:Value} (h:Fz (H0 w) a u) (h1:a.one=true):Hr w [a] [u]:=by
 refine ⟨rfl,fun j x y hx hy=>?_⟩
 cases j with
 | zero=>simp at hx hy;subst hx;subst hy;exact ⟨h,h1⟩
 | succ j=>simp at hx
theorem Hr.append {w:World} {vsA bs:List AV} {cs ds:List Value} (h:Hr w vsA cs) (k:Hr w bs ds):Hr w (vsA++bs) (cs++ds):=by
 refine ⟨by simp [h.1,k.1],fun j x y hx hy=>?_⟩
 rcases jE j vsA.length with hj | hj
 ·rw [zR hj] at hx
  rw [zR (by rw [<- h.1];exact hj)] at hy
  exact h.2 j x y hx hy
 ·rw [zP hj] at hx
  rw [zP (by rw [<- h.1];exact hj),<- h.1] at hy
  exact k.2 _ x y hx hy
section
variable {H:Type} {enc:TypeId × Value->H} {P:Program} {T:Vr} {w:World} {base:Nat} {spare:Nat->Bool} {held:Bool} {L:List Nat}
theorem Zct (hT:Jh P T) {t:Nat} {i:TI} (h:T t=some i):P.cellsOf t=i.size:=by
 obtain ⟨ti,z,h1,h2,_⟩:=(hT t i h).info
 simp [Program.cellsOf,h1,h2]
theorem Ye2 (hT:Jh P T) {f:Nat} {cs:List Value}
  (ih :∀t,L.contains t=true->∀cs x,DataW.trod enc P w base spare held f t cs=some x->∃vsA,Hr w vsA cs/\HasC T f t vsA) :
  ∀(fs:List (Nat × Nat)) (fields:List Field) (off tot:Nat) xs,fields.map (fun g=>(g.type,g.offset))=fs->Zaa T off fs=some tot->tot=cs.length->(fs.all fun x=>L.contains x.1)=true->
   fields.mapM (fun g=>DataW.trod enc P w base spare held f g.type ((cs.drop g.offset).take (P.cellsOf g.type)))=some xs->
   off<=tot/\∃vsA,Hr w vsA (cs.drop off)/\∀x∈fs,off<=x.2/\∃j,T x.1=some j/\HasC T f x.1 ((vsA.drop (x.2-off)).take j.size)
 | [],fields,off,tot,xs,hf,hc,ht,_,_=>by
  cases hc
  refine ⟨kU _,[],⟨by simp [ht],by simp⟩,by simp⟩
 | (t,o)::fs,[],off,tot,xs,hf,hc,ht,_,_=>by cases hf
 | (t,o)::fs,g::fields,off,tot,xs,hf,hc,ht,hL,hm=>by
  simp only [kT,List.cons.injEq,Prod.mk.injEq] at hf
  obtain ⟨⟨rfl,rfl⟩,hf⟩:=hf
  unfold Zaa at hc
  split at hc
  case h_2=>cases hc
  rename_i i hi
  split at hc
  case isFalse=>cases hc
  rename_i ho
  simp only [List.all_cons,kL] at hL
  rw [List.mapM_cons] at hm
  simp only [Option.bind_eq_bind,jU,Option.pure_def,Option.some.injEq] at hm
  obtain ⟨x,h1,ys,h2,_⟩:=hm
  obtain ⟨hle,bs,hb1,hb2⟩:=Ye2 hT ih fs fields _ tot ys hf hc ht hL.2 h2
  rw [Zct hT hi] at h1
  obtain ⟨vsA,ha1,ha2⟩:=ih _ hL.1 _ _ h1
  have hsz:vsA.length=i.size:=by rw [ha1.1];simp;omega
  refine ⟨by omega,vsA++bs,?_,?_⟩
  ·have:=ha1.append hb1
   rw [ho] at this
   have e:(cs.drop off).take i.size++cs.drop (off+i.size)=cs.drop off:=by
    rw [<- List.drop_drop,yG]
   rwa [e] at this
  ·intro y hy
   rcases jF.1 hy with rfl | hy
   ·refine ⟨by simp [ho],i,hi,?_⟩
    simp only [ho,Nat.sub_self,zT]
    rw [<- hsz,List.take_left]
    exact ha2
   ·obtain ⟨h3,j,h4,h5⟩:=hb2 y hy
    refine ⟨by omega,j,h4,?_⟩
    have e:y.2-off=vsA.length+(y.2-(off+i.size)):=by omega
    rw [e,<- List.drop_drop,yU]
    exact h5
theorem Ln {a:Addr} {n:Nat} {cs:List Value} (h:w.cells? base a n=some cs):cs.length=n/\∀(i:Nat),i<n->w.cell? (a.add i)=cs[i]?:=by
 unfold World.cells? at h
 split at h
 case isFalse=>cases h
 have hl:=mapM_some_length h
 simp at hl
 refine ⟨hl,fun i hi=>?_⟩
 exact mapM_some_get h i i (by simp [hi])
theorem Yqt {k:IntKind} {n:Int} (h:(Lit.int k n).wf=true):k.min<=n/\n<=k.max:=by
 simp only [Lit.wf,kL,kV] at h
 exact h
theorem Yqf {f t:Nat} {cs:List Value} {x:DataW H × List MemPlace} {k:IntKind} (hk:P.underlying t=some (.int k)) (h:DataW.trod enc P w base spare held (f+1) t cs=some x) :∃n,cs=[.int k n]/\k.min<=n/\n<=k.max:=by
 unfold DataW.trod at h
 rw [hk] at h
 split at h
 all_goals rename_i heq
 all_goals first | (injection heq with heq;cases heq;done) | skip
 ·injection heq with heq
  injection heq with heq
  subst heq
  split at h
  ·rename_i hc
   obtain ⟨rfl,hw⟩:=hc
   exact ⟨_,rfl,Yqt hw⟩
  ·cases h
 ·cases h
theorem Ysg {f t:Nat} {cs:List Value} {x:DataW H × List MemPlace} (hk:P.underlying t=some .bool) (h:DataW.trod enc P w base spare held (f+1) t cs=some x) :∃b,cs=[.bool b]:=by
 unfold DataW.trod at h
 rw [hk] at h
 split at h
 all_goals rename_i heq
 all_goals first | (injection heq with heq;cases heq;done) | skip
 ·exact ⟨_,rfl⟩
 ·cases h
theorem Yoz {f t:Nat} {cs:List Value} {x:DataW H × List MemPlace} (hk:P.underlying t=some .string) (h:DataW.trod enc P w base spare held (f+1) t cs=some x) :∃s,cs=[.string s]/\s.size<=maxLen:=by
 unfold DataW.trod at h
 rw [hk] at h
 split at h
 all_goals rename_i heq
 all_goals first | (injection heq with heq;cases heq;done) | skip
 ·split at h
  ·exact ⟨_,rfl,by assumption⟩
  ·cases h
 ·cases h
theorem Yud {f t e:Nat} {cs:List Value} {x:DataW H × List MemPlace} (hk:P.underlying t=some (.slice e)) (h:DataW.trod enc P w base spare held (f+1) t cs=some x):cs=[.slice none 0 0]\/
  ∃a len cap,cs=[.slice (some a) len cap]/\len<=cap/\cap<=maxLen/\∀i,i<len->∃cs' y,w.cells? base (a.add (i*P.cellsOf e)) (P.cellsOf e)=some cs'/\DataW.trod enc P w base spare held f e cs'=some y:=by
 unfold DataW.trod at h
 rw [hk] at h
 split at h
 all_goals rename_i heq
 all_goals first | (injection heq with heq;cases heq;done) | skip
 ·exact .inl rfl
 ·injection heq with heq
  injection heq with heq
  subst heq
  refine .inr ⟨_,_,_,rfl,?_⟩
  simp only at h
  split at h
  case isFalse=>cases h
  rename_i hc
  refine ⟨hc.2.1,hc.2.2,fun i hi=>?_⟩
  rw [jU] at h
  obtain ⟨elems,h1,_⟩:=h
  have hl:=mapM_some_length h1
  simp at hl
  have:=mapM_some_get h1 i i (by simp [hi])
  rw [kH (by omega),jU] at this
  obtain ⟨cs',h2,h3⟩:=this
  exact ⟨cs',_,h2,h3⟩
 ·cases h
theorem Xbq {f t:Nat} {fs:Array Field} {cs:List Value} {x:DataW H × List MemPlace} (hk:P.underlying t=some (.struct fs)) (h:DataW.trod enc P w base spare held (f+1) t cs=some x):cs.length=P.cellsOf t/\∃xs,fs.toList.mapM (fun g=>DataW.trod enc P w base spare held f g.type ((cs.drop g.offset).take (P.cellsOf g.type)))=some xs:=by
 unfold DataW.trod at h
 rw [hk] at h
 split at h
 all_goals rename_i heq
 all_goals first | (injection heq with heq;cases heq;done) | skip
 ·injection heq with heq
  injection heq with heq
  subst heq
  split at h
  case isFalse=>cases h
  rename_i hc
  rw [kI] at h
  obtain ⟨xs,h1,_⟩:=h
  exact ⟨hc,xs,h1⟩
 ·simp_all
theorem Zqj {a:Addr} {n:Nat} (h:(w.cell? (a.add n)).isSome=true):a.add n=⟨a.block,a.off+n,none⟩:=by
 unfold Addr.add at h ⊢
 split
 ·rename_i hn
  rw [kD hn] at h
  subst hn
  cases ha:a.spot with
  | none=>cases a;cases ha;rfl
  | some x=>
   simp only [World.cell?] at h
   split at h
   ·simp [ha] at h
   ·cases h
 ·rfl
theorem Yz7 (hT:Jh P T) {f e:Nat} {j:TI} (hj:T e=some j) (hj0:0<j.size) (ih :∀cs x,DataW.trod enc P w base spare held f e cs=some x->∃vsA,Hr w vsA cs/\HasC T f e vsA) {a:Addr} {len cap:Nat} (h1:len<=cap)
  (h :∀i,i<len->∃cs' y,w.cells? base (a.add (i*P.cellsOf e)) (P.cellsOf e)=some cs'/\DataW.trod enc P w base spare held f e cs'=some y) :∃rows,Fz (H0 w) (.sl .ext rows) (.slice (some a) len cap)/\rows.length=len/\(∀r∈rows,HasC T f e r)/\∀r∈rows,r.length=j.size:=by
 rw [Zct hT hj] at h
 have hr :∀i,∃vsA,i<len->∃cs',w.cells? base (a.add (i*j.size)) j.size=some cs'/\Hr w vsA cs'/\HasC T f e vsA:=by
  intro i
  by_cases hi:i<len
  ·obtain ⟨cs',y,h2,h3⟩:=h i hi
   obtain ⟨vsA,h4,h5⟩:=ih cs' y h3
   exact ⟨vsA,fun _=>⟨cs',h2,h4,h5⟩⟩
  ·exact ⟨[],fun h=>absurd h hi⟩
 obtain ⟨g,hg⟩:=Classical.axiomOfChoice hr
 have hrows :∀(i:Nat) row,((List.range len).map g)[i]?=some row->i<len/\row=g i:=by
  intro i row hi
  rw [jR] at hi
  by_cases hl:i<len
  ·rw [yY hl] at hi
   simp at hi
   exact ⟨hl,hi.symm⟩
  ·rw [kR (by simp;omega)] at hi
   cases hi
 have addr :∀i o,i<len->o<j.size->∃v,w.cell? ⟨a.block,a.off+i*j.size+o,none⟩=some v/\∀x,(g i)[o]?=some x->Fz (H0 w) x v/\x.one=true:=by
  intro i o hi ho
  obtain ⟨cs',h2,h3,h4⟩:=hg i hi
  obtain ⟨h5,h6⟩:=Ln h2
  have h7:=h6 o ho
  have h8:cs'[o]?=some cs'[o]:=kH (by omega)
  have hx:=h6 0 (by omega)
  rw [kH (show 0<cs'.length by omega)] at hx
  have e0:(a.add (i*j.size)).add 0=a.add (i*j.size):=rfl
  rw [e0] at hx
  have e1:=Zqj (w:=w) (a:=a) (n:=i*j.size) (by rw [hx];rfl)
  rw [e1] at h7
  rw [h8] at h7
  have e2:=Zqj (w:=w) (a:=⟨a.block,a.off+i*j.size,none⟩) (n:=o) (by rw [h7];rfl)
  rw [e2] at h7
  exact ⟨_,h7,fun x hx=>h3.2 o x _ hx h8⟩
 refine ⟨(List.range len).map g,?_,by simp,?_,?_⟩
 ·have key:=Fz.sl (H:=H0 w) ((List.range len).map g) (some a) cap j.size a.block a.off (fun i o=>(w.cell? ⟨a.block,a.off+i*j.size+o,none⟩).getD undef) ?_ (by simpa using h1) ?_ ?_ ?_
  ·simpa using key
  ·intro hne
   have hl:0<len:=by
    rcases yI len with h | h
    ·subst h;exact absurd rfl hne
    ·exact h
   obtain ⟨cs',h2,h3,h4⟩:=hg 0 hl
   obtain ⟨h5,h6⟩:=Ln h2
   have hx:=h6 0 (by omega)
   rw [kH (show 0<cs'.length by omega)] at hx
   have e0:(a.add (0*j.size)).add 0=a.add (0*j.size):=rfl
   rw [e0,Nat.zero_mul] at hx
   have e1:=Zqj (w:=w) (a:=a) (n:=0) (by rw [hx];rfl)
   have e2:a.add 0=a:=rfl
   rw [e2] at e1
   rw [e1]
  ·intro i row hi
   obtain ⟨hl,rfl⟩:=hrows i row hi
   obtain ⟨cs',h2,h3,h4⟩:=hg i hl
   rw [h3.1,(Ln h2).1]
  ·intro i row o x hi hx
   obtain ⟨hl,rfl⟩:=hrows i row hi
   obtain ⟨cs',h2,h3,h4⟩:=hg i hl
   have ho:o<j.size:=by
    have:=(jT.1 hx).1
    rw [h3.1,(Ln h2).1] at this
    exact this
   obtain ⟨v,h5,h6⟩:=addr i o hl ho
   rw [h5]
   exact Ywk h5 (R.one (G:=⟨H0 w,fun _ _=>none,fun _ _=>none,fun _=>none,fun _=>none⟩) (.fz _ _ (h6 x hx).1) (h6 x hx).2)
  ·intro i row o x hi hx
   obtain ⟨hl,rfl⟩:=hrows i row hi
   obtain ⟨cs',h2,h3,h4⟩:=hg i hl
   have ho:o<j.size:=by
    have:=(jT.1 hx).1
    rw [h3.1,(Ln h2).1] at this
    exact this
   obtain ⟨v,h5,h6⟩:=addr i o hl ho
   simp only [h5,yV]
   exact (h6 x hx).1
 ·intro r hr
  obtain ⟨i,hi,rfl⟩:=yK.1 hr
  obtain ⟨cs',h2,h3,h4⟩:=hg i (by simpa using hi)
  exact h4
 ·intro r hr
  obtain ⟨i,hi,rfl⟩:=yK.1 hr
  obtain ⟨cs',h2,h3,h4⟩:=hg i (by simpa using hi)
  rw [h3.1,(Ln h2).1]
theorem Zye (hT:Jh P T) (hL :∀t,L.contains t=true->Cl T L t=true) :∀(f t:Nat),L.contains t=true->∀cs x,DataW.trod enc P w base spare held f t cs=some x->∃vsA,Hr w vsA cs/\HasC T f t vsA
 | 0,t,_,cs,x,h=>by cases h
 | f+1,t,ht,cs,x,h=>by
  have hok:=hL t ht
  unfold Cl at hok
  split at hok
  case h_2=>cases hok
  rename_i i hi
  have hk:=(hT t i hi).kind
  have ih:=Zye hT hL f
  have fin :∀{vsA},Hr w vsA cs->(match i.kind with
   | .int k=>∃n,vsA=[.i k n]/\k.min<=n/\n<=k.max
   | .bool=>∃b,vsA=[.b b]
   | .str=>∃s,vsA=[.s s]/\s.length<=maxLen
   | .sl e=>∃rows,vsA=[.sl .ext rows]/\rows.length<=maxLen/\(∀r∈rows,HasC T f e r)/\∀j,T e=some j->∀r∈rows,r.length=j.size
   | .st fs=>∀x∈fs,∃j,T x.1=some j/\HasC T f x.1 ((vsA.drop x.2).take j.size)
   | _=>False)->∃vsA,Hr w vsA cs/\HasC T (f+1) t vsA:=by
   intro vsA h1 h2
   refine ⟨vsA,h1,?_⟩
   unfold HasC
   rw [hi]
   exact h2
  revert hk hok fin
  generalize hkk:i.kind=kk
  cases kk with
  | int k=>
   intro hok hk fin
   obtain ⟨n,rfl,hn⟩:=Yqf hk h
   exact fin (.one (.i k n) rfl) ⟨n,rfl,hn⟩
  | bool=>
   intro hok hk fin
   obtain ⟨b,rfl⟩:=Ysg hk h
   exact fin (.one (.b b) rfl) ⟨b,rfl⟩
  | str=>
   intro hok hk fin
   obtain ⟨s,rfl,hs⟩:=Yoz hk h
   refine fin (.one (a:=.s s.data.toList) ?_ rfl) ⟨_,rfl,by simpa using hs⟩
   have e:s=⟨s.data.toList.toArray⟩:=by simp
   have:=Fz.s (H:=H0 w) s.data.toList
   rwa [<- e] at this
  | sl e=>
   intro hok hk fin
   simp only [kL] at hok
   obtain ⟨hLe,hj⟩:=hok
   split at hj
   case h_2=>cases hj
   rename_i j hj'
   rcases Yud hk h with rfl | ⟨a,len,cap,rfl,h1,h2,h3⟩
   ·refine fin (.one (a:=.sl .ext []) ?_ rfl) ⟨[],rfl,by simp,by simp,by simp⟩
    exact Fz.sl [] none 0 0 0 0 (fun _ _=>undef) (by simp) (by simp) (by simp) (by simp) (by simp)
   ·obtain ⟨rows,h4,h5,h6,h7⟩:=Yz7 hT hj' (zX hj) (ih e hLe) h1 h3
    exact fin (.one h4 rfl) ⟨rows,rfl,by omega,h6,fun j' hj2=>by rw [hj'] at hj2;cases hj2;exact h7⟩
  | arr n e=>intro hok;cases hok
  | st fs=>
   intro hok hk fin
   simp only [kL] at hok
   obtain ⟨fields,h1,h2,_⟩:=hk
   obtain ⟨h3,xs,h4⟩:=Xbq h1 h
   rw [Zct hT hi] at h3
   have hc:Zaa T 0 fs=some i.size:=by simpa using hok.2
   obtain ⟨_,vsA,h5,h6⟩:=Ye2 hT ih fs fields.toList 0 i.size xs h2 hc h3.symm hok.1 h4
   rw [zT] at h5
   refine fin h5 fun x hx=>?_
   obtain ⟨_,j,h7,h8⟩:=h6 x hx
   exact ⟨j,h7,by simpa using h8⟩
  | other=>intro hok;cases hok
  | ptr e=>intro hok;cases hok
  | uptr=>intro hok;cases hok
  | mp=>intro hok;cases hok
end
end Go.AM

namespace Go.AM
open Go Go.RowKit Go.ChangeShapes Go.WideShapes
def Hb (T:Vr) (t:TypeId) (a:AV):Prop:=
 match T t with
 | some i=>match i.kind with
  | .st _=>∃f vsA,a=.ag vsA/\vsA.length=i.size/\HasC T f t vsA
  | _=>∃f,HasC T f t [a]
 | none=>False
def Zka (T:Vr):List TypeId->List AV->Prop
 | [],[]=>True
 | t::ts,a::vsA=>Hb T t a/\Zka T ts vsA
 | _,_=>False
section
variable {H:Type} {enc:TypeId × Value->H} {P:Program} {X:Cx} {W:World} {L:List Nat}
def G0 (X:Cx) (W:World):Gh:=⟨H0 W,fun _ _=>none,fun _ _=>none,X.fm,fun _=>none⟩
theorem Xg2 (hgl:Mz X.fm W):Yp (G0 X W) W Zk W where
 bel:=⟨.refl _ _,hgl⟩
 ext:=fun g o v h=>Yhc h
 bx:=by intro k ver cs g h;cases h
 inj:=by intro k k' ver ver' cs cs' g h;cases h
 ow:=by intro k ver n h;cases h
 owinj:=by intro k k' ver ver' n n' g cap size cap' size' h;cases h
 fresh:=fun k ver _=>⟨rfl,rfl⟩
 bxT:=by intro k ver cs g hb h;cases h
 owT:=by intro k ver n hb h;cases h
 mp:=by intro b l h;cases h
theorem Yhl (hT:Jh P X.T) (hL :∀t,L.contains t=true->Cl X.T L t=true) {t:TypeId} (ht:L.contains t=true) {v:Value} {d:DataW H} {ps:List MemPlace} {b:Nat} {r:Reach} {held:Bool} {sp:Nat->Bool}
  (hval:Value.okWide P W r b t v) (hd:DataW.Trod enc P W 0 sp held t v d ps) :∃a,R (G0 X W) a v/\Hb X.T t a:=by
 obtain ⟨f,hf⟩:=hd
 obtain ⟨vsA,h1,h2⟩:=Zye hT hL f t ht _ _ hf
 have hok:=hL t ht
 unfold Cl at hok
 split at hok
 case h_2=>cases hok
 rename_i i hi
 have hk:=(hT t i hi).kind
 have plain:(∀us,v≠.agg us)->(∀fs,i.kind≠.st fs)->vsA.length=1->∃a,R (G0 X W) a v/\Hb X.T t a:=by
  intro hv hst hlen
  have hc:v.cells.toList=[v]:=by
   cases v with
   | agg us=>exact absurd rfl (hv us)
   | _=>rfl
  match vsA,hlen with
  | [a],_=>
   rw [hc] at h1
   refine ⟨a,.fz _ _ (h1.2 0 a v rfl rfl).1,?_⟩
   unfold Hb
   rw [hi]
   have key :∀kk:TK,(∀fs,kk≠.st fs)->(match kk with | .st _=>∃f vsA,a=.ag vsA/\vsA.length=i.size/\HasC X.T f t vsA | _=>∃f,HasC X.T f t [a]):=by
    intro kk hk
    cases kk with
    | st fs=>exact absurd rfl (hk fs)
    | int k=>exact ⟨f,h2⟩
    | bool=>exact ⟨f,h2⟩
    | str=>exact ⟨f,h2⟩
    | sl e=>exact ⟨f,h2⟩
    | arr n e=>exact ⟨f,h2⟩
    | other=>exact ⟨f,h2⟩
    | ptr e=>exact ⟨f,h2⟩
    | uptr=>exact ⟨f,h2⟩
    | mp=>exact ⟨f,h2⟩
   exact key i.kind hst
 have one :∀{vsA:List AV},Hr W vsA v.cells.toList->(∀us,v≠.agg us)->vsA.length=1:=by
  intro vsA h hv
  rw [h.1]
  cases v with
  | agg us=>exact absurd rfl (hv us)
  | _=>rfl
 generalize hkk:i.kind=kk at hk hok
 cases kk with
 | int k=>
  obtain ⟨n,rfl⟩:=okWide_int hk hval
  exact plain (by intro us h;cases h) (by rw [hkk];intro fs h;cases h) (one h1 (by intro us h;cases h))
 | bool=>
  obtain ⟨n,rfl⟩:=okWide_bool hk hval
  exact plain (by intro us h;cases h) (by rw [hkk];intro fs h;cases h) (one h1 (by intro us h;cases h))
 | str=>
  obtain ⟨n,rfl⟩:=okWide_string hk hval
  exact plain (by intro us h;cases h) (by rw [hkk];intro fs h;cases h) (one h1 (by intro us h;cases h))
 | sl e=>
  obtain ⟨a,l,c,rfl⟩:=okWide_slice hk hval
  exact plain (by intro us h;cases h) (by rw [hkk];intro fs h;cases h) (one h1 (by intro us h;cases h))
 | st fs=>
  obtain ⟨fields,hu,_⟩:=hk
  obtain ⟨cs,rfl,hcs⟩:=okWide_struct hu hval
  refine ⟨.ag vsA,?_,?_⟩
  ·have hsz:vsA.length=cs.toList.length:=h1.1
   have e:Value.agg cs=.agg cs.toList.toArray:=by simp
   rw [e]
   exact .ag vsA cs.toList hsz fun j a u ha hu=>.fz _ _ (h1.2 j a u ha hu).1
  ·unfold Hb
   rw [hi]
   simp only [hkk]
   refine ⟨f,vsA,rfl,?_,h2⟩
   rw [h1.1]
   simp only [Value.cells]
   rw [<- Zct hT hi,<- hcs]
   simp
 | arr n e=>simp at hok
 | other=>simp at hok
 | ptr e=>simp at hok
 | mp=>cases hok
 | uptr=>simp at hok
theorem Ydf (hT:Jh P X.T) (hL :∀t,L.contains t=true->Cl X.T L t=true) {b:Nat} {r:Reach} {held:Bool} {sp:Nat->Bool} :∀{ts:List TypeId} {vs:List Value} {ds:List (DataW H)} {ps:List MemPlace},(ts.all fun t=>L.contains t)=true->
  (∀(j:Nat) t v,ts[j]?=some t->vs[j]?=some v->Value.okWide P W r b t v)->DataW.TrodAll enc P W 0 sp held ts vs ds ps->∃vsA,Rs (G0 X W) vsA vs/\Zka X.T ts vsA
 | [],vs,ds,ps,_,_,h=>by
  obtain ⟨rfl,rfl,rfl⟩:=trodAll_nil h
  exact ⟨[],⟨rfl,by simp⟩,trivial⟩
 | t::ts,vs,ds,ps,ht,hv,h=>by
  obtain ⟨v,vs1,d,ds1,p,q,rfl,rfl,rfl,h1,h2⟩:=trodAll_cons h
  simp only [List.all_cons,kL] at ht
  obtain ⟨a,h3,h4⟩:=Yhl hT hL ht.1 (hv 0 t v rfl rfl) h1
  obtain ⟨vsA,h5,h6⟩:=Ydf hT hL ht.2 (fun j t v h1 h2=>hv (j+1) t v (by simpa using h1) (by simpa using h2)) h2
  refine ⟨a::vsA,⟨by simp [h5.1],fun j x u hx hu=>?_⟩,h4,h6⟩
  cases j with
  | zero=>simp at hx hu;subst hx;subst hu;exact h3
  | succ j=>exact h5.2 j x u (by simpa using hx) (by simpa using hu)
theorem Zs3 (hl:laidOutB P=true) {W':World} (hb:Below W.heap.size W W') :∀{ts:List TypeId} {vs:List Value} {ds:List (DataW H)} {ps:List MemPlace},(ts.all fun t=>P.readableRec t&&decide (t<P.types.size))=true->
  DataW.TrodAll enc P W 0 (fun _=>true) true ts vs ds ps->(∀x∈ps,x.block<W.heap.size)->DataW.TrodAll enc P W' 0 (fun b=>decide (b<W.heap.size)) true ts vs ds ps
 | [],vs,ds,ps,_,h,_=>by
  obtain ⟨rfl,rfl,rfl⟩:=trodAll_nil h
  exact trodAll_mk0
 | t::ts,vs,ds,ps,ht,h,hps=>by
  obtain ⟨v,vs1,d,ds1,p,q,rfl,rfl,rfl,h1,h2⟩:=trodAll_cons h
  simp only [List.all_cons,kL,kV] at ht
  exact trodAll_cons_mk (Below.trod hl ht.1.1 ht.1.2 h1 hb fun x hx=>hps x (List.mem_append_left _ hx)) (Zs3 hl hb ht.2 h2 fun x hx=>hps x (List.mem_append_right _ hx))
theorem Yao :∀{ts:List TypeId} {vs:List Value} {ds:List (DataW H)} {ps:List MemPlace} {sp:Nat->Bool} {held:Bool},DataW.TrodAll enc P W 0 sp held ts vs ds ps->∀x∈ps,x.block<W.heap.size
 | [],vs,ds,ps,_,_,h=>by
  obtain ⟨rfl,rfl,rfl⟩:=trodAll_nil h
  simp
 | t::ts,vs,ds,ps,_,_,h=>by
  obtain ⟨v,vs1,d,ds1,p,q,rfl,rfl,rfl,h1,h2⟩:=trodAll_cons h
  intro x hx
  rcases jB.1 hx with hx | hx
  ·obtain ⟨m,hm⟩:=h1
   exact DataW.trod_lt m _ _ _ hm x hx
  ·exact Yao h2 x hx
structure Zxm (P:Program) (X:Cx) (PG:Zb) (L:List Nat):Prop where
 T:Jh P X.T
 mixed:P.follows .mixedOrders=true
 fns:Zqv P X PG.fn
 orac:Ns P X PG
 oracS:Zdt P X PG
 types :∀t,L.contains t=true->Cl X.T L t=true
theorem Yq0 {PG:Zb} (h:Zxm P X PG L) {f c:Nat} (hfm:X.fm f=some c) {args:Array Value} (hen:(callFunc f args).run P W=.ok (.enter f args) W) {avs:List AV} (hR:Rs (G0 X W) avs args.toList) (hlaw:Ze PG c avs (.b true)) (hgl:Mz X.fm W:=by exact Mz.none (by kernel_rfl)) :
  Calls P f args W fun e W'=>e=.returned (.bool true)/\Below W.heap.size W W':=by
 obtain ⟨r,⟨st',n,hr⟩,hs⟩:=hlaw
 have hrb:r=.b true:=by
  cases r with
  | b x=>simpa [AV.strip] using hs
  | bf f cs=>simp [AV.strip] at hs
  | sl o rows=>simp [AV.strip] at hs
  | ag cs=>simp only [AV.strip] at hs;split at hs<;>cases hs
  | tup cs=>simp only [AV.strip] at hs;split at hs<;>cases hs
  | p k v o=>simp [AV.strip] at hs
  | fn f cap=>simp [AV.strip] at hs
  | i k n=>simp [AV.strip] at hs
  | s l=>simp [AV.strip] at hs
  | fp cs=>simp [AV.strip] at hs
  | np=>simp [AV.strip] at hs
  | nf=>simp [AV.strip] at hs
  | ni=>simp [AV.strip] at hs
  | u=>simp [AV.strip] at hs
  | mp=>simp [AV.strip] at hs
  | yl=>simp [AV.strip] at hs
 subst hrb
 have hg:=Zya h.T h.mixed h.fns h.orac h.oracS n 0 c avs Zk _ st' hr f hfm (G0 X W) W W args.toList rfl (Xg2 hgl) hR
 have ea:args.toList.toArray=args:=by simp
 rw [ea] at hg
 rcases hg with ⟨_,h2⟩ | ⟨v,w',h2,_⟩
 ·refine h2.mono fun e w' he=>?_
  cases e with
  | returned v=>
   obtain ⟨G',h3,h4⟩:=he
   exact ⟨by rw [h3.bool_inv],h4.rel.bel.bel⟩
  | panicked c=>exact he.elim
  | outgrown=>exact he.elim
 ·rw [hen] at h2
  cases h2
theorem Yb.of {f:Nat} {F:AF} {fn:Func} (h1:P.funcs[f]?=some fn) (h2:(fn.name== "runtime.NumGoroutine")=false) (h3:fn.body.bind (Uk { X with fz:=F.fz } F.nt)=some F.body) (h4:fn.ntmps=F.nt) (h5:Be X fn.results.toList=some F.res) (h6:Nat.ble F.res.length 4=true):Yb P X f F:=by
 rw [jU] at h3
 obtain ⟨code,h7,h8⟩:=h3
 exact ⟨fn,code,h1,h2,h7,h4,Nx.of h8,h5,kX h6⟩
theorem Yb.ofG {f:Nat} {F:AF} {fn:Func} {code:Code} (h1:P.funcs[f]?=some fn) (h2:(fn.name== "runtime.NumGoroutine")=false) (h3:fn.body=some code) (hg:Nx P X F code) (h4:fn.ntmps=F.nt) (h5:Be X fn.results.toList=some F.res) (h6:Nat.ble F.res.length 4=true):Yb P X f F:=
 ⟨fn,code,h1,h2,h3,h4,hg,h5,kX h6⟩
theorem Yb.enters {f:Nat} {F:AF} (h:Yb P X f F) (args:Array Value) (w:World):(callFunc f args).run P w=.ok (.enter f args) w:=by
 obtain ⟨fn,code,h1,h2,h3,_⟩:=h.ok
 exact Lu h1 h2 h3 args
def Zok (l:List (Nat × TI)):Vr:=fun t=>(l.find? fun x=>x.1==t).map (·.2)
theorem Yka {l:List (Nat × TI)} (h :∀x∈l,Wu P x.1 x.2):Jh P (Zok l):=by
 intro t i hi
 unfold Zok at hi
 rw [kI] at hi
 obtain ⟨x,h1,rfl⟩:=hi
 have h2:=List.find?_some h1
 have h3:=List.mem_of_find?_eq_some h1
 have:x.1=t:=by simpa using h2
 rw [<- this]
 exact h x h3
def Md (l:List (Nat × AF)):Nat->Option AF:=fun c=>(l.find? fun x=>x.1==c).map (·.2)
def Ej (l:List (Nat × Nat)):FM:=fun f=>(l.find? fun x=>x.1==f).map (·.2)
theorem Ylw {fm:List (Nat × Nat)} {fs:List (Nat × AF)} (h :∀x∈fm,∀F,Md fs x.2=some F->Yb P X x.1 F) (hX:X.fm=Ej fm):Zqv P X (Md fs):=by
 intro f c F hf hc
 rw [hX] at hf
 unfold Ej at hf
 rw [kI] at hf
 obtain ⟨x,h1,rfl⟩:=hf
 have h2:=List.find?_some h1
 have h3:=List.mem_of_find?_eq_some h1
 have:x.1=f:=by simpa using h2
 rw [<- this]
 exact h x h3 F hc
theorem Yyu {G:Gh} {w0 w:World} {st:St} {f:FuncId} {fn:Func} {d:Nat} (h1:P.funcs[f]?=some fn) (h2:(fn.name== "runtime.NumGoroutine")=false) (h3:fn.body.isNone=true) (h4:Extern.findNext fn=none) (h5:Extern.find fn=some Extern.BytealgIndexByte.indexByte)
  {s:List UInt8} {c:UInt8} {Yz:List Value} (hR:Yp G w0 st w) (hV:Rs G [.s s,.i .u8 (c.toNat:Int)] Yz):Mf P f Yz.toArray w fun v w'=>∃G',R G' (.i .i64 (Lib.indexByte s c)) v/\Vo G G' w0 st st w' d:=by
 have hlen:=hV.1
 match Yz,hlen with
 | [v1,v2],_=>
  have e1:=(hV.2 0 _ v1 rfl rfl).str_inv
  have e2:=(hV.2 1 _ v2 rfl rfl).int_inv
  subst e1;subst e2
  refine .inr ⟨.int .i64 (Lib.indexByte s c),w,?_,G,.fz _ _ (.i _ _),.refl hR⟩
  rw [run_callFunc_extern h1 h2 h3 h4 h5]
  have:=Lib.run_indexByteString (P:=P) ⟨s.toArray⟩ (c.toNat:Int) w
  rw [this]
  simp [Result.andThen]
end
end Go.AM
namespace Go.AM
open Go
theorem Wu.of {P:Program} {t:TypeId} {i:TI} {ti:TypeInfo} (h1:P.info? t=some ti) (h2:(Nat.beq ti.size i.size&&Nat.beq ti.bytes i.bytes)=true) (h3:(ti.zero.bind fun z=>if z.cells.size=i.size then Hz z.cells.toList else none)=some i.zero) (h4:i.kind.ok P t):Wu P t i:=by
 simp only [kL] at h2
 rw [jU] at h3
 obtain ⟨z,h5,h6⟩:=h3
 split at h6
 ·rename_i h7
  exact ⟨⟨ti,z,h1,zJ h2.1,zJ h2.2,h5,h6,h7⟩,h4⟩
 ·cases h6
theorem TK.ok_st {P:Program} {t:TypeId} {fs:List (Nat × Nat)} (h:((P.underlying t).bind fun d=>match d with | .struct f=>if (!P.stoodInHeld t&&!P.eqGuardType P.depth t&&f.toList.all (fun f=>!(f.name== "_")))=true then some (f.toList.map fun f=>(f.type,f.offset)) else none | _=>none)=some fs):TK.ok P t (.st fs):=by
 rw [jU] at h
 obtain ⟨d,h1,h2⟩:=h
 cases d with
 | struct f=>
  simp only at h2
  split at h2
  case isFalse=>cases h2
  rename_i h3
  simp only [kL,Bool.not_eq_true',zB] at h3
  simp only [Option.some.injEq] at h2
  exact ⟨f,h1,h2,h3.1.1,h3.1.2,h3.2⟩
 | _=>cases h2
end Go.AM

namespace Go.AM
open Go Go.RowKit Go.ChangeShapes
section
variable {T:Vr} {t:TypeId} {a:AV} {i:TI}
theorem Hb.plain (hi:T t=some i) (hk :∀fs,i.kind≠.st fs) (h:Hb T t a) :∃f,HasC T f t [a]:=by
 unfold Hb at h
 rw [hi] at h
 obtain ⟨kk,s1,s2,s3⟩:=i
 simp only at hk
 cases kk with
 | st fs=>exact absurd rfl (hk fs)
 | int k=>simpa only using h
 | bool=>simpa only using h
 | str=>simpa only using h
 | sl e=>simpa only using h
 | arr n e=>simpa only using h
 | other=>simpa only using h
 | ptr e=>simpa only using h
 | uptr=>simpa only using h
 | mp=>simpa only using h
theorem HasC.int {f:Nat} {vsA:List AV} {k:IntKind} (hi:T t=some i) (hk:i.kind=.int k) (h:HasC T f t vsA) :∃n,vsA=[.i k n]/\k.min<=n/\n<=k.max:=by
 cases f with
 | zero=>exact h.elim
 | succ f=>
  unfold HasC at h
  rw [hi] at h
  simp only [hk] at h
  exact h
theorem HasC.bool {f:Nat} {vsA:List AV} (hi:T t=some i) (hk:i.kind=.bool) (h:HasC T f t vsA) :∃b,vsA=[.b b]:=by
 cases f with
 | zero=>exact h.elim
 | succ f=>
  unfold HasC at h
  rw [hi] at h
  simp only [hk] at h
  exact h
theorem HasC.str {f:Nat} {vsA:List AV} (hi:T t=some i) (hk:i.kind=.str) (h:HasC T f t vsA) :∃s,vsA=[.s s]/\s.length<=maxLen:=by
 cases f with
 | zero=>exact h.elim
 | succ f=>
  unfold HasC at h
  rw [hi] at h
  simp only [hk] at h
  exact h
theorem HasC.sl {f e:Nat} {vsA:List AV} (hi:T t=some i) (hk:i.kind=.sl e) (h:HasC T f t vsA) :∃g rows,f=g+1/\vsA=[.sl .ext rows]/\rows.length<=maxLen/\(∀r∈rows,HasC T g e r)/\∀j,T e=some j->∀r∈rows,r.length=j.size:=by
 cases f with
 | zero=>exact h.elim
 | succ f=>
  unfold HasC at h
  rw [hi] at h
  simp only [hk] at h
  obtain ⟨rows,h1,h2,h3⟩:=h
  exact ⟨f,rows,rfl,h1,h2,h3⟩
theorem HasC.st {f:Nat} {vsA:List AV} {fs:List (Nat × Nat)} (hi:T t=some i) (hk:i.kind=.st fs) (h:HasC T f t vsA) :∃g,f=g+1/\∀x∈fs,∃j,T x.1=some j/\HasC T g x.1 ((vsA.drop x.2).take j.size):=by
 cases f with
 | zero=>exact h.elim
 | succ f=>
  unfold HasC at h
  rw [hi] at h
  simp only [hk] at h
  exact ⟨f,rfl,h⟩
theorem Hb.int {k:IntKind} (hi:T t=some i) (hk:i.kind=.int k) (h:Hb T t a) :∃n,a=.i k n/\k.min<=n/\n<=k.max:=by
 obtain ⟨f,h⟩:=h.plain hi (by rw [hk];intro fs h;cases h)
 obtain ⟨n,h1,h2⟩:=h.int hi hk
 injection h1 with h1
 exact ⟨n,h1,h2⟩
theorem Hb.bool (hi:T t=some i) (hk:i.kind=.bool) (h:Hb T t a) :∃b,a=.b b:=by
 obtain ⟨f,h⟩:=h.plain hi (by rw [hk];intro fs h;cases h)
 obtain ⟨n,h1⟩:=h.bool hi hk
 injection h1 with h1
 exact ⟨n,h1⟩
theorem Hb.str (hi:T t=some i) (hk:i.kind=.str) (h:Hb T t a) :∃s,a=.s s/\s.length<=maxLen:=by
 obtain ⟨f,h⟩:=h.plain hi (by rw [hk];intro fs h;cases h)
 obtain ⟨n,h1,h2⟩:=h.str hi hk
 injection h1 with h1
 exact ⟨n,h1,h2⟩
end
def On (P:Program) (X:Cx) (fs:List (Nat × AF)):List (Nat × Nat)->Prop
 | []=>True
 | x::r=>(∀F,Md fs x.2=some F->Yb P X x.1 F)/\On P X fs r
theorem On.all {P:Program} {X:Cx} {fs:List (Nat × AF)} :∀{l:List (Nat × Nat)},On P X fs l->∀x∈l,∀F,Md fs x.2=some F->Yb P X x.1 F
 | [],_,_,hx=>by cases hx
 | y::l,h,x,hx=>by
  rcases jF.1 hx with rfl | hx
  ·exact h.1
  ·exact On.all h.2 x hx
theorem Lf {l:List (Nat × Nat)} {f c:Nat} (h:Ej l f=some c):(f,c)∈l:=by
 unfold Ej at h
 rw [kI] at h
 obtain ⟨x,h1,rfl⟩:=h
 have h2:=List.find?_some h1
 have h3:=List.mem_of_find?_eq_some h1
 have:x.1=f:=by simpa using h2
 rw [<- this]
 exact h3
def Sp (k:Nat):Nat->List AV->Option AV:=fun c args=>
 if c=k then match args with
  | [.s s,.i .u8 n]=>if 0<=n/\n<256 then some (.i .i64 (Lib.indexByte s n.toNat.toUInt8)) else none
  | _=>none
 else none
theorem Yvf (k:Nat) (s:List UInt8) (c:UInt8):Sp k k [.s s,.i .u8 (c.toNat:Int)]=some (.i .i64 (Lib.indexByte s c)):=by
 have:=c.toNat_lt
 unfold Sp
 rw [kD rfl]
 simp only
 rw [kD ⟨by omega,by omega⟩]
 simp
theorem Xf6 {P:Program} {X:Cx} {fs:List (Nat × AF)} {k f0:Nat} {fn:Func} (hf :∀f,X.fm f=some k->f=f0) (h1:P.funcs[f0]?=some fn) (h2:(fn.name== "runtime.NumGoroutine")=false) (h3:fn.body.isNone=true) (h4:Extern.findNext fn=none) (h5:Extern.find fn=some Extern.BytealgIndexByte.indexByte):Ns P X { fn:=Md fs,orac:=Sp k }:=by
 intro f c hfc _ args r hr G w0 st w Yz d _ hR hV
 simp only [Sp] at hr
 split at hr
 case isFalse=>cases hr
 rename_i hc
 subst hc
 have:=hf f hfc
 subst this
 split at hr
 case h_2=>cases hr
 rename_i s n
 split at hr
 case isFalse=>cases hr
 rename_i hn
 cases hr
 have e:n=((n.toNat.toUInt8).toNat:Int):=by
  have:(n.toNat.toUInt8).toNat=n.toNat:=by simp;omega
  omega
 have hV':Rs G [.s s,.i .u8 ((n.toNat.toUInt8).toNat:Int)] Yz:=by rw [<- e];exact hV
 exact Yyu h1 h2 h3 h4 h5 hR hV'
section
variable {H:Type} {enc:TypeId × Value->H} {P:Program} {W:World}
theorem Zss {held:Bool} {sp:Nat->Bool} :∀{ts:List TypeId} {vs:List Value} {ds:List (DataW H)} {ps:List MemPlace},DataW.TrodAll enc P W 0 sp held ts vs ds ps->ds.length=ts.length
 | [],vs,ds,ps,h=>by
  obtain ⟨rfl,rfl,rfl⟩:=trodAll_nil h
  rfl
 | t::ts,vs,ds,ps,h=>by
  obtain ⟨v,vs1,d,ds1,p,q,rfl,rfl,rfl,h1,h2⟩:=trodAll_cons h
  simp [Zss h2]
theorem ds0 {α:Type} {ds:List α} (h:ds.length=0):ds=[]:=yM.1 h
end
theorem Xjb {α:Type} {x:α} {p:Prop} (h:(none:Option α)=some x):p:=by cases h
end Go.AM

namespace Go.AM
open Go Go.RowKit Go.Shelf Go.Proofs
theorem TK.ok_other {P:Program} {t:TypeId} (h:(match P.underlying t with | none=>false | some (.struct _)=>false | some (.array _ _)=>false | some _=>true)=true):TK.ok P t .other:=by
 show∃d,P.underlying t=some d/\(match d with | .struct _ | .array _ _=>False | _=>True)
 split at h
 ·cases h
 ·cases h
 ·cases h
 ·rename_i d h1 h2 h3
  refine ⟨d,h3,?_⟩
  split
  ·exact absurd rfl (h1 _)
  ·exact absurd rfl (h2 _ _)
  ·trivial
def Nu:Nat->List AV->Option AV:=fun c args=>
 if c=146 then (match args with | [x]=>some x | _=>none) else Sp 48 c args
def Ix:Nat->List AV->St->Option (AV × St):=fun c args st=>if c=105 then Tr args st else none
theorem Xag (s:List UInt8) (c:UInt8):Nu 48 [.s s,.i .u8 (c.toNat:Int)]=some (.i .i64 (Lib.indexByte s c)):=by
 unfold Nu
 rw [kA (by decide)]
 exact Yvf 48 s c
theorem Ywl (args:List AV):Nu 105 args=none:=by
 unfold Nu Sp
 rw [kA (by decide),kA (by decide)]
theorem Ysz (args:List AV) (st:St):Ix 105 args st=Tr args st:=rfl
section
variable {P:Program} {X:Cx}
theorem Yt5 {fs:List (Nat × AF)} (h48:Ns P X { fn:=Md fs,orac:=Sp 48 }) {f0:Nat} {fn:Func} (hf :∀f,X.fm f=some 146->f=f0) (h1:P.funcs[f0]?=some fn) (h2:(fn.name== "runtime.NumGoroutine")=false) (h3:fn.body.isNone=true) (h4:Extern.findNext fn=none) (h5:Extern.find fn=some Extern.AbiNoEscape.same):Ns P X ⟨Md fs,Nu,Ix⟩:=by
 intro f c hfc hfn args r hr G w0 st w Yz d hG hR hV
 simp only [Nu] at hr
 split at hr
 ·rename_i hc
  subst hc
  have:=hf f hfc
  subst this
  split at hr
  case h_2=>cases hr
  rename_i x
  cases hr
  have hlen:=hV.1
  match Yz,hlen with
  | [v1],_=>
   refine .inr ⟨v1,w,?_,G,hV.2 0 _ v1 rfl rfl,.refl hR⟩
   rw [run_callFunc_extern h1 h2 h3 h4 h5]
   have:=Lib.run_noEscape (P:=P) w v1
   rw [this]
   simp [Result.andThen]
 ·exact h48 f c hfc hfn args r hr G w0 st w Yz d hG hR hV
theorem orsB_ok {fs:List (Nat × AF)} {ρ:Ren} (L:Lays.n169 P ρ) (E:Builder.Extra P ρ) (hf :∀f,X.fm f=some 105->f=ρ.f 169) (hb:X.fm 1000000000000=some (ρ.t 72+1000000000)) (he:X.fm 1000000000001=some (ρ.t 5+1000000000)) {fn:Func} {code:Code} (h1:P.funcs[ρ.f 169]?=some fn) (h2:(fn.name== "runtime.NumGoroutine")=false) (h3:fn.body=some code):Zdt P X ⟨Md fs,Nu,Ix⟩:=by
 intro f c hfc _ args st r st' hr G w0 w Yz d hG hR hV
 simp only [Ix] at hr
 split at hr
 case isFalse=>cases hr
 rename_i hc
 subst hc
 have:=hf f hfc
 subst this
 have e1:Ui X.fm=ρ.t 72:=by unfold Ui;rw [hb];simp
 have e2:Bp X.fm=ρ.t 5:=by unfold Bp;rw [he];simp
 exact Yft L E e1.symm e2.symm (fun args w=>Lu h1 h2 h3 args) hr hG hR hV
end
end Go.AM

namespace Go.AM
open Go
abbrev Zc:=List UInt8
abbrev Bc:Zc:=[48,49,50,51,52,53,54,55,56,57,97,98,99,100,101,102]
theorem Gi:Wi=1099511627776:=rfl
theorem Wq:Qc=70368744177664:=rfl
theorem Ml {α:Type} {P:α->Int->Prop} (A:Nat->α) (n:Nat) (h1:P (A n) (n:Int)) (h2 :∀i:Nat,i<n->P (A (i+1)) ((i+1:Nat):Int)->P (A i) (i:Int)):P (A 0) 0:=by
 have key :∀m i:Nat,i+m=n->P (A i) (i:Int):=by
  intro m
  induction m with
  | zero=>intro i hi;simp only [yJ] at hi;subst hi;exact h1
  | succ m ih=>intro i hi;exact h2 i (by omega) (ih (i+1) (by omega))
 exact key n 0 (by omega)
theorem Xdi {P:Int->Prop} (n:Nat) (h1:P (n:Int)) (h2 :∀i:Nat,i<n->P ((i+1:Nat):Int)->P (i:Int)):P 0:=
 Ml (P:=fun _ i=>P i) (fun _=>()) n h1 h2
theorem Sa {i:Nat} (h:i<4611686018427387904):IntKind.i64.wrap ((i:Int)+1)=((i+1:Nat):Int):=by
 rw [Ws (by omega) (by omega)];omega
theorem De (i:Nat):((i:Int)).toNat=i:=rfl
def Kv (n:Nat):UInt8:=Bc.getD n 0
theorem Zpr {n:Nat} (h:n<16):Bc[n]?=some (Kv n):=by
 unfold Kv
 rw [zD,kH (by simpa using h)]
 rfl
def Jf (c:UInt8):Zc:=
 if c.toNat=34\/c.toNat=92 then [92,c] else if c.toNat=10 then [92,110] else if c.toNat<32\/126<c.toNat then [92,120,Kv (c.toNat / 16),Kv (c.toNat % 16)] else [c]
def Jw (s:Zc):Zc:=s.flatMap Jf
def quo (s:Zc):Zc:=34::(Jw s++[34])
theorem Zqn (c:UInt8):1<=(Jf c).length/\(Jf c).length<=4:=by
 unfold Jf
 split
 ·exact ⟨by simp,by simp⟩
 ·split
  ·exact ⟨by simp,by simp⟩
  ·split<;>exact ⟨by simp,by simp⟩
theorem Zk9 (s:Zc):(Jw s).length<=4*s.length:=by
 induction s with
 | nil=>exact kU _
 | cons c s ih=>
  have h:Jw (c::s)=Jf c++Jw s:=rfl
  rw [h,kF,kB]
  have:=Zqn c
  omega
theorem Bm (s:Zc):(quo s).length<=4*s.length+2:=by
 have:=Zk9 s
 simp only [quo,kB,kF,kG]
 omega
theorem Ymm {s:Zc} {i:Nat} (h:i<s.length):Jw (s.take (i+1))=Jw (s.take i)++Jf s[i]:=by
 rw [kK h]
 simp only [Jw,List.flatMap_append,List.flatMap_cons,List.flatMap_nil,zQ]
def ds (b:Nat):Nat->Nat->Zc
 | 0,_=>[]
 | f+1,n=>if n<b then [Kv n] else ds b f (n / b)++[Kv (n % b)]
theorem Lg (b:Nat) :∀f n,(ds b f n).length<=f
 | 0,_=>kU _
 | f+1,n=>by
  have:=Lg b f (n / b)
  unfold ds
  split
  ·simp
  ·simp;omega
def Jd (b n:Nat):Zc:=ds b 64 n
def Xe (n:Int):Zc:=if n<0 then 45::Jd 10 (-n).toNat else Jd 10 n.toNat
def Nz (s:Zc):Zc × Int:=if 400<s.length then ([],4) else (quo s,0)
def Dn (n:Nat) (l:List Zc):Bool:=l.any fun x=>decide (n<x.length)
theorem Ztd {n:Nat} {l:List Zc}:Dn n l=false ↔∀x∈l,x.length<=n:=by
 unfold Dn
 rw [xG]
 simp
def Vz (l:List Zc):Bool:=Dn 400 l||decide (64<l.length)
theorem Oe {n:Nat} (h:n<18446744073709551616):IntKind.u64.wrap (n:Int)=(n:Int):=Ah (by omega) (by omega)
end Go.AM

namespace Go.AM
open Go
def dv (b:Nat) (c:UInt8):Int:=Lib.indexByte (Bc.take b) c
theorem Im {b:Nat} (hb:b<=16) (c:UInt8):-1<=dv b c/\dv b c<b:=by
 have key :∀(l:Zc),-1<=Lib.indexByte l c/\(Lib.indexByte l c<l.length\/Lib.indexByte l c = -1):=by
  intro l
  induction l with
  | nil=>exact ⟨Int.le_refl _,.inr rfl⟩
  | cons x l ih=>
   unfold Lib.indexByte
   split
   ·simp
   ·split
    ·exact ⟨Int.le_refl _,.inr rfl⟩
    ·simp only [kB]
     omega
 have:=key (Bc.take b)
 unfold dv
 have hl:(Bc.take b).length=b:=by simp [hb]
 omega
theorem Xd9 :∀k:Fin 16,dv 16 (Kv k)=(k.val:Int):=by decide
theorem Ycg (c:UInt8) :∀(l:Zc),0<=Lib.indexByte l c->l[(Lib.indexByte l c).toNat]?=some c
 | [],h=>absurd h (show ¬ (0:Int)<=-1 by decide)
 | x::l,h=>by
  have ih:=Ycg c l
  unfold Lib.indexByte at h ⊢
  split
  ·rename_i hx
   have:x=c:=by simpa using hx
   subst this
   rfl
  ·rename_i hx
   rw [kA hx] at h
   split
   ·rename_i h1
    rw [kD h1] at h
    exact absurd h (by decide)
   ·rename_i h1
    rw [kA h1] at h
    have h2:=Lib.indexByte_ge l c
    have h3:Lib.indexByte l c≠-1:=by simpa using h1
    have h4:0<=Lib.indexByte l c:=by omega
    have h5:(Lib.indexByte l c+1).toNat=(Lib.indexByte l c).toNat+1:=by omega
    rw [h5,zK]
    exact ih h4
theorem Yby {b:Nat} (c:UInt8) (h:0<=dv b c):c=Kv (dv b c).toNat:=by
 have h1:=Ycg c (Bc.take b) h
 have h2:Bc[(dv b c).toNat]?=some c:=by
  have:=(jT.1 h1)
  obtain ⟨h3,h4⟩:=this
  rw [List.getElem_take] at h4
  exact jT.2 ⟨by rw [jI] at h3;exact zU h3 (Nat.min_le_right _ _),h4⟩
 unfold Kv
 rw [zD,h2]
 rfl
def Yz (b:Nat) (s:Zc):Nat:=s.foldl (fun n c=>n*b+(dv b c).toNat) 0
def Du (b:Nat) (s:Zc):Bool:=s.all fun c=>decide (0<=dv b c)
def Ro (b:Nat) (s:Zc):Bool:=decide (s=[])||!Du b s||(decide (1<s.length)&&decide (s.head?=some 48))
def rd (b most:Nat) (s:Zc):Nat × Int:=if Ro b s=true then (0,12) else if most<Yz b s then (0,16) else (Yz b s,0)
theorem Yhb {b:Nat} {s:Zc} {i:Nat} (h:i<s.length):Yz b (s.take (i+1))=Yz b (s.take i)*b+(dv b s[i]).toNat:=by
 unfold Yz
 rw [kK h,List.foldl_append]
 rfl
theorem Yjv {b:Nat} {s:Zc} {i:Nat} (h:i<s.length):Du b (s.take (i+1))=(Du b (s.take i)&&decide (0<=dv b s[i])):=by
 unfold Du
 rw [kK h,List.all_append]
 simp
theorem Yoo {b:Nat} {s:Zc} {i:Nat} (h:i<s.length) (hd:dv b s[i]<0):Du b s=false:=by
 unfold Du
 rw [List.all_eq_false]
 exact ⟨s[i],kP h,by simpa using hd⟩
theorem Xin {b most n d:Nat} (hb:0<b) (hd:d<=most):(most-d) / b<n↔most<n*b+d:=by
 rw [Nat.div_lt_iff_lt_mul hb]
 omega
def Cu:Zc->Option (UInt8 × Zc)
 | a::b::r=>if 0<=dv 16 a/\0<=dv 16 b/\(16*dv 16 a+dv 16 b).toNat≠10/\((16*dv 16 a+dv 16 b).toNat<32\/126<(16*dv 16 a+dv 16 b).toNat) then some (UInt8.ofNat (16*dv 16 a+dv 16 b).toNat,r) else none
 | _=>none
def Dq:Zc->Option (UInt8 × Zc)
 | []=>none
 | c::r=>if c.toNat=34\/c.toNat=92 then some (c,r) else if c.toNat=110 then some (10,r) else if c.toNat=120 then Cu r else none
def one:Zc->Option (UInt8 × Zc)
 | []=>none
 | c::r=>if c.toNat=34\/c.toNat<32\/126<c.toNat then none else if c.toNat=92 then Dq r else some (c,r)
theorem Do {a b:UInt8} (h:a.toNat=b.toNat):a=b:=UInt8.toNat_inj.1 h
theorem Zu1 {k:Nat} (h:k<16):dv 16 (Kv k)=(k:Int):=Xd9 ⟨k,h⟩
theorem Yol (c:UInt8) (r:Zc) (h:(Jf c++r).head?≠some 34):one (Jf c++r)=some (c,r):=by
 have hc:=c.toNat_lt
 unfold Jf at h ⊢
 split
 ·rename_i h1
  simp [one,Dq,h1]
 ·split
  ·rename_i h1 h2
   have:c=10:=Do h2
   subst this
   rfl
  ·split
   ·rename_i h1 h2 h3
    have e1:=Zu1 (k:=c.toNat / 16) (by omega)
    have e2:=Zu1 (k:=c.toNat % 16) (by omega)
    have e3:(16*((c.toNat / 16:Nat):Int)+((c.toNat % 16:Nat):Int)).toNat=c.toNat:=by omega
    simp only [kZ,zA,one,Dq,Cu,e1,e2,e3]
    rw [kA (by decide),kD (by decide),kA (by decide),kA (by decide),kD (by decide),kD ⟨by omega,by omega,h2,h3⟩]
    simp
   ·rename_i h1 h2 h3
    simp only [kZ,zA,one]
    rw [kA (by omega),kA (by omega)]
theorem Zpq {s:Zc} {c:UInt8} {r:Zc} (h:one s=some (c,r)):s=Jf c++r:=by
 cases s with
 | nil=>cases h
 | cons x s=>
  simp only [one] at h
  split at h
  ·cases h
  rename_i h1
  split at h
  ·rename_i h2
   have hx:x=92:=Do h2
   subst hx
   cases s with
   | nil=>cases h
   | cons y s=>
    simp only [Dq] at h
    split at h
    ·rename_i h3
     cases h
     unfold Jf
     rw [kD h3]
     rfl
    ·split at h
     ·rename_i h3 h4
      cases h
      have hy:y=110:=Do h4
      subst hy
      rfl
     ·split at h
      ·rename_i h3 h4 h5
       have hy:y=120:=Do h5
       subst hy
       match s,h with
       | a::b::r',h=>
        simp only [Cu] at h
        split at h
        ·rename_i h6
         obtain ⟨ha,hb,hv,hw⟩:=h6
         cases h
         have la:=Im (b:=16) (by omega) a
         have lb:=Im (b:=16) (by omega) b
         have hv256:(16*dv 16 a+dv 16 b).toNat<256:=by omega
         have en:(UInt8.ofNat (16*dv 16 a+dv 16 b).toNat).toNat=(16*dv 16 a+dv 16 b).toNat:=by
          simp;omega
         unfold Jf
         rw [en,kA (by omega),kA hv,kD hw]
         have e1:(16*dv 16 a+dv 16 b).toNat / 16=(dv 16 a).toNat:=by omega
         have e2:(16*dv 16 a+dv 16 b).toNat % 16=(dv 16 b).toNat:=by omega
         rw [e1,e2,<- Yby a ha,<- Yby b hb]
         rfl
        ·cases h
      ·cases h
  ·rename_i h2
   cases h
   unfold Jf
   rw [kA (by omega),kA (by omega),kA (by omega)]
   rfl
theorem Yx6 (c:UInt8):(Jf c).head?≠some 34:=by
 unfold Jf
 split
 ·simp
 ·split
  ·simp
  ·split
   ·simp
   ·rename_i h _ _
    simp
    intro he
    subst he
    exact h (.inl rfl)
theorem Ykw (c:UInt8):Jf c≠[]:=by
 intro h
 have:=(Zqn c).1
 rw [h] at this
 simp at this
theorem Ya3 (c:UInt8) (r:Zc):(Jf c++r).head?≠some 34:=by
 cases hc:Jf c with
 | nil=>exact absurd hc (Ykw c)
 | cons x l=>have:=Yx6 c;rw [hc] at this;simpa using this
theorem Ye4 {s:Zc} {c:UInt8} {r:Zc}:one s=some (c,r)↔s=Jf c++r:=
 ⟨Zpq,fun h=>by subst h;exact Yol c r (Ya3 c r)⟩
def Tp:Nat->Zc->Zc->Option (Zc × Zc)
 | 0,_,_=>none
 | n+1,out,s=>match s with
  | []=>none
  | c::r=>if c.toNat=34 then some (out,r) else match one (c::r) with
   | none=>none
   | some (x,r')=>Tp n (out++[x]) r'
def Ms:Zc->Option (Zc × Zc)
 | []=>none
 | c::r=>if c.toNat=34 then Tp (r.length+1) [] r else none
theorem Zsn {s:Zc} {c:UInt8} {r:Zc} (h:one s=some (c,r)):r.length<s.length:=by
 have h1:=Zpq h
 have h2:=(Zqn c).1
 rw [h1,kF]
 omega
theorem Yep :∀(n:Nat) (out s x r:Zc),s.length<n->(Tp n out s=some (x,r) ↔∃y,x=out++y/\s=Jw y++34::r)
 | 0,_,_,_,_,h=>absurd h (yE _)
 | n+1,out,[],x,r,h=>by
  refine ⟨fun h=>(by cases h),fun ⟨y,_,h2⟩=>?_⟩
  have:=jD List.length h2
  simp at this
 | n+1,out,c::s,x,r,h=>by
  unfold Tp
  simp only
  by_cases hc:c.toNat=34
  ·rw [kD hc]
   have hc':c=34:=Do hc
   subst hc'
   refine ⟨fun h=>?_,fun ⟨y,h1,h2⟩=>?_⟩
   ·cases h
    exact ⟨[],by simp,rfl⟩
   ·cases y with
    | nil=>
     have h2:(34:UInt8)::s=34::r:=h2
     injection h2 with _ h2
     rw [h1,h2,zQ]
    | cons a y=>
     have h2:(34:UInt8)::s=Jf a++Jw y++34::r:=h2
     rw [jC] at h2
     have:=Ya3 a (Jw y++34::r)
     rw [<- h2] at this
     exact absurd rfl this
  ·rw [kA hc]
   cases ho:one (c::s) with
   | none=>
    refine ⟨fun h=>(by cases h),fun ⟨y,h1,h2⟩=>?_⟩
    cases y with
    | nil=>
     have h2:c::s=34::r:=h2
     injection h2 with h2
     subst h2
     exact absurd rfl hc
    | cons a y=>
     have h2:c::s=Jf a++Jw y++34::r:=h2
     rw [jC] at h2
     have:=Ye4.2 h2
     rw [ho] at this
     cases this
   | some p=>
    obtain ⟨a,r'⟩:=p
    simp only
    have hl:=Zsn ho
    have ih:=Yep n (out++[a]) r' x r (by simp at h hl;omega)
    rw [ih]
    have hs:=Zpq ho
    refine ⟨fun ⟨y,h1,h2⟩=>⟨a::y,by rw [h1];simp,?_⟩,fun ⟨y,h1,h2⟩=>?_⟩
    ·rw [hs,h2]
     show _=Jf a++Jw y++34::r
     rw [jC]
    ·cases y with
     | nil=>
      have h2:c::s=34::r:=h2
      injection h2 with h2
      subst h2
      exact absurd rfl hc
     | cons b y=>
      have h2:c::s=Jf b++Jw y++34::r:=h2
      rw [jC] at h2
      have:=Ye4.2 h2
      rw [ho] at this
      cases this
      exact ⟨y,by rw [h1];simp,rfl⟩
theorem Xb2 {s x r:Zc}:Ms s=some (x,r)↔s=quo x++r:=by
 cases s with
 | nil=>
  refine ⟨fun h=>(by cases h),fun h=>?_⟩
  have:=jD List.length h
  simp [quo] at this
 | cons c s=>
  simp only [Ms,quo]
  by_cases hc:c.toNat=34
  ·have hc':c=34:=Do hc
   subst hc'
   rw [kD hc,Yep _ _ _ _ _ (kC _)]
   refine ⟨fun ⟨y,h1,h2⟩=>?_,fun h=>⟨x,by simp,?_⟩⟩
   ·simp only [zA] at h1
    subst h1
    rw [h2]
    simp
   ·simp only [kZ,jC,zA,List.cons.injEq,true_and] at h
    exact h
  ·rw [kA hc]
   refine ⟨fun h=>(by cases h),fun h=>?_⟩
   injection h with h
   subst h
   exact absurd rfl hc
def Wb (s:Zc):Int × Int:=
 if 2000<s.length then (0,4) else
 if s.take 1=[45] then
  if (rd 10 9223372036854775808 (s.drop 1)).2=0/\(rd 10 9223372036854775808 (s.drop 1)).1=0 then (0,12) else (-((rd 10 9223372036854775808 (s.drop 1)).1:Int),(rd 10 9223372036854775808 (s.drop 1)).2)
 else (((rd 10 9223372036854775807 s).1:Int),(rd 10 9223372036854775807 s).2)
theorem Zcn (b most:Nat) (s:Zc):(rd b most s).1<=most:=by
 unfold rd
 split
 ·exact yN _
 ·split
  ·exact yN _
  ·simp only;omega
theorem Xe6 {b most:Nat} {s:Zc} (h:(rd b most s).2≠0):(rd b most s).1=0:=by
 unfold rd at h ⊢
 split
 ·rfl
 ·rename_i h1
  rw [kA h1] at h
  split
  ·rfl
  ·rename_i h2
   rw [kA h2] at h
   exact absurd rfl h
def Nt (s:Zc):Zc × Int:=
 if 2000<s.length then ([],4) else
 match Ms s with
 | some (x,[])=>if 400<x.length then ([],4) else (x,0)
 | _=>([],12)
def Dh (s:Zc):Zc × Zc × Bool:=match Ms s with | some (x,r)=>(x,r,true) | none=>([],[],false)
end Go.AM

namespace Go.AM
open Go
theorem Xea :∀b:Fin 17,∀k:Fin 16,k.val<b.val->dv b.val (Kv k.val)=(k.val:Int):=by decide
theorem Zml {b k:Nat} (hb:b<=16) (hk:k<b):dv b (Kv k)=(k:Int):=Xea ⟨b,by omega⟩ ⟨k,by omega⟩ hk
theorem Ytg {k:Nat} (hk:k<16) (h:Kv k=48):k=0:=by
 have h1:=Zml (b:=16) (kU _) hk
 rw [h] at h1
 have h2:dv 16 48=0:=rfl
 omega
theorem Yl1 (b:Nat) (s:Zc) (c:UInt8):Yz b (s++[c])=Yz b s*b+(dv b c).toNat:=by
 unfold Yz
 rw [List.foldl_append]
 rfl
theorem Yl5 (b:Nat) (s:Zc) (c:UInt8):Du b (s++[c])=(Du b s&&decide (0<=dv b c)):=by
 unfold Du
 rw [List.all_append]
 simp
theorem Znb {b:Nat} (hb:2<=b) (hb':b<=16) :∀f n,n<b ^ f->0<f->Yz b (ds b f n)=n/\Du b (ds b f n)=true/\ds b f n≠[]/\((ds b f n).head?=some 48->n=0)/\(n=0->ds b f n=[48])
 | 0,_,_,h=>absurd h (zG _)
 | f+1,n,h,_=>by
  unfold ds
  by_cases hn:n<b
  ·rw [kD hn]
   have hd:=Zml hb' hn
   refine ⟨?_,?_,by simp,fun h1=>?_,fun h1=>by subst h1;rfl⟩
   ·show 0*b+(dv b (Kv n)).toNat=n
    omega
   ·show (decide (0<=dv b (Kv n))&&true)=true
    rw [hd]
    simp
   ·simp at h1
    exact Ytg (by omega) h1
  ·rw [kA hn]
   have h1:n / b<b ^ f:=by
    rw [Nat.div_lt_iff_lt_mul (by omega)]
    rw [Nat.pow_succ] at h
    exact h
   have h2:0<f:=by
    rcases yI f with rfl | h
    ·simp at h1
     have:=Nat.div_pos (show b<=n by omega) (by omega)
     omega
    ·exact h
   obtain ⟨i1,i2,i3,i4,i5⟩:=Znb hb hb' f (n / b) h1 h2
   have hr:n % b<b:=Nat.mod_lt _ (by omega)
   have hd:=Zml hb' hr
   have hq:=Nat.div_pos (show b<=n by omega) (show 0<b by omega)
   refine ⟨?_,?_,by simp,fun h3=>?_,fun h3=>absurd h3 (by omega)⟩
   ·rw [Yl1,i1,hd]
    have:=Nat.div_add_mod n b
    rw [yB] at this
    omega
   ·rw [Yl5,i2,hd,zN]
    exact kN (Int.natCast_nonneg _)
   ·rw [List.head?_append] at h3
    cases hh:(ds b f (n / b)).head? with
    | none=>exact absurd (List.head?_eq_none_iff.1 hh) i3
    | some c=>
     rw [hh] at h3
     simp at h3
     subst h3
     have:=i4 hh
     omega
theorem Zwy {b n:Nat} (hb:2<=b) (hn:n<18446744073709551616):n<b ^ 64:=
 zU hn (Nat.pow_le_pow_left hb 64)
theorem Yet {b most n:Nat} (hb:2<=b) (hb':b<=16) (hn:n<18446744073709551616) (hm:n<=most):rd b most (Jd b n)=(n,0):=by
 obtain ⟨h1,h2,h3,h4,h5⟩:=Znb hb hb' 64 n (Zwy hb hn) (by omega)
 have hbad:Ro b (Jd b n)=false:=by
  unfold Ro Jd
  rw [kM h3,h2]
  simp only [Bool.false_or,Bool.not_true]
  by_cases h6:(ds b 64 n).head?=some 48
  ·rw [h5 (h4 h6)]
   rfl
  ·rw [kM h6,Bool.and_false]
 unfold rd
 rw [kA (by rw [hbad];decide)]
 unfold Jd
 rw [h1,kA (by omega)]
theorem Pi {n:Int} (h1:-9223372036854775808<=n) (h2:n<9223372036854775808):Wb (Xe n)=(n,0):=by
 have hl:(Xe n).length<=65:=by
  unfold Xe
  split
  ·have:=Lg 10 64 (-n).toNat
   simp only [Jd,kB];omega
  ·have:=Lg 10 64 n.toNat
   simp only [Jd];omega
 unfold Wb
 rw [kA (by omega)]
 by_cases hn:n<0
 ·have e:Xe n=45::Jd 10 (-n).toNat:=by unfold Xe;rw [kD hn]
  have hr:=Yet (b:=10) (most:=9223372036854775808) (n:=(-n).toNat) (by omega) (by omega) (by omega) (by omega)
  rw [e,kD (show List.take 1 (45::Jd 10 (-n).toNat)=[45] from rfl),yF,zT,hr,kA (by simp only;omega)]
  simp only [Prod.mk.injEq,and_true]
  omega
 ·have e:Xe n=Jd 10 n.toNat:=by unfold Xe;rw [kA hn]
  have hr:=Yet (b:=10) (most:=9223372036854775807) (n:=n.toNat) (by omega) (by omega) (by omega) (by omega)
  have h45:¬ (Jd 10 n.toNat).take 1=[45]:=by
   intro h
   obtain ⟨_,k2,k3,_⟩:=Znb (b:=10) (by omega) (by omega) 64 n.toNat (Zwy (by omega) (by omega)) (by omega)
   unfold Jd at h
   cases hd:ds 10 64 n.toNat with
   | nil=>exact k3 hd
   | cons c r=>
    rw [hd] at h k2
    simp at h
    subst h
    unfold Du at k2
    simp only [List.all_cons,kL,kV] at k2
    exact absurd k2.1 (by decide)
  rw [e,kA h45,hr]
  simp only [Prod.mk.injEq,and_true]
  omega
theorem Ysk {s:Zc} (hs:s.length<=400):Nt (quo s)=(s,0):=by
 have hl:=Bm s
 unfold Nt
 rw [kA (by omega),Xb2.2 (show quo s=quo s++[] by simp)]
 simp only
 rw [kA (by omega)]
end Go.AM

namespace Go.AM
open Go
theorem Zjp {α:Type} {P:α->Int->Prop} (A:Nat->α) (n:Nat) (I:Nat->Prop) (h0:I 0) (h1:I n->P (A n) (n:Int)) (h2 :∀i:Nat,i<n->I i->(I (i+1)->P (A (i+1)) ((i+1:Nat):Int))->P (A i) (i:Int)):P (A 0) 0:=by
 have key :∀m i:Nat,i+m=n->I i->P (A i) (i:Int):=by
  intro m
  induction m with
  | zero=>intro i hi h;simp only [yJ] at hi;subst hi;exact h1 h
  | succ m ih=>intro i hi h;exact h2 i (by omega) h fun h'=>ih (i+1) (by omega) h'
 exact key n 0 (by omega) h0
theorem Fk {P:Int->Prop} (n:Nat) (I:Nat->Prop) (h0:I 0) (h1:I n->P (n:Int)) (h2 :∀i:Nat,i<n->I i->(I (i+1)->P ((i+1:Nat):Int))->P (i:Int)):P 0:=
 Zjp (P:=fun _ i=>P i) (fun _=>()) n I h0 h1 h2
theorem Wj {α:Type} {l:List α} {i:Nat} (h:i<l.length):l[((i:Int)).toNat]?=some l[i]:=by rw [De,kH h]
abbrev vz:Za:=Za.mk 0 0 [] [] false
theorem Za.eta (v:Za):v=Za.mk v.kind v.int v.text v.list v.cut:=by cases v;rfl
@[simp] theorem Za.kind_mk (k n:Int) (s:Zc) (l:List Za) (c:Bool):(Za.mk k n s l c).kind=k:=rfl
@[simp] theorem Za.int_mk (k n:Int) (s:Zc) (l:List Za) (c:Bool):(Za.mk k n s l c).int=n:=rfl
@[simp] theorem Za.text_mk (k n:Int) (s:Zc) (l:List Za) (c:Bool):(Za.mk k n s l c).text=s:=rfl
@[simp] theorem Za.list_mk (k n:Int) (s:Zc) (l:List Za) (c:Bool):(Za.mk k n s l c).list=l:=rfl
@[simp] theorem Za.cut_mk (k n:Int) (s:Zc) (l:List Za) (c:Bool):(Za.mk k n s l c).cut=c:=rfl
inductive Wf:Za->Prop
 | mk {k n:Int} {s:Zc} {l:List Za} {c:Bool} (hk:0<=k/\k<256) (hn:-9223372036854775808<=n/\n<9223372036854775808) (hl:l.length<=9223372036854775807) (h :∀x∈l,Wf x):Wf (.mk k n s l c)
theorem Wf.k {v:Za} (h:Wf v):0<=v.kind/\v.kind<256:=by cases h;assumption
theorem Wf.n {v:Za} (h:Wf v):-9223372036854775808<=v.int/\v.int<9223372036854775808:=by cases h;assumption
theorem Wf.l {v:Za} (h:Wf v):v.list.length<=9223372036854775807:=by cases h;assumption
theorem Wf.e {v:Za} (h:Wf v) :∀x∈v.list,Wf x:=by cases h;assumption
theorem Wf.zero:Wf vz:=.mk (by decide) (by decide) (by decide) (by simp)
mutual
def Za.nodes:Za->Nat
 | .mk _ _ _ l _=>1+Za.nodesL l
def Za.nodesL:List Za->Nat
 | []=>0
 | v::l=>Za.nodes v+Za.nodesL l
end
theorem Zpk (v:Za):v.nodes=1+Za.nodesL v.list:=by cases v;rw [Za.nodes];rfl
theorem Zll :∀l m:List Za,Za.nodesL (l++m)=Za.nodesL l+Za.nodesL m
 | [],m=>by simp [Za.nodesL]
 | v::l,m=>by rw [kZ,Za.nodesL,Za.nodesL,Zll l m];omega
theorem Zyn {l:List Za} {i:Nat} (h:i<l.length):Za.nodesL (l.take (i+1))=Za.nodesL (l.take i)+l[i].nodes:=by
 rw [kK h,Zll,Za.nodesL,Za.nodesL];rfl
theorem Yct {l:List Za} (i:Nat):Za.nodesL (l.take i)<=Za.nodesL l:=by
 have:=Zll (l.take i) (l.drop i)
 rw [yG] at this
 omega
theorem Ypn (v:Za):1<=v.nodes:=by rw [Zpk];omega
theorem Yyj {l:List Za} {v:Za} (h:v∈l):v.nodes<=Za.nodesL l:=by
 obtain ⟨i,hi,rfl⟩:=List.getElem_of_mem h
 have h1:=Zyn hi
 have h2:=Yct (l:=l) (i+1)
 omega
mutual
/-- The number that the reference counts. -/
def rN:Za->Nat
 | .mk _ _ _ l _=>Nh l 1
def Nh:List Za->Nat->Nat
 | [],n=>n
 | v::l,n=>if n<=5000 then Nh l (n+rN v) else n
end
mutual
theorem Ynh :∀v:Za,(v.nodes<=5000->rN v=v.nodes)/\(5000<v.nodes->5000<rN v)
 | .mk k n s l c=>by
  rw [rN,Za.nodes]
  have:=Yez l 1 (by omega)
  exact this
theorem Yez :∀(l:List Za) (n:Nat),n<=5000->(n+Za.nodesL l<=5000->Nh l n=n+Za.nodesL l)/\(5000<n+Za.nodesL l->5000<Nh l n)
 | [],n,hn=>by rw [Nh,Za.nodesL];omega
 | v::l,n,hn=>by
  rw [Nh,Za.nodesL,kD hn]
  obtain ⟨h1,h2⟩:=Ynh v
  by_cases h:n+rN v<=5000
  ·obtain ⟨h3,h4⟩:=Yez l (n+rN v) h
   have hv:v.nodes<=5000:=by
    rcases jE 5000 v.nodes with h5 | h5
    ·have:=h2 h5;omega
    ·exact h5
   have:=h1 hv
   omega
  ·have h5:Nh l (n+rN v)=n+rN v:=by
    cases l with
    | nil=>rw [Nh]
    | cons w l=>rw [Nh,kA h]
   rw [h5]
   have:=Ypn v
   rcases jE 5000 v.nodes with h6 | h6
   ·have:=h2 h6
    omega
   ·have:=h1 h6
    omega
end
def Yck:Nat->Za->Bool
 | 0,_=>true
 | d+1,v=>decide (100<v.text.length)||decide (400<v.list.length)||v.list.any (Yck d)
def Zkh (v:Za):Bool:=Yck 14 v||decide (400<rN v)
def Qe (k n:Int) (tl ll c:Nat):Prop:=
 (k=1/\ll=0/\c=0/\tl=0/\(n=0\/n=1))\/(k=2/\ll=0/\c=0/\tl=0)\/(k=3/\ll=0/\c=0/\n=0/\tl<=64)\/
 (k=4/\n=0/\tl=0/\ll<=1/\(c=0\/ll=0))\/(k=5/\n=0/\tl=0/\ll<=8/\c=0)\/(k=6/\n=0/\tl=0/\ll<=16/\1<=ll/\c=0)\/(k=7/\n=0/\tl=0/\ll<=16/\(c=0\/ll=0))
instance (k n:Int) (tl ll c:Nat):Decidable (Qe k n tl ll c):=by unfold Qe;infer_instance
abbrev Za.okh (v:Za):Prop:=Qe v.kind v.int v.text.length v.list.length v.cut.toNat
def Kt:Nat->Za->Bool
 | 0,_=>false
 | d+1,v=>decide v.okh&&v.list.all (Kt d)
theorem Re {d:Nat} {v:Za} (h:Kt d v=true):v.okh:=by
 cases d with
 | zero=>cases h
 | succ d=>simp only [Kt,kL,kV] at h;exact h.1
theorem Zf4 {d:Nat} {v:Za} (h:Kt (d+1) v=true) :∀x∈v.list,Kt d x=true:=by
 simp only [Kt,kL,zB] at h
 exact h.2
def Vh (v:Za):Bool:=Kt 130 v&&decide (v.nodes<=5000)
def Qv (d:Nat) (v:Za):Int × Bool:=if Kt d v=true/\v.nodes<=5000 then ((v.nodes:Int),true) else (0,false)
def Mu (v:Za):Int:=if Vh v=true then 0 else 8
def Qx:Zc:=[116,114,117,101]
def Qg:Zc:=[102,97,108,115,101]
def Qw:Zc:=[110,105,108]
def Ud:Zc:=[38,46,46,46]
def Um:Zc:=[60,46,46,46,62]
mutual
def Xg:Za->Zc
 | .mk k n s l c=>if k=1 then (if n=1 then Qx else Qg) else if k=2 then Xe n else if k=3 then quo s else
   if k=5 then 123::(Xb l++[125]) else if k=6 then 91::(Xb l++[93]) else if k=7 then (if c=true then Um else 60::(Xb l++[62])) else
   if c=true then Ud else if l.length=0 then Qw else 38::Xb l
def Xb:List Za->Zc
 | []=>[]
 | v::l=>Xg v++Ub l
def Ub:List Za->Zc
 | []=>[]
 | v::l=>44::32::(Xg v++Ub l)
end
theorem Cb (v:Za):Xg v=if v.kind=1 then (if v.int=1 then Qx else Qg) else if v.kind=2 then Xe v.int else if v.kind=3 then quo v.text else
   if v.kind=5 then 123::(Xb v.list++[125]) else if v.kind=6 then 91::(Xb v.list++[93]) else if v.kind=7 then (if v.cut=true then Um else 60::(Xb v.list++[62])) else
   if v.cut=true then Ud else if v.list.length=0 then Qw else 38::Xb v.list:=by cases v;rw [Xg];rfl
theorem Zng :∀l m:List Za,Ub (l++m)=Ub l++Ub m
 | [],m=>by simp [Ub]
 | v::l,m=>by rw [kZ,Ub,Ub,Zng l m];simp
theorem Xgb (l:List Za) (v:Za):Xb (l++[v])=Xb l++(if l.length>0 then [44,32] else [])++Xg v:=by
 cases l with
 | nil=>simp [Xb,Ub]
 | cons a l=>simp [Xb,Zng,Ub]
theorem Xer {l:List Za} {i:Nat} (h:i<l.length):Xb (l.take (i+1))=Xb (l.take i)++(if i>0 then [44,32] else [])++Xg l[i]:=by
 rw [kK h,Xgb]
 congr 2
 rw [jI]
 congr 1
 rw [eq_iff_iff]
 omega
theorem Zim (v:Za):Xb [v]=Xg v:=by simp [Xb,Ub]
theorem Kx (n:Int):(Xe n).length<=65:=by
 unfold Xe
 split
 ·have:=Lg 10 64 (-n).toNat;simp only [kB,Jd];omega
 ·have:=Lg 10 64 n.toNat;simp only [Jd];omega
theorem Zm2 :∀{d:Nat} {v:Za},Kt d v=true->(Xg v).length+2<=260*v.nodes
 | 0,v,h=>by cases h
 | d+1,v,h=>by
  have h1:=Re h
  have h2:=Zf4 h
  have hl :∀l:List Za,(∀x∈l,Kt d x=true)->(Ub l).length<=260*Za.nodesL l:=by
   intro l
   induction l with
   | nil=>intro _;simp [Ub]
   | cons x l ih=>
    intro hx
    have h3:=Zm2 (hx x jN)
    have h4:=ih fun y hy=>hx y (jL _ hy)
    rw [Ub,Za.nodesL]
    simp only [kB,kF]
    omega
  have hs:(Xb v.list).length<=260*Za.nodesL v.list:=by
   revert h2
   cases v.list with
   | nil=>intro _;simp [Xb]
   | cons x l=>
    intro hx
    have h3:=Zm2 (hx x jN)
    have h4:=hl l fun y hy=>hx y (jL _ hy)
    rw [Xb,Za.nodesL]
    simp only [kF]
    omega
  have h5:=Kx v.int
  have h6:=Bm v.text
  rw [Zpk,Cb]
  unfold Za.okh Qe at h1
  repeat' split
  all_goals try simp only [Qx,Qg,Qw,Ud,Um,kB,kF,kG]
  all_goals omega
theorem Cq {v:Za} (h:Vh v=true):(Xg v).length+2<=1300000:=by
 simp only [Vh,kL,kV] at h
 have:=Zm2 h.1
 omega
theorem Zlz (b n:Nat):Jd b n≠[]:=by
 unfold Jd
 rw [show 64=63+1 from rfl,ds]
 split<;>simp
theorem Ypg (n:Int):Xe n≠[]:=by
 unfold Xe
 split
 ·simp
 ·exact Zlz _ _
theorem Zto (v:Za):Xg v≠[]:=by
 rw [Cb]
 repeat' split
 all_goals first | exact Ypg _ | simp [Qx,Qg,Qw,Ud,Um,quo]
end Go.AM

namespace Go.AM
open Go Go.RowKit
section
variable {T:Vr}
structure Yxm (T:Vr) (t a b c d e:Nat):Prop where
 ht :∃i,T t=some i/\i.kind=.st [(a,0),(b,1),(c,2),(d,3),(e,4)]/\i.size=5
 ha :∃i,T a=some i/\i.kind=.int .u8/\i.size=1
 hb :∃i,T b=some i/\i.kind=.int .i64/\i.size=1
 hc :∃i,T c=some i/\i.kind=.str/\i.size=1
 hd :∃i,T d=some i/\i.kind=.sl t/\i.size=1
 he :∃i,T e=some i/\i.kind=.bool/\i.size=1
end
end Go.AM

namespace Go.AM
open Go Go.RowKit
def Jy (T:Vr) (k:IntKind) (t:Nat):Prop:=∃i,T t=some i/\i.kind=.int k/\i.size=1
def IsB (T:Vr) (t:Nat):Prop:=∃i,T t=some i/\i.kind=.bool/\i.size=1
def IsS (T:Vr) (t:Nat):Prop:=∃i,T t=some i/\i.kind=.str/\i.size=1
def Dd (T:Vr) (t e:Nat):Prop:=∃i,T t=some i/\i.kind=.sl e/\i.size=1
def Zb3 (T:Vr) (t:Nat):Prop:=∃a b c d e,Yxm T t a b c d e
def Dm (T:Vr) (t:Nat) (fs:List (Nat × Nat)) (n:Nat):Prop:=∃i,T t=some i/\i.kind=.st fs/\i.size=n
section
variable {T:Vr} {f t:Nat} {xs:List AV}
end
def Zmw (T:Vr) (t:Nat):Prop:=∃t0 t1,Dm T t [(t0,0),(t1,1)] 2/\IsS T t0/\Jy T .i64 t1
def Ydx (T:Vr) (t:Nat):Prop:=∃t0 t1 t2 t3,Dm T t [(t0,0),(t1,1),(t2,2),(t3,3)] 4/\Jy T .u8 t0/\Jy T .i64 t1/\Jy T .i64 t2/\Jy T .i64 t3
def Zmx (T:Vr) (t:Nat):Prop:=∃t0 t1,Dm T t [(t0,0),(t1,1)] 2/\Jy T .i64 t0/\Jy T .u64 t1
def Zw8 (T:Vr) (t:Nat):Prop:=∃t0 t1 t2 t3 e3,Dm T t [(t0,0),(t1,1),(t2,2),(t3,3)] 4/\Jy T .u8 t0/\Jy T .i64 t1/\Jy T .i64 t2/\Dd T t3 e3/\Zmw T e3
def Zvg (T:Vr) (t:Nat):Prop:=∃t0 t1 t2 t3 t4 t5 t6 e3 e4 e5 e6,Dm T t [(t0,0),(t1,1),(t2,2),(t3,3),(t4,4),(t5,5),(t6,6)] 7/\IsS T t0/\Jy T .i64 t1/\Jy T .i64 t2/\Dd T t3 e3/\Zmw T e3/\Dd T t4 e4/\Ydx T e4/\Dd T t5 e5/\Zmx T e5/\Dd T t6 e6/\Zmx T e6
def Yhg (T:Vr) (t:Nat):Prop:=∃t0 t1 t2 e0 e1 e2,Dm T t [(t0,0),(t1,1),(t2,2)] 3/\Dd T t0 e0/\Zw8 T e0/\Dd T t1 e1/\IsS T e1/\Dd T t2 e2/\Zvg T e2
def Ztz (T:Vr) (t:Nat):Prop:=∃t0 t1,Dm T t [(t0,0),(t1,1)] 6/\Jy T .i64 t0/\Zb3 T t1
def Ybj (T:Vr) (t:Nat):Prop:=∃t0 t1 t2 t3 e3,Dm T t [(t0,0),(t1,1),(t2,2),(t3,3)] 4/\Jy T .i64 t0/\Jy T .i64 t1/\Jy T .u64 t2/\Dd T t3 e3/\Ztz T e3
def Zyc (T:Vr) (t:Nat):Prop:=∃t0 t1 t2,Dm T t [(t0,0),(t1,1),(t2,6)] 7/\Jy T .u64 t0/\Zb3 T t1/\Jy T .u64 t2
def Zxt (T:Vr) (t:Nat):Prop:=∃t0 t1 t2 t3,Dm T t [(t0,0),(t1,1),(t2,2),(t3,3)] 8/\Jy T .i64 t0/\Jy T .i64 t1/\IsB T t2/\Zb3 T t3
def Zy9 (T:Vr) (t:Nat):Prop:=∃t0 t1 t2 t3 t4 e2 e3 e4,Dm T t [(t0,0),(t1,1),(t2,2),(t3,3),(t4,4)] 5/\Jy T .u8 t0/\Jy T .i64 t1/\Dd T t2 e2/\Ybj T e2/\Dd T t3 e3/\Zxt T e3/\Dd T t4 e4/\Zyc T e4
def Yl2 (T:Vr) (t:Nat):Prop:=∃t0 t1 t2 t3 e3,Dm T t [(t0,0),(t1,1),(t2,2),(t3,3)] 4/\Jy T .u8 t0/\Jy T .i64 t1/\Jy T .i64 t2/\Dd T t3 e3/\Zy9 T e3
end Go.AM

/- Helpers of the packed texts of a seat (pack.py, packk). -/
namespace Go.AM
open Go
section
variable {P:Program} {X:Cx}
theorem fK {f:Nat} {F:AF} {fn:Func} (h1:P.funcs[f]?=some fn) (h2:(fn.name== "runtime.NumGoroutine")=false:=by kernel_rfl) (h3:fn.body.bind (Uk { X with fz:=F.fz } F.nt)=some F.body:=by kernel_rfl) (h4:fn.ntmps=F.nt:=by kernel_rfl) (h5:Be X fn.results.toList=some F.res:=by kernel_rfl) (h6:Nat.ble F.res.length 4=true:=by kernel_rfl):Yb P X f F:=Yb.of h1 h2 h3 h4 h5 h6
theorem fS {F0:AF} {x:Option AF} {p:AF->Prop} {r:Prop} (h:x=some F0) (ok:p F0) (k:r):(∀F,x=some F->p F)/\r:=
 ⟨fun F e=>(by
  rw [h] at e
  injection e with e
  subst e
  exact ok),k⟩
theorem fN {x:Option AF} {p:AF->Prop} {r:Prop} (h:x=none) (k:r):(∀F,x=some F->p F)/\r:=
 ⟨fun F e=>(by rw [h] at e;cases e),k⟩
theorem tK {t:TypeId} {i:TI} (ti:TypeInfo) (h4:i.kind.ok P t) (h1:P.info? t=some ti:=by kernel_rfl) (h2:(Nat.beq ti.size i.size&&Nat.beq ti.bytes i.bytes)=true:=by kernel_rfl) (h3:(ti.zero.bind fun z=>if z.cells.size=i.size then Hz z.cells.toList else none)=some i.zero:=by kernel_rfl):Wu P t i:=Wu.of h1 h2 h3 h4
theorem tC {x:Nat × TI} {l:List (Nat × TI)} (h:Wu P x.1 x.2) (k :∀x∈l,Wu P x.1 x.2) :∀y∈x::l,Wu P y.1 y.2:=by
 intro y hy
 rcases jF.1 hy with rfl | hy
 ·exact h
 ·exact k y hy
theorem tN :∀y∈([]:List (Nat × TI)),Wu P y.1 y.2:=fun _ h=>by cases h
theorem kE {t:TypeId} {d:TypeDesc} (h:P.underlying t=some d:=by kernel_rfl):P.underlying t=some d:=h
theorem kS {t:TypeId} {fs:List (Nat × Nat)} (h:((P.underlying t).bind fun d=>match d with | .struct f=>if (!P.stoodInHeld t&&!P.eqGuardType P.depth t&&f.toList.all (fun f=>!(f.name== "_")))=true then some (f.toList.map fun f=>(f.type,f.offset)) else none | _=>none)=some fs:=by kernel_rfl):TK.ok P t (.st fs):=TK.ok_st h
theorem kO {t:TypeId} (h:(match P.underlying t with | none=>false | some (.struct _)=>false | some (.array _ _)=>false | some _=>true)=true:=by kernel_rfl):TK.ok P t .other:=TK.ok_other h
end
end Go.AM

namespace Go.AM
open Go Go.RowKit
theorem Yge {w:World} {a:Addr} {v:Value} (h:w.cell? a=some v):a.block<w.heap.size:=by
 unfold World.cell? at h
 split at h
 ·rename_i hb;exact (zO.1 hb).1
 ·cases h
variable {H:Type} {enc:TypeId × Value->H}
theorem Yj0 {a:Assume} {C:Checked} {os:Os} {f:FuncId} {fn:Func} {s:ChangeSpec} {conds:List PathCond} {apart fresh handsOn again:Bool} {X:World->Array Value->Prop}
  (own:ownKnob C.prog.godebug=none) (started:os.Started) (noInit:C.prog.inits.idxOf? f=none) (hfn:C.prog.funcs[f]?=some fn)
  (witness :∃(w:World) (tape:Tape) (i:Input),w.os=os/\(w.forCall tape i).Shaped C.prog/\i.vars=[]/\Input.okWide C.prog (w.forCall tape i) .any w.heap.size f i/\
   ((s.pre enc C.prog fn conds apart (w.forCall tape i).memory i.args/\X (w.forCall tape i).memory i.args)/\sizedMet enc C.prog fn (OpenSpec.ofChange s) apart (w.forCall tape i).memory i.args)/\a.holds C.prog (lone (Frame.enter C.prog f i.args .normal) [] (w.forCall tape i)))
  (contract :∀(W:World) (base:Nat) (args:Array Value) (ds gs:List (DataW H)) (before:List MemPlace),
   (∀(j:Nat) t v,fn.params[j]?=some t->args[j]?=some v->Value.okWide C.prog W .any base t v)->
   DataW.Whole enc C.prog fn.params.toList s.vars apart W args.toList ds gs before->
   W.ShapedOpen C.prog->
   Calls C.prog f args W fun e W'=>∃v,e=.returned v/\s.post enc C.prog fn apart fresh handsOn again W args v W') :
  ReturnsInHanded a C os f .any (fun w args=>(s.pre enc C.prog fn conds apart w args/\X w args)/\sizedMet enc C.prog fn (OpenSpec.ofChange s) apart w args) (s.post enc C.prog fn apart fresh handsOn again):=by
 refine returnsInHanded_of_calls own started noInit witness ?_
 intro w tape i _ hsh _ hok hpre _
 obtain ⟨_,_,_,fn',hfn',_,_,_,_,hval⟩:=hok
 have e:fn'=fn:=Option.some.inj (hfn'.symm.trans hfn)
 subst e
 obtain ⟨⟨⟨ds,gs,before,hw,_⟩,_⟩,_⟩:=hpre
 have hw':=DataW.Whole.of_heap (w':=w.forCall tape i) (by rfl) hw
 refine (contract (w.forCall tape i) w.heap.size i.args ds gs before hval hw' hsh).mono fun e W' ⟨v,he,hp⟩=>?_
 subst he
 exact ChangeSpec.post_blind hp
end Go.AM

namespace Go.AM
open Go Go.RowKit Go.Shelf
def Zi1 (f:Func):Code:=f.body.getD .skip
def Zcr (w:World) (L:List (List UInt8)) (e:Ending) (w':World):Prop:=
 ∃(l:List ByteArray) (cs:Array Value) (cap:Nat) (t:TypeId),e=.returned (.slice (some ⟨w.heap.size,0,none⟩) l.length cap)/\w'=w.alloc (.cells cs t)/\l.length<=cap/\(∀(q:Nat) x,l[q]?=some x->cs[q]?=some (.string x))/\l.map (·.data.toList)=L
theorem Zz7 {G:Gh} {w0 w:World} {st:St} {d:Nat} (hR:Yp G w0 st w) {l:List ByteArray} {cs:Array Value} {cap:Nat} {t:TypeId} (hcap:l.length<=cap) (hcs :∀(q:Nat) x,l[q]?=some x->cs[q]?=some (.string x)) :
  ∃G',R G' (.sl .ext ((l.map (·.data.toList)).map Zt)) (.slice (some ⟨w.heap.size,0,none⟩) l.length cap)/\Vo G G' w0 st st (w.alloc (.cells cs t)) d:=by
 have hlen:((l.map (·.data.toList)).map Zt).length=l.length:=by simp
 have hrow :∀(i:Nat) row,((l.map (·.data.toList)).map Zt)[i]?=some row->∃x,l[i]?=some x/\row=[.s x.data.toList]:=by
  intro i row h
  simp only [jR,kI] at h
  obtain ⟨y,⟨x,h1,rfl⟩,rfl⟩:=h
  exact ⟨x,h1,rfl⟩
 obtain ⟨h1,h2⟩:=Zlu (w1:=w) hR (rows:=(l.map (·.data.toList)).map Zt) (size:=1) (us:=fun i _=>.string (l.getD i ByteArray.empty)) (cs:=cs) (e:=t) (cap:=cap) (d:=d) (site:=0) (ver:=st.nx)
  (fun row h=>by
   obtain ⟨i,hi,rfl⟩:=List.mem_iff_getElem.1 h
   obtain ⟨x,_,e⟩:=hrow i _ (kH hi)
   rw [e];rfl)
  (fun i row j a h1 h2=>by
   obtain ⟨x,hx,rfl⟩:=hrow i row h1
   cases j with
   | zero=>
    simp only [yL,Option.some.injEq] at h2
    subst h2
    have:l.getD i ByteArray.empty=x:=by simp [zD,hx]
    rw [this]
    exact .s x.data.toList
   | succ j=>simp at h2)
  (fun i row j a h1 h2=>rfl)
  (fun q v hq=>by
   rw [Dt] at hq
   split at hq
   ·rename_i hlt
    cases hq
    rw [hlen] at hlt
    have hq:q<l.length:=by omega
    rw [Nat.div_one,hcs q _ (kH hq)]
    simp [zD,kH hq]
   ·cases hq) rfl (Below.refl _ _) (by rw [hlen];exact hcap)
 rw [hlen] at h1 h2
 exact ⟨_,.fz _ _ h2,(Vo.refl hR).step h1 (kU _)⟩
variable {P:Program} {ρ:Ren}
theorem Yut (L:Proofs.Lays.n146 P ρ) (hi9:(P.info? (ρ.t 9)).map (fun i=>(i.zero,i.size,i.bytes))=some (some (.string ByteArray.empty),1,16)) (s:List UInt8) (m:Int) (w:World) (hs:s.length<4294967281) (hm:w.cell? ⟨(ρ.g 1),0,none⟩=some (.int .i64 m)) :
  Calls P (ρ.f 146) #[.string ⟨s.toArray⟩,.string ⟨#[10]⟩] w (Zcr w (Lib.split s [10])):=by
 refine (Go.Proofs.Any.strings_Split L hi9 ⟨s.toArray⟩ ⟨#[10]⟩ m w hs hm (by decide)).mono fun e w' ⟨h1,h2⟩=>?_
 have hl:=Lib.splitB_all ⟨#[10]⟩ (by decide) 0 _ ⟨s.toArray⟩ rfl
 refine ⟨Lib.splitB ⟨#[10]⟩ 0 (Lib.countB ⟨s.toArray⟩ ⟨#[10]⟩) ⟨s.toArray⟩,_,_,_,by rw [h1,hl],h2,Nat.le_of_eq hl,fun q x hq=>?_,?_⟩
 ·simp only [zM,jR,hq,kJ]
 ·rw [Lib.splitB_data];rfl
theorem Ypa (L:Proofs.Lays.n147 P ρ) (hi9:(P.info? (ρ.t 9)).map (fun i=>(i.zero,i.size,i.bytes))=some (some (.string ByteArray.empty),1,16)) (s:List UInt8) (m:Int) (w:World) (hs:s.length<4294967281) (hm:w.cell? ⟨(ρ.g 1),0,none⟩=some (.int .i64 m)) :
  Calls P (ρ.f 147) #[.string ⟨s.toArray⟩,.string ⟨#[32]⟩,.int .i64 4] w (Zcr w (Lib.splitN s [32] 4)):=by
 refine (Go.Proofs.Any.strings_SplitN L hi9 ⟨s.toArray⟩ ⟨#[32]⟩ 4 m w hs hm (by decide) (by decide) (by decide)).mono fun e w' ⟨h1,h2⟩=>?_
 have hl:=Lib.splitB_length_le ⟨#[32]⟩ 0 (min 4 (s.length+1)-1) ⟨s.toArray⟩
 refine ⟨Lib.splitB ⟨#[32]⟩ 0 (min 4 (s.length+1)-1) ⟨s.toArray⟩,_,_,_,h1,h2,?_,fun q x hq=>?_,?_⟩
 ·show _<=min 4 (s.length+1)
  omega
 ·unfold Lib.cellsOf
  have hlt:q<(Lib.splitB ⟨#[32]⟩ 0 (min 4 (s.length+1)-1) ⟨s.toArray⟩).length:=by
   rcases jE q (Lib.splitB ⟨#[32]⟩ 0 (min 4 (s.length+1)-1) ⟨s.toArray⟩).length with h | h
   ·exact h
   ·rw [kR h] at hq;cases hq
  rw [zM,zR (by rw [zC];exact hlt),jR]
  exact jD (Option.map Value.string) hq
 ·rw [Lib.splitB_data];rfl
def Hd:Nat->List AV->Option AV:=fun c args=>
 if c=304 then (match args with | [.s s,.s [10]]=>if s.length<=1000000000 then some (.sl .ext ((Lib.split s [10]).map Zt)) else none | _=>none)
 else if c=323 then (match args with | [.s s,.s [32],.i .i64 4]=>if s.length<=1000000000 then some (.sl .ext ((Lib.splitN s [32] 4).map Zt)) else none | _=>none)
 else if c=197 then (match args with | [.s s,.s p]=>if s.length<=1000000000 then some (.i .i64 (Lib.index s p)) else none | _=>none)
 else Nu c args
theorem Yyb (s:List UInt8) (h:s.length<=1000000000):Hd 304 [.s s,.s [10]]=some (.sl .ext ((Lib.split s [10]).map Zt)):=by
 unfold Hd
 rw [kD rfl]
 simp only
 rw [kD h]
theorem Ygk (s:List UInt8) (h:s.length<=1000000000):Hd 323 [.s s,.s [32],.i .i64 4]=some (.sl .ext ((Lib.splitN s [32] 4).map Zt)):=by
 unfold Hd
 rw [kA (by decide),kD rfl]
 simp only
 rw [kD h]
theorem Yu8 (s p:List UInt8) (h:s.length<=1000000000):Hd 197 [.s s,.s p]=some (.i .i64 (Lib.index s p)):=by
 unfold Hd
 rw [kA (by decide),kA (by decide),kD rfl]
 simp only
 rw [kD h]
theorem Xao (s:List UInt8) (c:UInt8):Hd 48 [.s s,.i .u8 (c.toNat:Int)]=some (.i .i64 (Lib.indexByte s c)):=by
 unfold Hd
 rw [kA (by decide),kA (by decide),kA (by decide)]
 exact Xag s c
theorem Yho (k:Zo) (v:Nat):Hd 146 [.p k v 0]=some (.p k v 0):=rfl
theorem Ysq (args:List AV):Hd 105 args=none:=by
 unfold Hd
 rw [kA (by decide),kA (by decide),kA (by decide)]
 exact Ywl args
variable {X:Cx} {fn:Nat->Option AF} {orc:Nat->List AV->St->Option (AV × St)}
theorem Xh6 (hB:Ns P X ⟨fn,Nu,orc⟩) {f1 f2 f3 g:Nat} (hg:X.fm 1000000000004=some g)
  (h1 :∀f,X.fm f=some 304->f=f1) (e1 :∀args w,(callFunc f1 args).run P w=.ok (.enter f1 args) w)
  (c1 :∀(s:List UInt8) (m:Int) (w:World),s.length<4294967281->w.cell? ⟨g-1000000000,0,none⟩=some (.int .i64 m)->Calls P f1 #[.string ⟨s.toArray⟩,.string ⟨#[10]⟩] w (Zcr w (Lib.split s [10])))
  (h2 :∀f,X.fm f=some 323->f=f2) (e2 :∀args w,(callFunc f2 args).run P w=.ok (.enter f2 args) w)
  (c2 :∀(s:List UInt8) (m:Int) (w:World),s.length<4294967281->w.cell? ⟨g-1000000000,0,none⟩=some (.int .i64 m)->Calls P f2 #[.string ⟨s.toArray⟩,.string ⟨#[32]⟩,.int .i64 4] w (Zcr w (Lib.splitN s [32] 4)))
  (h3 :∀f,X.fm f=some 197->f=f3) (e3 :∀args w,(callFunc f3 args).run P w=.ok (.enter f3 args) w)
  (c3 :∀(s p:ByteArray) (m:Int) (w:World),s.size<4294967281->w.cell? ⟨g-1000000000,0,none⟩=some (.int .i64 m)->Calls P f3 #[.string s,.string p] w fun e w'=>e=.returned (.int .i64 (Lib.index s.data.toList p.data.toList))/\w'=w):Ns P X ⟨fn,Hd,orc⟩:=by
 intro f c hfc hn args r hr G w0 st w Yz d hG hR hV
 obtain ⟨_,m,hm⟩:=hR.bel.here.glob g (by rw [hG];exact hg)
 simp only [Hd] at hr
 split at hr
 ·rename_i hc
  subst hc
  obtain rfl:=h1 f hfc
  split at hr
  case h_2=>cases hr
  rename_i s
  split at hr
  case isFalse=>cases hr
  rename_i hs
  cases hr
  have hlen:=hV.1
  match Yz,hlen with
  | [u1,u2],_=>
   have k1:=(hV.2 0 _ u1 rfl rfl).str_inv
   have k2:=(hV.2 1 _ u2 rfl rfl).str_inv
   subst k1;subst k2
   refine .inl ⟨e1 _ _,(c1 s m w (by omega) hm).mono fun e w' he=>?_⟩
   obtain ⟨l,cs,cap,t,rfl,rfl,hcap,hcs,hl⟩:=he
   rw [<- hl]
   exact Zz7 hR hcap hcs
 split at hr
 ·rename_i hc
  subst hc
  obtain rfl:=h2 f hfc
  split at hr
  case h_2=>cases hr
  rename_i s
  split at hr
  case isFalse=>cases hr
  rename_i hs
  cases hr
  have hlen:=hV.1
  match Yz,hlen with
  | [u1,u2,u3],_=>
   have k1:=(hV.2 0 _ u1 rfl rfl).str_inv
   have k2:=(hV.2 1 _ u2 rfl rfl).str_inv
   have k3:=(hV.2 2 _ u3 rfl rfl).int_inv
   subst k1;subst k2;subst k3
   refine .inl ⟨e2 _ _,(c2 s m w (by omega) hm).mono fun e w' he=>?_⟩
   obtain ⟨l,cs,cap,t,rfl,rfl,hcap,hcs,hl⟩:=he
   rw [<- hl]
   exact Zz7 hR hcap hcs
 split at hr
 ·rename_i hc
  subst hc
  obtain rfl:=h3 f hfc
  split at hr
  case h_2=>cases hr
  rename_i s p
  split at hr
  case isFalse=>cases hr
  rename_i hs
  cases hr
  have hlen:=hV.1
  match Yz,hlen with
  | [u1,u2],_=>
   have k1:=(hV.2 0 _ u1 rfl rfl).str_inv
   have k2:=(hV.2 1 _ u2 rfl rfl).str_inv
   subst k1;subst k2
   refine .inl ⟨e3 _ _,(c3 ⟨s.toArray⟩ ⟨p.toArray⟩ m w (show s.length<_ by omega) hm).mono fun e w' he=>?_⟩
   obtain ⟨rfl,rfl⟩:=he
   exact ⟨G,.fz _ _ (.i _ _),.refl hR⟩
 ·exact hB f c hfc hn args r hr G w0 st w Yz d hG hR hV
end Go.AM

namespace Go.AM
open Go
structure Dsk where
 image:Zh
 state:Zw
 query:Bf
 out:List (List UInt8)
def Zp1 (ow:Xt) (o:Zm) (n:Nat):Prop:=
 match o with
 | .ext=>False
 | .full=>True
 | .id k v=>(lk ow k=some (v,n)/\0<n)/\Rh<=k.2/\k.2<Xs
theorem Zp1.app {ow:Xt} {o:Zm} {n:Nat} (h:Zp1 ow o n):Jj ow o n:=by
 cases o with
 | ext=>exact h
 | full=>exact h
 | id k v=>exact h.1
abbrev Dsk.fix (m:Dsk):List AV:=[.sl .ext (List.map Wx.row m.image.types),.sl .ext (List.map Zt m.image.texts),.sl .ext (List.map Ye.row m.image.funcs),.i .u8 m.state.outcome,.i .i64 m.state.failing,.i .i64 m.state.steps,.sl .ext (List.map Zl.row m.state.routines),.i .u8 m.query.kind,.i .i64 m.query.g,.i .i64 m.query.k,.i .i64 m.query.key,.s m.query.name]
def Dk (m:Dsk):BC:=fun bx ow k v=>∃o,lk bx k=some (v,m.fix++[.sl o (List.map Zt m.out)])/\Zp1 ow o m.out.length
theorem Dk.other {m:Dsk} {bx:Xu} {ow:Xt} {k q:Zo} {v:Nat} {a:Nat × List AV} (hn:q≠k) (h:Dk m bx ow k v):Dk m (Yx bx q a) ow k v:=by
 obtain ⟨o,h1,h2⟩:=h
 exact ⟨o,by rw [Gu hn];exact h1,h2⟩
theorem Dk.out {m:Dsk}:Rm (Dk m):=fun d bx ow k v hk ⟨o,h1,h2⟩=>⟨o,by rw [Ad hk];exact h1,h2⟩
def Ql (S:List Nat) (d:Nat) (ow:Xt) (o:Zm) (n:Nat):Prop:=Jj ow o n/\∀k v,o=.id k v->k.1=d/\S.contains k.2=true
theorem Ql.full {S:List Nat} {d n:Nat} {ow:Xt}:Ql S d ow .full n:=⟨trivial,fun _ _ h=>by cases h⟩
theorem Ql.new {S:List Nat} {d n n' site:Nat} {ow ow':Xt} {o o':Zm} (h:Ql S d ow o n) (a:Jj ow' o' n') (he:Kp o'=Kp o\/Kp o'=some (d,site)) (hs:S.contains site=true):Ql S d ow' o' n':=by
 refine ⟨a,fun k v e=>?_⟩
 subst e
 rcases he with he | he
 ·cases o with
  | ext=>cases he
  | full=>cases he
  | id k' v'=>
   injection he with he
   subst he
   exact h.2 _ _ rfl
 ·injection he with he
  subst he
  exact ⟨rfl,hs⟩
theorem Ql.keep {S1 S2:List Nat} {d n n2 site:Nat} {ow ow':Xt} {o o2:Zm} (h2:Ql S2 d ow o2 n2) (h1:Ql S1 d ow o n) (hw :∀k,some k≠Kp o->k≠(d,site)->lk ow' k=lk ow k) (hs:S1.contains site=true) (hd:(S1.all fun x=>!S2.contains x)=true):Ql S2 d ow' o2 n2:=by
 refine ⟨?_,h2.2⟩
 have hn :∀x,S1.contains x=true->S2.contains x=false:=fun x hx=>by
  have:=zB.1 hd x (by simpa using hx)
  simpa using this
 cases o2 with
 | ext=>exact h2.1
 | full=>exact h2.1
 | id k v=>
  obtain ⟨e1,e2⟩:=h2.2 k v rfl
  obtain ⟨a1,a2⟩:=h2.1
  refine ⟨(hw k ?_ ?_).trans a1,a2⟩
  ·intro e
   cases o with
   | ext=>cases e
   | full=>cases e
   | id k' v'=>
    injection e with e
    subst e
    have:=hn _ (h1.2 _ _ rfl).2
    rw [e2] at this
    cases this
  ·rintro rfl
   have:=hn _ hs
   rw [e2] at this
   cases this
def Zwr {β:Type} (PG:Zb) (f:Nat) (B:BC) (args:Zo->Nat->List AV) (KK:AV->β->Prop) (B':β->BC):Prop:=
 ∀d (st:St) (k:Zo) (v:Nat),k.1<d->B st.bx st.ow k v->∃r st' b,Fn PG d f (.p k v 0::args k v) st r st'/\KK r b/\B' b st'.bx st'.ow k v/\Fr d k st.bx st.ow st'.bx st'.ow
theorem Zwr.of {β:Type} {PG:Zb} {f:Nat} {F:AF} {B:BC} {B':β->BC} {args:Zo->Nat->List AV} {KK:AV->β->Prop} (hf:PG.fn f=some F) (hn :∀k v,Nat.ble ((args k v).length+1) F.nt=true) (ho :∀b,Rm (B' b))
  (h :∀(d:Nat) (st:St) (k:Zo) (v:Nat),k.1<d->B st.bx st.ow k v->W PG d F.body (Wc (.p k v 0::args k v)) st fun e σ st'=>(e=.normal\/e=.ret)/\∃r b,Xk σ st' F.res=some r/\KK r b/\B' b st'.bx st'.ow k v/\Fr d k st.bx st.ow st'.bx st'.ow):Zwr PG f B args KK B':=by
 intro d st k v hk hB
 obtain ⟨r,st',h1,b,h2,h3,h4⟩:=Fn.of' (PG:=PG) (K:=fun r st'=>∃b,KK r b/\B' b st'.bx st'.ow k v/\Fr d k st.bx st.ow st'.bx st'.ow) hf (by simpa using kX (hn k v)) ((h d st k v hk hB).mono fun e σ st' hq=>by
  obtain ⟨he,r,b,h1,h2,h3,h4⟩:=hq
  rcases he with rfl | rfl
  ·exact ⟨r,h1,b,h2,ho b d _ _ k v hk h3,h4.out⟩
  ·exact ⟨r,h1,b,h2,ho b d _ _ k v hk h3,h4.out⟩)
 exact ⟨r,st',b,h1,h2,h3,h4⟩
section
variable {PG:Zb} {d id base i:Nat} {σ:Sl} {st:St} {K:Sl->St->Prop} {r:List AI} {t:Option Nat} {x y:Zq}
end
end Go.AM

/- The steps of the machine, found by a tactic (an argument's default): where the printed proof says nothing that the state does not. -/
namespace Go.AM
open Go
attribute [local irreducible] WO W
section
variable {PG:Zb} {d id base i:Nat} {σ:Sl} {st:St} {K:Sl->St->Prop} {r:List AI} {t:Option Nat} {x y:Zq} {T A B:Prop}
theorem zuE {α:Type} {p:α->Prop} {c:Prop} (h :∃a,p a) (k :∀a,p a->c):c:=h.elim k
theorem Hc {op:BinOp} {a b v:AV} (hv:Xi op a b=some v) (h:WO PG d id base (i+1) r (Zu σ t v) st K) (hx:x.ev σ=a:=by first | exact J | assumption) (hy:y.ev σ=b:=by first | exact J | assumption):WO PG d id base i (⟨t,.bin op x y,none⟩::r) σ st K:=Sk hx hy hv h
theorem Yk5 {l m:List UInt8} (h:l.length+m.length<=Wi/\T) (k:T->WO PG d id base (i+1) r (Zu σ t (.s (l++m))) st K) (hx:x.ev σ=.s l:=by first | assumption | exact J) (hy:y.ev σ=.s m:=by first | assumption | exact J):WO PG d id base i (⟨t,.bin .add x y,none⟩::r) σ st K:=Sk hx hy (Vp h.1) (k h.2)
theorem Zwf {op:BinOp} {k':IntKind} {a b:Int} {v:AV} (hv:b≠0->Xi op (.i k' a) (.i k' b)=some v) (h:b≠0/\T) (k:T->WO PG d id base (i+1) r (Zu σ t v) st K) (hx:x.ev σ=.i k' a:=by first | exact J | assumption) (hy:y.ev σ=.i k' b:=by first | exact J | assumption):WO PG d id base i (⟨t,.bin op x y,none⟩::r) σ st K:=Sk hx hy (hv h.1) (k h.2)
theorem zug {dst:Option Nat} {op:Wz} {g:Nat} {w:Bool} (h:WO PG d id base i (⟨dst,op,none⟩::r) σ st K) (hg:σ g=.b w:=by exact J):WO PG d id base i (⟨dst,op,some (g,w)⟩::r) σ st K:=Zr3 hg h
theorem zus {a:AI} {v:AV} (hs:Is a σ=some v) (h:WO PG d id base (i+1) r (Zu σ a.dst v) st K):WO PG d id base i (a::r) σ st K:=Yd8 hs h
theorem Xey {dst:Option Nat} {op:Wz} {g:Nat} {w:Bool} {p:Prop} [Decidable p] (h:(p->A)/\(¬p->B)) (h1:A->WO PG d id base i (⟨dst,op,some (g,w)⟩::r) (up σ g (.b true)) st K) (h2:B->WO PG d id base i (⟨dst,op,some (g,w)⟩::r) (up σ g (.b false)) st K) (hg:σ g=.b (decide p):=by first | exact J | assumption):WO PG d id base i (⟨dst,op,some (g,w)⟩::r) σ st K:=Zic hg (fun z=>h1 (h.1 z)) fun z=>h2 (h.2 z)
theorem Ylx {dst:Option Nat} {op:Wz} {g:Nat} {w:Bool} {b:Bool} (h:(b=true->A)/\(b=false->B)) (h1:A->WO PG d id base i (⟨dst,op,some (g,w)⟩::r) (up σ g (.b true)) st K) (h2:B->WO PG d id base i (⟨dst,op,some (g,w)⟩::r) (up σ g (.b false)) st K) (hg:σ g=.b b:=by first | exact J | assumption):WO PG d id base i (⟨dst,op,some (g,w)⟩::r) σ st K:=Zkn hg (fun z=>h1 (h.1 z)) fun z=>h2 (h.2 z)
theorem Xdw {dst:Option Nat} {g:Nat} {p:Prop} [Decidable p] (h:(p->A)/\(¬p->B)) (h1:A->WO PG d id base i (⟨dst,.pick (.t g) x y,none⟩::r) (up σ g (.b true)) st K) (h2:B->WO PG d id base i (⟨dst,.pick (.t g) x y,none⟩::r) (up σ g (.b false)) st K) (hg:σ g=.b (decide p):=by first | exact J | assumption):WO PG d id base i (⟨dst,.pick (.t g) x y,none⟩::r) σ st K:=Zic hg (fun z=>h1 (h.1 z)) fun z=>h2 (h.2 z)
theorem Xb3 {dst:Option Nat} {g:Nat} {b:Bool} (h:(b=true->A)/\(b=false->B)) (h1:A->WO PG d id base i (⟨dst,.pick (.t g) x y,none⟩::r) (up σ g (.b true)) st K) (h2:B->WO PG d id base i (⟨dst,.pick (.t g) x y,none⟩::r) (up σ g (.b false)) st K) (hg:σ g=.b b:=by first | exact J | assumption):WO PG d id base i (⟨dst,.pick (.t g) x y,none⟩::r) σ st K:=Zkn hg (fun z=>h1 (h.1 z)) fun z=>h2 (h.2 z)
theorem zum {v:AV} (h:WO PG d id base (i+1) r (Zu σ t v) st K) (hx:x.ev σ=v:=by assumption):WO PG d id base i (⟨t,.mv x,none⟩::r) σ st K:=Vg hx h
theorem zun {a:Bool} (h:WO PG d id base (i+1) r (Zu σ t (.b (!a))) st K) (hx:x.ev σ=.b a:=by first | exact J | assumption):WO PG d id base i (⟨t,.un .not x,none⟩::r) σ st K:=Zgp hx h
theorem Yoh {p:Prop} [Decidable p] (h:WO PG d id base (i+1) r (Zu σ t (.b (decide (¬p)))) st K) (hx:x.ev σ=.b (decide p):=by first | exact J | assumption):WO PG d id base i (⟨t,.un .not x,none⟩::r) σ st K:=Ydd hx h
theorem Ypt {k:IntKind} {n:Int} (h:WO PG d id base (i+1) r (Zu σ t (.i k (k.wrap (0-n)))) st K) (hx:x.ev σ=.i k n:=by first | exact J | assumption):WO PG d id base i (⟨t,.un .neg x,none⟩::r) σ st K:=Yi5 hx h
theorem Xf8 {l:List UInt8} (h:WO PG d id base (i+1) r (Zu σ t (.i .i64 (l.length:Int))) st K) (hx:x.ev σ=.s l:=by first | exact J | assumption):WO PG d id base i (⟨t,.len true x,none⟩::r) σ st K:=Zhr hx h
theorem Ykj {α:Type} {f:α->List AV} {l:List α} {o:Zm} (h:WO PG d id base (i+1) r (Zu σ t (.i .i64 (l.length:Int))) st K) (hx:x.ev σ=.sl o (l.map f):=by first | exact J | assumption):WO PG d id base i (⟨t,.len false x,none⟩::r) σ st K:=Zpx hx h
theorem Yxh {k k':IntKind} {c:UInt8} (h:WO PG d id base (i+1) r (Zu σ t (.i k (c.toNat:Int))) st K) (hx:x.ev σ=.i k' (c.toNat:Int):=by first | exact J | assumption) (hk:(k != .i8)=true:=by exact J):WO PG d id base i (⟨t,.cvi k x,none⟩::r) σ st K:=Xi5 hx hk h
theorem Yxe {k k':IntKind} {n:Int} (h:WO PG d id base (i+1) r (Zu σ t (.i k (k.wrap n))) st K) (hx:x.ev σ=.i k' n:=by first | exact J | assumption):WO PG d id base i (⟨t,.cvi k x,none⟩::r) σ st K:=Cn hx h
theorem Ym6 {l:List UInt8} {o:Zm} (h:WO PG d id base (i+1) r (Zu σ t (.s l)) st K) (hx:x.ev σ=.sl o (l.map Yu):=by first | exact J | assumption):WO PG d id base i (⟨t,.b2s x,none⟩::r) σ st K:=Zdl hx h
theorem Ykl {k:Nat} {vs:List AV} {v:AV} (h:WO PG d id base (i+1) r (Zu σ t v) st K) (hx:x.ev σ=.tup vs:=by first | exact J | assumption) (hv:vs[k]?=some v:=by exact J):WO PG d id base i (⟨t,.ext k x,none⟩::r) σ st K:=Yf9 hx hv h
theorem Yo5 {l:List UInt8} {k':IntKind} {n:Int} {A:UInt8->Prop} (h:0<=n/\∃c,l[n.toNat]?=some c/\A c) (k :∀c,l[n.toNat]?=some c/\A c->WO PG d id base (i+1) r (Zu σ t (.i .u8 (c.toNat:Int))) st K) (hx:x.ev σ=.s l:=by first | exact J | assumption) (hy:y.ev σ=.i k' n:=by first | exact J | assumption):WO PG d id base i (⟨t,.ixS x y,none⟩::r) σ st K:=h.2.elim fun _ e=>Gc hx hy h.1 e.1 (k _ e)
theorem Yy9 {n o v:Nat} {agg:Bool} {k:Zo} {cs:List AV} {w:AV} (h:WO PG d id base (i+1) r (Zu σ t w) st K) (hx:x.ev σ=.p k v o:=by first | exact J | assumption) (hb:lk st.bx k=some (v,cs):=by repeat (first | assumption | exact Zj | refine Zs J ?_)) (hn:Nat.ble (o+n) cs.length=true:=by exact J) (hv:Qj agg ((cs.drop o).take n)=some w:=by exact J):WO PG d id base i (⟨t,.load n agg x,none⟩::r) σ st K:=Tb hx hb hn hv h
theorem Yy6 {off o v:Nat} {k:Zo} (h:WO PG d id base (i+1) r (Zu σ t (.p k v (o+off))) st K) (hx:x.ev σ=.p k v o:=by first | exact J | assumption):WO PG d id base i (⟨t,.fad off x,none⟩::r) σ st K:=Nq hx h
theorem Ymo {off:Nat} {cs:List AV} (h:WO PG d id base (i+1) r (Zu σ t (.fp (cs.drop off))) st K) (hx:x.ev σ=.fp cs:=by first | exact J | assumption):WO PG d id base i (⟨t,.fad off x,none⟩::r) σ st K:=Zvk hx h
theorem Yuc {n:Nat} {agg:Bool} {cs:List AV} {v:AV} (h:WO PG d id base (i+1) r (Zu σ t v) st K) (hx:x.ev σ=.fp cs:=by first | exact J | assumption) (hn:Nat.ble n cs.length=true:=by exact J) (hv:Qj agg (cs.take n)=some v:=by exact J):WO PG d id base i (⟨t,.load n agg x,none⟩::r) σ st K:=Zvh hx hn hv h
theorem Yic {n:Nat} {agg:Bool} {cs:List AV} {v:AV} (h:WO PG d id base (i+1) r (Zu σ t v) st K) (hx:x.ev σ=.fp cs:=by first | exact J | assumption) (hn:Nat.ble n cs.length=true:=by exact J) (hv:Qj agg (cs.take n)=some v:=by exact J):WO PG d id base i (⟨t,.ldf n agg x,none⟩::r) σ st K:=Fe hx hn hv h
theorem Ywe {o v:Nat} {k:Zo} (h:WO PG d id base (i+1) r (Zu σ t (.p k v o)) st K) (hx:x.ev σ=.p k v o:=by first | exact J | assumption):WO PG d id base i (⟨t,.nilc x,none⟩::r) σ st K:=Wg hx h
theorem Xgr {cs:List AV} (h:WO PG d id base (i+1) r (Zu σ t (.fp cs)) st K) (hx:x.ev σ=.fp cs:=by first | exact J | assumption):WO PG d id base i (⟨t,.nilc x,none⟩::r) σ st K:=Yw5 hx h
theorem Yqr {off n:Nat} {agg:Bool} {cs:List AV} {v:AV} (h:WO PG d id base (i+1) r (Zu σ t v) st K) (hx:x.ev σ=.ag cs:=by first | exact J | assumption) (hn:Nat.ble (off+n) cs.length=true:=by exact J) (hv:Qj agg ((cs.drop off).take n)=some v:=by exact J):WO PG d id base i (⟨t,.fld off n agg x,none⟩::r) σ st K:=Xd5 hx hn hv h
theorem Yke {n:Nat} {v:AV} (h:WO PG d id base (i+1) r (Zu σ t (.p (d,id*4096+i) (base+i) 0)) { st with bx:=Yx st.bx (d,id*4096+i) (base+i,v.cells) } K) (hx:x.ev σ=v:=by first | assumption | exact J) (hn:(Nat.beq v.cells.length n&&v.cells.all AV.one)=true:=by exact J):WO PG d id base i (⟨t,.box n x,none⟩::r) σ st K:=Qa hx hn h
theorem Xi0 {n:Nat} {v:AV} {cs:List AV} (h:WO PG d id base (i+1) r (Zu σ t (.fp cs)) st K) (hx:x.ev σ=v:=by first | assumption | exact J) (hn:Nat.beq v.cells.length n=true:=by exact J) (hs:Vf v.cells=some cs:=by exact J):WO PG d id base i (⟨t,.boxf n x,none⟩::r) σ st K:=Zuf hx hn hs h
theorem Xi1 {α:Type} {f:α->List AV} {l:List α} {o:Zm} {size:Nat} {k':IntKind} {n:Int} {cs:α->List AV} {A:α->Prop} (h:0<=n/\∃c,l[n.toNat]?=some c/\A c) (k :∀c,l[n.toNat]?=some c/\A c->WO PG d id base (i+1) r (Zu σ t (.fp (cs c))) st K) (hx:x.ev σ=.sl o (l.map f):=by first | exact J | assumption) (hy:y.ev σ=.i k' n:=by first | exact J | assumption) (hf :∀c,f c=cs c:=by first | exact Za.row_eq | exact Zy.row_eq | exact Zg.row_eq | exact Zf.row_eq | exact Zi.row_eq | exact Zl.row_eq | exact Ye.row_eq | exact Wx.row_eq | exact fun _=>J) (hs :∀c,(Nat.beq (cs c).length size&&Nat.blt 0 size)=true:=by exact fun _=>J):WO PG d id base i (⟨t,.iaL size x y,none⟩::r) σ st K:=h.2.elim fun c e=>Zhe hx hy h.1 e.1 (hf c) (hs c) (k c e)
theorem Xdf {z:Zq} {l:List UInt8} {k':IntKind} {n:Int} (h:0<=n/\n.toNat<=l.length/\A) (k:A->WO PG d id base (i+1) r (Zu σ t (.s (l.drop n.toNat))) st K) (hx:x.ev σ=.s l:=by first | exact J | assumption) (hz:z.ev σ=.i k' n:=by first | exact J | assumption):WO PG d id base i (⟨t,.slS x (some z) none,none⟩::r) σ st K:=Ho hx hz h.1 h.2.1 (k h.2.2)
theorem Ym5 {z:Zq} {l:List UInt8} {k':IntKind} {n:Int} (h:0<=n/\n.toNat<=l.length/\A) (k:A->WO PG d id base (i+1) r (Zu σ t (.s (l.take n.toNat))) st K) (hx:x.ev σ=.s l:=by first | exact J | assumption) (hz:z.ev σ=.i k' n:=by first | exact J | assumption):WO PG d id base i (⟨t,.slS x none (some z),none⟩::r) σ st K:=Mb hx hz h.1 h.2.1 (k h.2.2)
theorem Ysf {z z':Zq} {l:List UInt8} {k1 k':IntKind} {n m:Int} (h:0<=n/\n<=m/\m.toNat<=l.length/\A) (k:A->WO PG d id base (i+1) r (Zu σ t (.s ((l.drop n.toNat).take (m.toNat-n.toNat)))) st K) (hx:x.ev σ=.s l:=by first | exact J | assumption) (hz:z.ev σ=.i k1 n:=by first | exact J | assumption) (hz':z'.ev σ=.i k' m:=by first | exact J | assumption):WO PG d id base i (⟨t,.slS x (some z) (some z'),none⟩::r) σ st K:=Xik hx hz hz' h.1 h.2.1 h.2.2.1 (k h.2.2.2)
theorem Yz9 {f:Nat} {args:List Zq} {vs:List AV} {v:AV} (h:Ze PG f vs v/\A) (k:A->WO PG d id base (i+1) r (Zu σ t v) st K) (hs:AV.strips (Va σ args)=some vs:=by (repeat (refine sc (by first | assumption | exact J) (by exact J) ?_));exact sn):WO PG d id base i (⟨t,.call false f args,none⟩::r) σ st K:=Zys hs h.1 (k h.2)
theorem Ylj {α:Type} {f:α->List AV} {a:α} {zero:List AV} {cs z:List AV} {v:AV} (h:WO PG d id base (i+1) r (Zu σ t (.sl .full (List.map f [a]))) st K) (hx:x.ev σ=v:=by first | assumption | exact J) (hc:Vf v.cells=some (f a):=by exact J) (hz:Vf zero=some z:=by exact J) (hn:(Nat.blt 0 z.length&&Nat.ble (1*z.length) 65536&&(Nat.beq (f a).length z.length))=true:=by exact J):WO PG d id base i (⟨t,.bslice zero 1 [(0,x)],none⟩::r) σ st K:=by
 simp only [kL] at hn
 exact Ii hz (by simp only [kL];exact hn.1) (Yo hx hc (by simp only [kL];exact ⟨rfl,hn.2⟩) Xp) h
theorem Yxj {α:Type} {f:α->List AV} {size bytes:Nat} {l m:List α} {o o2:Zm} (h:Qn (l.length+m.length) bytes/\A) (k :∀o' ow',Xd d ow' o' (l++m).length->A->WO PG d id base (i+1) r (Zu σ t (.sl o' ((l++m).map f))) ⟨st.nx,st.bx,ow'⟩ K) (hx:x.ev σ=.sl o (l.map f):=by first | assumption | exact J) (hy:y.ev σ=.sl o2 (m.map f):=by first | assumption | exact J) (ha:Xd d st.ow o l.length:=by first | assumption | exact Xd.full) (hf :∀a,(f a).length=size:=by first | exact fun _=>J | exact Za.row_len) (hsz:Nat.blt 0 size=true:=by exact J) (hb:Nat.blt (id*4096+i) Xs=true:=by exact J) (hm:Nat.blt (id*4096+i) Rh=true:=by exact J):WO PG d id base i (⟨t,.app size bytes x y,none⟩::r) σ st K:=
 Qt hf hsz hx hy ha.1 h.1 hb fun o' ow' a _ on=>k o' ow' (Xd.mk a (Gv.app ha.2 hm on)) h.2
theorem Xhu {α:Type} {f:α->AV} {l:List α} {m:Nat} {k':IntKind} {n:Int} {A:α->Prop} (h:l.length=m/\0<=n/\∃c,l[n.toNat]?=some c/\A c) (k :∀c,l[n.toNat]?=some c/\A c->WO PG d id base (i+1) r (Zu σ t (f c)) st K) (hx:x.ev σ=.ag (l.map f):=by first | exact J | assumption) (hy:y.ev σ=.i k' n:=by first | exact J | assumption):WO PG d id base i (⟨t,.ixA m 1 false x y,none⟩::r) σ st K:=h.2.2.elim fun c e=>Ty h.1 hx hy h.2.1 e.1 (k c e)
theorem Xee {m:Nat} {α:Type} {f:α->List AV} {l:List α} {o:Zm} {size:Nat} {k':IntKind} {n:Int} {c:α} {cs:List AV} (h:l[m]?=some c/\A) (k:A->WO PG d id base (i+1) r (Zu σ t (.fp cs)) st K) (hx:x.ev σ=.sl o (l.map f):=by first | exact J | assumption) (hy:y.ev σ=.i k' n:=by first | exact J | assumption) (h0:0<=n:=by decide) (hm:n.toNat=m:=by exact J) (hf:f c=cs:=by first | exact Za.row_eq _ | exact Zy.row_eq _ | exact Zg.row_eq _ | exact Zf.row_eq _ | exact Zi.row_eq _ | exact Zl.row_eq _ | exact Ye.row_eq _ | exact Wx.row_eq _ | exact J) (hs:(Nat.beq cs.length size&&Nat.blt 0 size)=true:=by exact J):WO PG d id base i (⟨t,.iaL size x y,none⟩::r) σ st K:=Zhe hx hy h0 (hm ▸ h.1) hf hs (k h.2)
theorem Yy3 {m:Nat} {l:List UInt8} {k':IntKind} {n:Int} {c:UInt8} (h:l[m]?=some c/\A) (k:A->WO PG d id base (i+1) r (Zu σ t (.i .u8 (c.toNat:Int))) st K) (hx:x.ev σ=.s l:=by first | exact J | assumption) (hy:y.ev σ=.i k' n:=by first | exact J | assumption) (h0:0<=n:=by decide) (hm:n.toNat=m:=by exact J):WO PG d id base i (⟨t,.ixS x y,none⟩::r) σ st K:=Gc hx hy h0 (hm ▸ h.1) (k h.2)
theorem Xgc {zero:List AV} {parts:List (Nat × Nat × Zq)} {cs:List AV} (h:WO PG d id base (i+1) r (Zu σ t (.ag cs)) st K) (hp:Xq σ zero parts=some cs:=by (repeat (refine Yl (by first | assumption | exact J) (by exact J) ?_));exact Yh):WO PG d id base i (⟨t,.build zero parts,none⟩::r) σ st K:=Yi hp h
theorem Yp0 {n o v:Nat} {k:Zo} {cs cs':List AV} {w:AV} (h:WO PG d id base (i+1) r (Zu σ t (.tup [])) { st with bx:=Yx st.bx k (v,cs') } K) (hx:x.ev σ=.p k v o:=by first | exact J | assumption) (hy:y.ev σ=w:=by first | assumption | exact J) (hb:lk st.bx k=some (v,cs):=by repeat (first | assumption | exact Zj | refine Zs J ?_)) (hn:(Nat.ble (o+n) cs.length&&Nat.beq w.cells.length n&&w.cells.all AV.one)=true:=by exact J) (hs:Kf cs o w.cells=cs':=by exact J) (hok:Mp k w=true:=by first | rfl | exact Ou rfl):WO PG d id base i (⟨t,.store n x y,none⟩::r) σ st K:=Eb hx hb hy hn hs h hok
theorem Yv6 {zero:List AV} (h:WO PG d id base (i+1) r (Zu σ t (.p (d,id*4096+i) (base+i) 0)) st K):WO PG d id base i (⟨t,.alloc zero,none⟩::r) σ st K:=Xo h
theorem Yh0 {z:Zq} {l:List UInt8} {k':IntKind} {n:Int} {m:Nat} (h:m<=l.length/\A) (k:A->WO PG d id base (i+1) r (Zu σ t (.s (l.drop m))) st K) (hx:x.ev σ=.s l:=by first | exact J | assumption) (hz:z.ev σ=.i k' n:=by first | exact J | assumption) (h0:0<=n:=by decide) (hm:n.toNat=m:=by exact J):WO PG d id base i (⟨t,.slS x (some z) none,none⟩::r) σ st K:=by
 subst hm
 exact Ho hx hz h0 h.1 (k h.2)
theorem Xdy {z:Zq} {l:List UInt8} {k':IntKind} {n:Int} {m:Nat} (h:m<=l.length/\A) (k:A->WO PG d id base (i+1) r (Zu σ t (.s (l.take m))) st K) (hx:x.ev σ=.s l:=by first | exact J | assumption) (hz:z.ev σ=.i k' n:=by first | exact J | assumption) (h0:0<=n:=by decide) (hm:n.toNat=m:=by exact J):WO PG d id base i (⟨t,.slS x none (some z),none⟩::r) σ st K:=by
 subst hm
 exact Mb hx hz h0 h.1 (k h.2)
theorem Yce {op:BinOp} {k':IntKind} {a b:Int} {v:AV} (hv:b≠0->Xi op (.i k' a) (.i k' b)=some v) (h:WO PG d id base (i+1) r (Zu σ t v) st K) (hx:x.ev σ=.i k' a:=by first | exact J | assumption) (hy:y.ev σ=.i k' b:=by first | exact J | assumption) (hb:b≠0:=by decide):WO PG d id base i (⟨t,.bin op x y,none⟩::r) σ st K:=Sk hx hy (hv hb) h
theorem Yeg {op:BinOp} {k' k2:IntKind} {a b:Int} {v:AV} (hv:0<=b->Xi op (.i k' a) (.i k2 b)=some v) (h:WO PG d id base (i+1) r (Zu σ t v) st K) (hx:x.ev σ=.i k' a:=by first | exact J | assumption) (hy:y.ev σ=.i k2 b:=by first | exact J | assumption) (hb:0<=b:=by decide):WO PG d id base i (⟨t,.bin op x y,none⟩::r) σ st K:=Sk hx hy (hv hb) h
theorem Yg2 {n:Int} {c:UInt8} (hc:UInt8.ofNat n.toNat=c) (h:WO PG d id base (i+1) r (Zu σ t (.sl .full (List.map Yu [c]))) st K) (hx:x.ev σ=.i .u8 n:=by first | exact J | assumption) (hn:n=(c.toNat:Int):=by decide):WO PG d id base i (⟨t,.bslice [.i .u8 0] 1 [(0,x)],none⟩::r) σ st K:=Ii (z:=[.i .u8 0]) rfl rfl (Yo (Yb2 hx hn) rfl rfl Xp) h
theorem Yix {c:UInt8} (h:WO PG d id base (i+1) r (Zu σ t (.sl .full (List.map Yu [c]))) st K) (hx:x.ev σ=.i .u8 (c.toNat:Int):=by first | exact J | assumption):WO PG d id base i (⟨t,.bslice [.i .u8 0] 1 [(0,x)],none⟩::r) σ st K:=Ii (z:=[.i .u8 0]) rfl rfl (Yo hx rfl rfl Xp) h
theorem Yuf {n:Int} {c:UInt8} (hh:n=(c.toNat:Int)/\A) (h:A->WO PG d id base (i+1) r (Zu σ t (.sl .full (List.map Yu [c]))) st K) (hx:x.ev σ=.i .u8 n:=by first | exact J | assumption):WO PG d id base i (⟨t,.bslice [.i .u8 0] 1 [(0,x)],none⟩::r) σ st K:=Ii (z:=[.i .u8 0]) rfl rfl (Yo (Yb2 hx hh.1) rfl rfl Xp) (h hh.2)
theorem Xaa {f:Nat} {args:List Zq} {vs:List AV} {o:Zm} {rows rows':List (List AV)} (h:Ab PG f rows vs rows'/\A) (k :∀o' st',Jj st'.ow o' rows'.length->A->WO PG d id base (i+1) r (Zu σ t (.sl o' rows')) st' K) (hs:Va σ args=.sl o rows::vs:=by (repeat (refine Zz (by first | assumption | exact J) ?_));exact Yq) (ha:Jj st.ow o rows.length:=by first | exact Jj.full | assumption | simpa using Jj.full):WO PG d id base i (⟨t,.call true f args,none⟩::r) σ st K:=Ywo hs h.1 ha fun o' st' a=>k o' st' a h.2
end
section
variable {PG:Zb} {d:Nat} {σ:Sl} {st:St} {Q:AE->Sl->St->Prop} {c:Zq} {a b:AC} {T A B:Prop}
theorem Yyr {p:Prop} [Decidable p] (h:(p->A)/\(¬p->B)) (h1:A->W PG d a σ st Q) (h2:B->W PG d b σ st Q) (hc:c.ev σ=.b (decide p):=by first | exact J | assumption):W PG d (.cond c a b) σ st Q:=Yeq hc (fun z=>h1 (h.1 z)) fun z=>h2 (h.2 z)
theorem Yh4 {t:Bool} (h:(t=true->A)/\(t=false->B)) (h1:A->W PG d a σ st Q) (h2:B->W PG d b σ st Q) (hc:c.ev σ=.b t:=by first | exact J | assumption):W PG d (.cond c a b) σ st Q:=Ztg hc (fun z=>h1 (h.1 z)) fun z=>h2 (h.2 z)
theorem Yzh {id:Nat} {ops:List AI} {b:AC} (hn:Px ops=true) (h :∀nx,WO PG d id st.nx 0 ops σ ⟨nx,st.bx,st.ow⟩ (fun σ st=>W PG d b σ st Q)):W PG d (.seq (.reg id ops) b) σ st Q:=q_ hn (fun {nx _}=>h nx)
theorem Yva {id base i:Nat} (h:W PG d b σ st Q):WO PG d id base i [] σ st (fun σ st=>W PG d b σ st Q):=Gj h
theorem Ygy {id base i:Nat} (h:W PG d b σ st Q):WO PG d id base i [] σ st (fun σ st=>Zv PG d b Q .normal σ st):=Gj h
theorem Ysv {id base i n:Nat} (h:W PG d b σ st Q):WO PG d id base i [] σ st (fun σ st=>Yd n (Zv PG d b Q) .normal σ st):=Gj h
theorem Yli (h:W PG d b σ st Q):W PG d .skip σ st (Zv PG d b Q):=W.skip h
theorem Xgd {n:Nat} (h:W PG d b σ st Q):W PG d .skip σ st (Yd n (Zv PG d b Q)):=W.skip h
end
theorem au {A P:Prop} (n:A) (h:A->P:=by
 intro n
 repeat' (first
  | refine zuE h (fun _ h=>?_)
  | refine Yva ?_
  | refine Yzh J (fun _=>?_)
  | refine zus J ?_
  | refine zug ?_
  | refine zum ?_
  | refine m_ ?_
  | refine Yy9 ?_
  | refine Yy6 ?_
  | refine Yz9 h (fun h=>?_)
  | refine Ykl ?_
  | refine Hc Xc ?_
  | refine Hc Vc ?_
  | refine Hc Vv ?_
  | refine Hc Qb ?_
  | refine Hc Jc ?_
  | refine Hc Po ?_
  | refine Hc Gd ?_
  | refine Hc Zpy ?_
  | refine Hc To ?_
  | refine Hc Sm ?_
  | refine Ykj ?_
  | refine Xf8 ?_
  | refine Yoh ?_
  | refine zun ?_
  | refine Xey h (fun h=>?_) (fun h=>?_)
  | refine Ylx h (fun h=>?_) (fun h=>?_)
  | refine Xdw h (fun h=>?_) (fun h=>?_)
  | refine Xb3 h (fun h=>?_) (fun h=>?_)
  | refine Xi1 h (fun _ h=>?_)<;>replace h:=h.2
  | refine Yuc ?_
  | refine Yic ?_
  | refine Ymo ?_
  | refine Ywe ?_
  | refine Xgr ?_
  | refine Yqr ?_
  | refine Yke ?_
  | refine Xi0 ?_
  | refine Yo5 h (fun _ h=>?_)<;>replace h:=h.2
  | refine Yk5 h (fun h=>?_)
  | refine Yxh ?_
  | refine Yxe ?_
  | refine Xdf h (fun h=>?_)
  | refine Ym5 h (fun h=>?_)
  | refine Ysf h (fun h=>?_)
  | refine Ym6 ?_
  | refine Ypt ?_
  | refine Yxj h (fun _ _ _ h=>?_)
  | refine Zwf Zgv h (fun h=>?_)
  | refine Zwf Znw h (fun h=>?_)
  | refine Hc (Xas _ _ _) ?_
  | refine Hc (Yo2 _ _ _) ?_
  | refine Hc (Zeg _ _ _) ?_
  | refine Hc (Yhv _ _ _) ?_
  | refine Yce Zgv ?_
  | refine Yce Znw ?_
  | refine Yeg Zlr ?_
  | refine Yeg abin_shl' ?_
  | refine Yix ?_
  | refine Yuf h (fun h=>?_)
  | refine Yg2 J ?_
  | refine Xaa h (fun _ _ _ h=>?_)
  | refine Xhu h (fun _ h=>?_)<;>replace h:=h.2
  | refine Xee h (fun h=>?_)
  | refine Yy3 h (fun h=>?_)
  | refine Xgc ?_
  | refine Yp0 ?_
  | refine Yv6 ?_
  | refine Ylj ?_
  | refine Yh0 h (fun h=>?_)
  | refine Xdy h (fun h=>?_)
  | refine Zxb J ?_
  | refine Yeo J ?_
  | refine Yyr h (fun h=>?_) (fun h=>?_)
  | refine Yh4 h (fun h=>?_) (fun h=>?_)
  | refine Ygy ?_
  | refine Ysv ?_
  | refine Yli ?_
  | refine Xgd ?_
  | (apply n;(any_goals exact h);all_goals (first | assumption | exact J | exact Xd.full | exact Fr.refl | ((repeat (first | assumption | exact Zj | refine Zs J ?_ | exact Fr.refl | refine Fr.box ?_));done)))
  | (apply n.1;(any_goals exact h);all_goals (first | assumption | exact J | exact Xd.full | exact Fr.refl | ((repeat (first | assumption | exact Zj | refine Zs J ?_ | exact Fr.refl | refine Fr.box ?_));done)))
  | (apply n.2;(any_goals exact h);all_goals (first | assumption | exact J | exact Xd.full | exact Fr.refl | ((repeat (first | assumption | exact Zj | refine Zs J ?_ | exact Fr.refl | refine Fr.box ?_));done)))
  | (apply n.2.1;(any_goals exact h);all_goals (first | assumption | exact J | exact Xd.full | exact Fr.refl | ((repeat (first | assumption | exact Zj | refine Zs J ?_ | exact Fr.refl | refine Fr.box ?_));done)))
  | (apply n.2.2;(any_goals exact h);all_goals (first | assumption | exact J | exact Xd.full | exact Fr.refl | ((repeat (first | assumption | exact Zj | refine Zs J ?_ | exact Fr.refl | refine Fr.box ?_));done)))
  | (refine W.ret ?_;apply hQ;(any_goals exact h);all_goals (first | assumption | exact J | exact Xd.full | exact Fr.refl | ((repeat (first | assumption | exact Zj | refine Zs J ?_ | exact Fr.refl | refine Fr.box ?_));done)))
  | refine W.seq ?_
  | refine W.reg0 J (fun _ _=>?_)
  | refine W.reg ?_
  | refine W.block ?_
  | refine W.exit ?_
  | (apply kP0;(any_goals exact h);all_goals (first | assumption | exact J | exact Xd.full | exact Fr.refl | ((repeat (first | assumption | exact Zj | refine Zs J ?_ | exact Fr.refl | refine Fr.box ?_));done)))
  | (apply kP1;(any_goals exact h);all_goals (first | assumption | exact J | exact Xd.full | exact Fr.refl | ((repeat (first | assumption | exact Zj | refine Zs J ?_ | exact Fr.refl | refine Fr.box ?_));done))))):P:=h n
end Go.AM

namespace Go.AM
open Go
set_option maxRecDepth 4000
set_option maxHeartbeats 2000000
attribute [local irreducible] Decidable.decide W WO Xq We
abbrev b42:AC:=(sR 0 [oC 4 (.s []),oC 5 (.b false)] (.seq (sR 1 [oM 6 0,oM 7 1,oQ 8 46 [6,7],oZ 9 8] (.cond (.t 9) (sR 2 [oM 10 0,oM 4 10,oC 5 (.b false)] .ret) .skip)) (sR 3 [oM 11 0,oM 12 1,oH 13 12,oO 14 (.slS (.t 11) (some (.t 13)) none),oM 4 14,oC 5 (.b true)] .ret)))
def Zbx:AF:={ nt:=15,res:=[.tmp 4,.tmp 5],body:=b42 }
section
variable(PG:Zb)(K:BS->Bool->Prop)
def Zpc (s0:BS)(ah:BS):Prop:=
  ∃c,Ze PG 46 [.s s0,.s ah] (.b c)/\((!c)=true->K s0 false)/\((!c)=false->0<=(ah.length:Int)/\(ah.length:Int).toNat<=s0.length/\K (s0.drop (ah.length:Int).toNat) true)
end
section
variable {PG:Zb}{d:Nat}{Q:AE->Sl->St->Prop}{K:BS->Bool->Prop}(hQ:H2 AV.s AV.b 4 5 Q K){σ:Sl}{st:St}
include hQ
variable {s0 ah:BS}
variable (H0:σ 0=.s s0)(H1:σ 1=.s ah)
include H0 H1 in
theorem Xfr (h:Zpc PG K s0 ah):W PG d b42 σ st Q:=
 au trivial
end
theorem p42 {PG:Zb}(hf:PG.fn 42=some Zbx){s0:BS}{ah:BS}{K:BS->Bool->Prop}(h:Zpc PG K s0 ah) :∃x0:BS,∃x1:Bool,K x0 x1/\Ze PG 42 [.s s0,.s ah] (.tup [.s x0,.b x1]):=
 P2 hf J (Xfr (h2 J fun _ _=>J) J J h)
abbrev b46:AC:=(sR 0 [oC 4 (.b false)] (sR 1 [oM 5 0,oH 6 5,oM 7 1,oH 8 7,oT 9 .geq 6 8,oM 10 9,gT 10 (oM 11 0),gT 10 (oM 12 1),gT 10 (oH 13 12),gT 10 (oO 14 (.slS (.t 11) none (some (.t 13)))),gT 10 (oM 15 1),gT 10 (oT 16 .eql 14 15),oA 17 10 16,oM 4 17] .ret))
def Zcb:AF:={ nt:=18,res:=[.tmp 4],body:=b46 }
def Zju (PG:Zb)(K:Bool->Prop)(s0:BS)(ah:BS):Prop:=
  ((s0.length:Int)>=(ah.length:Int)->0<=(ah.length:Int)/\(ah.length:Int).toNat<=s0.length/\K (decide ((s0.take (ah.length:Int).toNat)=ah)))/\(¬((s0.length:Int)>=(ah.length:Int))->K false)
section
variable {PG:Zb}{d:Nat}{Q:AE->Sl->St->Prop}{K:Bool->Prop}(hQ:H1 AV.b 4 Q K){σ:Sl}{st:St}
include hQ
variable {s0 ah:BS}
variable (H0:σ 0=.s s0)(H1:σ 1=.s ah)
include H0 H1 in
theorem Xc8 (h:Zju PG K s0 ah):W PG d b46 σ st Q:=
 au trivial
end
theorem p46 {PG:Zb}(hf:PG.fn 46=some Zcb){s0:BS}{ah:BS}{K:Bool->Prop}(h:Zju PG K s0 ah) :∃x0:Bool,K x0/\Ze PG 46 [.s s0,.s ah] (.b x0):=
 P1 hf J (Xc8 (h1 J fun _=>J) J J h)
abbrev b36:AC:=(sR 0 [oC 4 (.s []),oC 5 (.b false)] (sR 1 [oM 6 0,oM 7 1,oQ 8 42 [6,7],oE 9 0 8,oE 10 1 8,oM 4 9,oM 5 10] .ret))
def Zgo:AF:={ nt:=11,res:=[.tmp 4,.tmp 5],body:=b36 }
section
variable(PG:Zb)(K:BS->Bool->Prop)
def Zm7 (s0:BS)(ah:BS):Prop:=
  ∃e c,Ze PG 42 [.s s0,.s ah] (.tup [.s e,.b c])/\K e c
end
section
variable {PG:Zb}{d:Nat}{Q:AE->Sl->St->Prop}{K:BS->Bool->Prop}(hQ:H2 AV.s AV.b 4 5 Q K){σ:Sl}{st:St}
include hQ
variable {s0 ah:BS}
variable (H0:σ 0=.s s0)(H1:σ 1=.s ah)
include H0 H1 in
theorem Ymr (h:Zm7 PG K s0 ah):W PG d b36 σ st Q:=
 au trivial
end
theorem p36 {PG:Zb}(hf:PG.fn 36=some Zgo){s0:BS}{ah:BS}{K:BS->Bool->Prop}(h:Zm7 PG K s0 ah) :∃x0:BS,∃x1:Bool,K x0 x1/\Ze PG 36 [.s s0,.s ah] (.tup [.s x0,.b x1]):=
 P2 hf J (Ymr (h2 J fun _ _=>J) J J h)
abbrev b43:AC:=(sR 0 [oI 4 0] (sR 1 [oM 5 0,oM 6 1,oQ 7 47 [5,6],oM 4 7] .ret))
def Zef:AF:={ nt:=8,res:=[.tmp 4],body:=b43 }
section
variable(PG:Zb)(K:Int->Prop)
def Zi9 (s0:BS)(c1:Int):Prop:=
  ∃c,Ze PG 47 [.s s0,.i .u8 c1] (.i .i64 c)/\K c
end
section
variable {PG:Zb}{d:Nat}{Q:AE->Sl->St->Prop}{K:Int->Prop}(hQ:H1 (AV.i .i64) 4 Q K){σ:Sl}{st:St}
include hQ
variable {s0:BS}{c1:Int}
variable (H0:σ 0=.s s0)(H1:σ 1=.i .u8 c1)
include H0 H1 in
theorem Ymk (h:Zi9 PG K s0 c1):W PG d b43 σ st Q:=
 au trivial
end
theorem p43 {PG:Zb}(hf:PG.fn 43=some Zef){s0:BS}{c1:Int}{K:Int->Prop}(h:Zi9 PG K s0 c1) :∃x0:Int,K x0/\Ze PG 43 [.s s0,.i .u8 c1] (.i .i64 x0):=
 P1 hf J (Ymk (h1 J fun _=>J) J J h)
abbrev b47:AC:=(sR 0 [oI 4 0] (sR 1 [oM 5 0,oM 6 1,oQ 7 48 [5,6],oM 4 7] .ret))
def Zdr:AF:={ nt:=8,res:=[.tmp 4],body:=b47 }
section
variable(PG:Zb)(K:Int->Prop)
def Zie (s0:BS)(c1:Int):Prop:=
  ∃c,Ze PG 48 [.s s0,.i .u8 c1] (.i .i64 c)/\K c
end
section
variable {PG:Zb}{d:Nat}{Q:AE->Sl->St->Prop}{K:Int->Prop}(hQ:H1 (AV.i .i64) 4 Q K){σ:Sl}{st:St}
include hQ
variable {s0:BS}{c1:Int}
variable (H0:σ 0=.s s0)(H1:σ 1=.i .u8 c1)
include H0 H1 in
theorem Yzv (h:Zie PG K s0 c1):W PG d b47 σ st Q:=
 au trivial
end
theorem p47 {PG:Zb}(hf:PG.fn 47=some Zdr){s0:BS}{c1:Int}{K:Int->Prop}(h:Zie PG K s0 c1) :∃x0:Int,K x0/\Ze PG 47 [.s s0,.i .u8 c1] (.i .i64 x0):=
 P1 hf J (Yzv (h1 J fun _=>J) J J h)
abbrev b11:AC:=(sR 0 [oC 2 (.s []),oI 3 0] (.seq (sR 1 [oM 4 0,oH 5 4,oV 6 .gtr 5 400] (.cond (.t 6) (sR 2 [oC 2 (.s []),oI 3 4] .ret) .skip)) (sR 3 [oM 7 0,oO 8 (.call true 30 [(.c (.sl .full [])),(.t 7)]),oO 9 (.b2s (.t 8)),oM 2 9,oI 3 0] .ret)))
def Ze6:AF:={ nt:=10,res:=[.tmp 2,.tmp 3],body:=b11 }
section
variable(PG:Zb)(K:BS->Int->Prop)
def Ziv (s0:BS):Prop:=
  ((s0.length:Int)>400->K ([]:BS) 4)/\(¬((s0.length:Int)>400)->∃c,Ab PG 30 (List.map Yu ([]:BS)) [.s s0] (List.map Yu c)/\K c 0)
end
section
variable {PG:Zb}{d:Nat}{Q:AE->Sl->St->Prop}{K:BS->Int->Prop}(hQ:H2 AV.s (AV.i .i64) 2 3 Q K){σ:Sl}{st:St}
include hQ
variable {s0:BS}
variable (H0:σ 0=.s s0)
include H0 in
theorem Yoy (h:Ziv PG K s0):W PG d b11 σ st Q:=
 au trivial
end
theorem p11 {PG:Zb}(hf:PG.fn 11=some Ze6){s0:BS}{K:BS->Int->Prop}(h:Ziv PG K s0) :∃x0:BS,∃x1:Int,K x0 x1/\Ze PG 11 [.s s0] (.tup [.s x0,.i .i64 x1]):=
 P2 hf J (Yoy (h2 J fun _ _=>J) J h)
abbrev b15:AC:=(sR 0 [oC 2 (.s [])] (.seq (sR 1 [oM 3 0,oV 4 .lss 3 0] (.cond (.t 4) (sR 2 [oM 5 0,oO 6 (.cvi .u64 (.t 5)),oO 7 (.un .neg (.t 6)),oO 8 (.call false 34 [(.t 7),(.c (.i .u64 10))]),oB 9 .add (.c (.s [45])) (.t 8),oM 2 9] .ret) .skip)) (sR 3 [oM 10 0,oO 11 (.cvi .u64 (.t 10)),oO 12 (.call false 34 [(.t 11),(.c (.i .u64 10))]),oM 2 12] .ret)))
def Zbo:AF:={ nt:=13,res:=[.tmp 2],body:=b15 }
section
variable(PG:Zb)(K:BS->Prop)
def Zkk (n0:Int):Prop:=
  (n0<0->∃c:BS,Ze PG 34 [.i .u64 (IntKind.u64.wrap (0-(IntKind.u64.wrap n0))),.i .u64 10] (.s c)/\([45]:BS).length+c.length<=Wi/\K (([45]:BS)++c))/\(¬(n0<0)->∃e,Ze PG 34 [.i .u64 (IntKind.u64.wrap n0),.i .u64 10] (.s e)/\K e)
end
section
variable {PG:Zb}{d:Nat}{Q:AE->Sl->St->Prop}{K:BS->Prop}(hQ:H1 AV.s 2 Q K){σ:Sl}{st:St}
include hQ
variable {n0:Int}
variable (H0:σ 0=.i .i64 n0)
include H0 in
theorem Yzm (h:Zkk PG K n0):W PG d b15 σ st Q:=
 au trivial
end
theorem p15 {PG:Zb}(hf:PG.fn 15=some Zbo){n0:Int}{K:BS->Prop}(h:Zkk PG K n0) :∃x0:BS,K x0/\Ze PG 15 [.i .i64 n0] (.s x0):=
 P1 hf J (Yzm (h1 J fun _=>J) J h)
abbrev Zt6:AC:=(sR 10 [oM 39 8,oO 40 (.un .neg (.t 39)),oO 41 (.cvi .i64 (.t 40)),oM 42 9,oM 2 41,oM 3 42] .ret)
abbrev b21:AC:=(sR 0 [oI 2 0,oI 3 0] (.seq (sR 1 [oM 10 0,oH 11 10,oV 12 .gtr 11 2000] (.cond (.t 12) (sR 2 [oI 2 0,oI 3 4] .ret) .skip)) (sR 3 [oM 14 0,oO 15 (.call false 36 [(.t 14),(.c (.s [45]))]),oM 13 15,oE 16 0 13,oE 17 1 13,oM 4 16,oM 5 17] (.seq (sR 4 [oM 18 5,oZ 19 18] (.cond (.t 19) (sR 5 [oM 21 0,oO 22 (.call false 37 [(.t 21),(.c (.i .u64 10)),(.c (.i .u64 9223372036854775807))]),oM 20 22,oE 23 0 20,oE 24 1 20,oM 6 23,oM 7 24] (sR 6 [oM 25 6,oO 26 (.cvi .i64 (.t 25)),oM 27 7,oM 2 26,oM 3 27] .ret)) .skip)) (sR 7 [oM 29 4,oO 30 (.call false 37 [(.t 29),(.c (.i .u64 10)),(.c (.i .u64 9223372036854775808))]),oM 28 30,oE 31 0 28,oE 32 1 28,oM 8 31,oM 9 32] (.seq (sR 8 [oM 33 9,oV 34 .eql 33 0,oM 35 34,gT 35 (oM 36 8),gT 35 (oB 37 .eql (.t 36) (.c (.i .u64 0))),oA 38 35 37] (.cond (.t 38) (.reg 9 [oI 9 12]) .skip)) Zt6))))))
def Zc6:AF:={ nt:=43,res:=[.tmp 2,.tmp 3],body:=b21 }
def Ak (PG:Zb)(K:Int->Int->Prop)(n8:Int)(e9:Int):Prop:=
  K (IntKind.i64.wrap (IntKind.u64.wrap (0-n8))) e9
section
variable(PG:Zb)(K:Int->Int->Prop)
def Zhn (s0:BS):Prop:=
  ((s0.length:Int)>2000->K 0 4)/\(¬((s0.length:Int)>2000)->∃k j,Ze PG 36 [.s s0,.s ([45]:BS)] (.tup [.s k,.b j])/\((!j)=true->∃p o,Ze PG 37 [.s s0,.i .u64 10,.i .u64 9223372036854775807] (.tup [.i .u64 p,.i .i64 o])/\K (IntKind.i64.wrap p) o)/\((!j)=false->∃c e,Ze PG 37 [.s k,.i .u64 10,.i .u64 9223372036854775808] (.tup [.i .u64 c,.i .i64 e])/\(e=0->(c=0->Ak PG K c 12)/\(¬(c=0)->Ak PG K c e))/\(¬(e=0)->Ak PG K c e)))
end
section
variable {PG:Zb}{d:Nat}{Q:AE->Sl->St->Prop}{K:Int->Int->Prop}(hQ:H2 (AV.i .i64) (AV.i .i64) 2 3 Q K){σ:Sl}{st:St}
include hQ
variable {n8 e9:Int}{s0:BS}
variable (H8:σ 8=.i .u64 n8)(H0:σ 0=.s s0)(H9:σ 9=.i .i64 e9)
include H8 H9 in
theorem Yfi (h:Ak PG K n8 e9):W PG d Zt6 σ st Q:=
 au trivial
include H0 in
theorem Xfc (h:Zhn PG K s0):W PG d b21 σ st Q:=
 au @Yfi
end
theorem p21 {PG:Zb}(hf:PG.fn 21=some Zc6){s0:BS}{K:Int->Int->Prop}(h:Zhn PG K s0) :∃x0:Int,∃x1:Int,K x0 x1/\Ze PG 21 [.s s0] (.tup [.i .i64 x0,.i .i64 x1]):=
 P2 hf J (Xfc (h2 J fun _ _=>J) J h)
abbrev b25:AC:=(sR 0 [oC 2 (.s []),oI 3 0] (.seq (sR 1 [oM 7 0,oH 8 7,oV 9 .gtr 8 2000] (.cond (.t 9) (sR 2 [oC 2 (.s []),oI 3 4] .ret) .skip)) (sR 3 [oM 11 0,oQ 12 39 [11],oM 10 12,oE 13 0 10,oE 14 1 10,oE 15 2 10,oM 4 13,oM 5 14,oM 6 15] (.seq (.block 0 (sR 4 [oM 17 6,oZ 18 17,oM 19 18,gF 19 (oM 20 5),gF 19 (oB 21 .neq (.t 20) (.c (.s []))),oR 22 19 21,oM 16 22] (.cond (.t 16) (sR 5 [oC 2 (.s []),oI 3 12] .ret) (sR 6 [oM 24 4,oH 25 24,oV 26 .gtr 25 400,oM 23 26] (.cond (.t 23) (sR 7 [oC 2 (.s []),oI 3 4] .ret) .skip))))) (sR 8 [oM 27 4,oM 2 27,oI 3 0] .ret)))))
def Zbd:AF:={ nt:=28,res:=[.tmp 2,.tmp 3],body:=b25 }
section
variable(PG:Zb)(K:BS->Int->Prop)
def Zjr (s0:BS):Prop:=
  ((s0.length:Int)>2000->K ([]:BS) 4)/\(¬((s0.length:Int)>2000)->∃c:BS,∃i e,Ze PG 39 [.s s0] (.tup [.s c,.s i,.b e])/\((!e)=true->K ([]:BS) 12)/\((!e)=false->(i≠([]:BS)->K ([]:BS) 12)/\(¬(i≠([]:BS))->((c.length:Int)>400->K ([]:BS) 4)/\(¬((c.length:Int)>400)->K c 0))))
end
section
variable {PG:Zb}{d:Nat}{Q:AE->Sl->St->Prop}{K:BS->Int->Prop}(hQ:H2 AV.s (AV.i .i64) 2 3 Q K){σ:Sl}{st:St}
include hQ
variable {s0:BS}
variable (H0:σ 0=.s s0)
include H0 in
theorem Yj6 (h:Zjr PG K s0):W PG d b25 σ st Q:=
 au trivial
end
theorem p25 {PG:Zb}(hf:PG.fn 25=some Zbd){s0:BS}{K:BS->Int->Prop}(h:Zjr PG K s0) :∃x0:BS,∃x1:Int,K x0 x1/\Ze PG 25 [.s s0] (.tup [.s x0,.i .i64 x1]):=
 P2 hf J (Yj6 (h2 J fun _ _=>J) J h)
abbrev Zqy:AC:=(.reg 13 [oV 55 .add 12 1,oM 12 55])
abbrev Aa:AC:=(sR 3 [oT 13 .lss 12 11] (.seq (.cond (.t 13) .skip (.exit 0)) (.seq (.block 1 (sR 4 [oM 14 12,oM 5 14] (sR 5 [oM 15 1,oM 16 5,oO 17 (.ixS (.t 15) (.t 16)),oM 6 17] (.block 2 (sR 7 [oM 23 6,oW 24 .eql 23 34,oM 25 24,gF 25 (oM 26 6),gF 25 (oW 27 .eql 26 92),oR 28 25 27,oM 22 28] (.cond (.t 22) (.reg 8 [oM 29 0,oM 30 6,oO 31 (.bslice [z8] 2 [(0,(.c (.i .u8 92))),(1,(.t 30))]),oO 32 (.app 1 1 (.t 29) (.t 31)),oM 0 32]) (sR 9 [oM 34 6,oW 35 .eql 34 10,oM 33 35] (.cond (.t 33) (.reg 10 [oM 36 0,oO 37 (.bslice [z8] 2 [(0,(.c (.i .u8 92))),(1,(.c (.i .u8 110)))]),oO 38 (.app 1 1 (.t 36) (.t 37)),oM 0 38]) (sR 11 [oM 40 6,oW 41 .lss 40 32,oM 42 41,gF 42 (oM 43 6),gF 42 (oW 44 .gtr 43 126),oR 45 42 44,oM 39 45] (.cond (.t 39) (.reg 12 [oM 46 0,oM 47 6,oB 48 .shr (.t 47) (.c (.i .u64 4)),oO 49 (.ixS (.c (.s [48,49,50,51,52,53,54,55,56,57,97,98,99,100,101,102])) (.t 48)),oM 50 6,oW 51 .and 50 15,oO 52 (.ixS (.c (.s [48,49,50,51,52,53,54,55,56,57,97,98,99,100,101,102])) (.t 51)),oO 53 (.bslice [z8] 4 [(0,(.c (.i .u8 92))),(1,(.c (.i .u8 120))),(2,(.t 49)),(3,(.t 52))]),oO 54 (.app 1 1 (.t 46) (.t 53)),oM 0 54]) (.reg 6 [oM 18 0,oM 19 6,oO 20 (.bslice [z8] 1 [(0,(.t 19))]),oO 21 (.app 1 1 (.t 18) (.t 20)),oM 0 21]))))))))))) Zqy)))
abbrev Am:AC:=(sR 14 [oM 56 0,oO 57 (.bslice [z8] 1 [(0,(.c (.i .u8 34)))]),oO 58 (.app 1 1 (.t 56) (.t 57)),oM 4 58] .ret)
abbrev Ye0:AC:=(sR 1 [oM 7 0,oO 8 (.bslice [z8] 1 [(0,(.c (.i .u8 34)))]),oO 9 (.app 1 1 (.t 7) (.t 8)),oM 0 9] (.seq (sR 2 [oM 10 1,oH 11 10,oI 12 0] (.block 0 (.loop Aa))) Am))
abbrev b30:AC:=(sR 0 [oC 4 (.sl .full [])] Ye0)
def El:AF:={ nt:=59,res:=[.tmp 4],body:=b30 }
abbrev Ng (Q:AE->Sl->St->Prop)(K:BS->Prop):Prop:=∀(σ:Sl)(st:St)(o0:Zm)(x0:BS),σ 4=.sl o0 (List.map Yu x0)->Jj st.ow o0 x0.length->K x0->Q .ret σ st
abbrev Zwc (PG:Zb)(d:Nat)(Q:AE->Sl->St->Prop)(s1:BS)(t11:Int)(b0:BS)(t12:Int):Prop:=
  ∀(σ:Sl)(st:St)(ir:Zm),σ 0=.sl ir (List.map Yu b0)->σ 1=.s s1->σ 11=.i .i64 t11->σ 12=.i .i64 t12->Jj st.ow ir b0.length->W PG d (.loop Aa) σ st (Yd 0 (Zv PG d Am Q))
def Sr (PG:Zb)(K:BS->Prop)(P0:BS->Int->Prop)(b0:BS)(s1:BS)(t11:Int)(t12:Int):Prop:=
  P0 b0 (IntKind.i64.wrap (t12+1))
def Zib (PG:Zb)(K:BS->Prop)(b0:BS):Prop:=
  Qn (b0.length+[(34:UInt8)].length) 1/\K (b0++[(34:UInt8)])
section
variable(PG:Zb)(K:BS->Prop)
def Zao (P0:BS->Int->Prop)(b0:BS)(s1:BS)(t11:Int)(t12:Int):Prop:=
  (t12<t11->0<=t12/\∃c:UInt8,s1[(t12).toNat]?=some c/\((c.toNat:Int)=34->Qn (b0.length+[(92:UInt8),c].length) 1/\Sr PG K P0 (b0++[(92:UInt8),c]) s1 t11 t12)/\(¬((c.toNat:Int)=34)->((c.toNat:Int)=92->Qn (b0.length+[(92:UInt8),c].length) 1/\Sr PG K P0 (b0++[(92:UInt8),c]) s1 t11 t12)/\(¬((c.toNat:Int)=92)->((c.toNat:Int)=10->Qn (b0.length+[(92:UInt8),(110:UInt8)].length) 1/\Sr PG K P0 (b0++[(92:UInt8),(110:UInt8)]) s1 t11 t12)/\(¬((c.toNat:Int)=10)->((c.toNat:Int)<32->0<=(Ow .u8 (c.toNat:Int) 4)/\∃j,([48,49,50,51,52,53,54,55,56,57,97,98,99,100,101,102]:BS)[(Ow .u8 (c.toNat:Int) 4).toNat]?=some j/\0<=(Gb .u8 (c.toNat:Int) 15)/\∃e,([48,49,50,51,52,53,54,55,56,57,97,98,99,100,101,102]:BS)[(Gb .u8 (c.toNat:Int) 15).toNat]?=some e/\Qn (b0.length+[(92:UInt8),(120:UInt8),j,e].length) 1/\Sr PG K P0 (b0++[(92:UInt8),(120:UInt8),j,e]) s1 t11 t12)/\(¬((c.toNat:Int)<32)->((c.toNat:Int)>126->0<=(Ow .u8 (c.toNat:Int) 4)/\∃i,([48,49,50,51,52,53,54,55,56,57,97,98,99,100,101,102]:BS)[(Ow .u8 (c.toNat:Int) 4).toNat]?=some i/\0<=(Gb .u8 (c.toNat:Int) 15)/\∃k,([48,49,50,51,52,53,54,55,56,57,97,98,99,100,101,102]:BS)[(Gb .u8 (c.toNat:Int) 15).toNat]?=some k/\Qn (b0.length+[(92:UInt8),(120:UInt8),i,k].length) 1/\Sr PG K P0 (b0++[(92:UInt8),(120:UInt8),i,k]) s1 t11 t12)/\(¬((c.toNat:Int)>126)->Qn (b0.length+[c].length) 1/\Sr PG K P0 (b0++[c]) s1 t11 t12))))))/\(¬(t12<t11)->Zib PG K b0)
def Zqc (b0:BS)(s1:BS):Prop:=
  Qn (b0.length+[(34:UInt8)].length) 1/\∀P0:BS->Int->Prop,(∀(b0:BS)(t12:Int),Zao PG K P0 b0 s1 (s1.length:Int) t12->P0 b0 t12)->P0 (b0++[(34:UInt8)]) 0
def Zhd (b0:BS)(s1:BS):Prop:=
  Zqc PG K b0 s1
end
section
variable {PG:Zb}{d:Nat}{Q:AE->Sl->St->Prop}{K:BS->Prop}(hQ:Ng Q K){σ:Sl}{st:St}
include hQ
variable {b0 s1:BS}{t11 t12:Int}{P0:BS->Int->Prop}{ir:Zm}
variable (kP0 :∀(b0:BS)(t12:Int),P0 b0 t12->Zwc PG d Q s1 t11 b0 t12)(H0:σ 0=.sl ir (List.map Yu b0))(H1:σ 1=.s s1)(H11:σ 11=.i .i64 t11)(H12:σ 12=.i .i64 t12)(A0:Jj st.ow ir b0.length)
include kP0 H0 H1 H11 H12 A0 in
theorem Pj (h:Sr PG K P0 b0 s1 t11 t12):W PG d Zqy σ st (Zv PG d (.loop Aa) (Yd 0 (Zv PG d Am Q))):=
 au trivial
include H0 A0 in
theorem Ys5 (h:Zib PG K b0):W PG d Am σ st Q:=
 q_ J (Yf H0 (Xv (f:=Yu) (l:=[(34:UInt8)]) J J (Yo J J J Xp) J (Qt Sf J J J A0 h.1 J (fun _ _ c _ _=>Yf J (Zr (hQ _ _ _ _ J c h.2))))))
include kP0 H0 H1 H11 H12 A0 in
theorem Ywy (h:Zao PG K P0 b0 s1 t11 t12):W PG d Aa σ st (Zv PG d (.loop Aa) (Yd 0 (Zv PG d Am Q))):=
 q_ J (b_ H12 H11 Vc (e_ (Zp (Yk J (fun p=>Yg (Zp (Yn (q_ J (m_ (m_ (e_ (q_ J (m_ (m_ ((h.1 p).2.elim fun q c=>Gc H1 H12 (h.1 p).1 c.1 (m_ (e_ (Yn (q_ J (Xf J (b_ J J Xc (Xl J (Xa (g:=25) J (fun e=>z_ 4 J (e_ (Xj J (W.reg0 J fun _ _=>Yf H0 (m_ (Xv (f:=Yu) (l:=[(92:UInt8),q]) J J (Yo J J J (Yo J J J Xp)) J (Qt Sf J J J A0 (c.2.1 e).1 J (fun _ _ a1 _ _=>Yf J (e_ (Pj hQ kP0 J H1 H11 H12 a1 (c.2.1 e).2)))))))))) (fun e=>Zd J (Xf J (Zd J (b_ J J Xc (z_ 2 J (e_ (Yk J (fun i=>W.reg0 J fun _ _=>Yf H0 (m_ (Xv (f:=Yu) (l:=[(92:UInt8),q]) J J (Yo J J J (Yo J J J Xp)) J (Qt Sf J J J A0 ((c.2.2 e).1 i).1 J (fun _ _ w _ _=>Yf J (e_ (Pj hQ kP0 J H1 H11 H12 w ((c.2.2 e).1 i).2))))))) (fun i=>q_ J (m_ (b_ J J Xc (m_ (e_ (Yk J (fun j=>W.reg0 J fun _ _=>Yf H0 (Xv (f:=Yu) (l:=[(92:UInt8),(110:UInt8)]) J J (Yo J J J (Yo J J J Xp)) J (Qt Sf J J J A0 (((c.2.2 e).2 i).1 j).1 J (fun _ _ x _ _=>Yf J (e_ (Pj hQ kP0 J H1 H11 H12 x (((c.2.2 e).2 i).1 j).2)))))) (fun j=>q_ J (Xf J (b_ J J Vc (Xl J (Xa (g:=42) J (fun k=>z_ 4 J (e_ (Xj J (W.reg0 J fun _ _=>Yf H0 (m_ (b_ J J (Zlr (by decide)) (((((c.2.2 e).2 i).2 j).1 k).2.elim fun a2 r=>Gc J J ((((c.2.2 e).2 i).2 j).1 k).1 r.1 (m_ (b_ J J (Zeg _ _ _) (r.2.2.elim fun a3 s=>Gc J J r.2.1 s.1 (Xv (f:=Yu) (l:=[(92:UInt8),(120:UInt8),a2,a3]) J J (Yo J J J (Yo J J J (Yo J J J (Yo J J J Xp)))) J (Qt Sf J J J A0 s.2.1 J (fun _ _ y _ _=>Yf J (e_ (Pj hQ kP0 J H1 H11 H12 y s.2.2))))))))))))))) (fun k=>Zd J (Xf J (Zd J (b_ J J Qb (z_ 2 J (e_ (Yk J (fun o=>W.reg0 J fun _ _=>Yf H0 (m_ (b_ J J (Zlr (by decide)) ((((((c.2.2 e).2 i).2 j).2 k).1 o).2.elim fun a4 u=>Gc J J (((((c.2.2 e).2 i).2 j).2 k).1 o).1 u.1 (m_ (b_ J J (Zeg _ _ _) (u.2.2.elim fun a5 v=>Gc J J u.2.1 v.1 (Xv (f:=Yu) (l:=[(92:UInt8),(120:UInt8),a4,a5]) J J (Yo J J J (Yo J J J (Yo J J J (Yo J J J Xp)))) J (Qt Sf J J J A0 v.2.1 J (fun _ _ z _ _=>Yf J (e_ (Pj hQ kP0 J H1 H11 H12 z v.2.2)))))))))))) (fun o=>W.reg0 J fun _ _=>Yf H0 (m_ (Xv (f:=Yu) (l:=[q]) J J (Yo J J J Xp) J (Qt Sf J J J A0 (((((c.2.2 e).2 i).2 j).2 k).2 o).1 J (fun _ _ a0 _ _=>Yf J (e_ (Pj hQ kP0 J H1 H11 H12 a0 (((((c.2.2 e).2 i).2 j).2 k).2 o).2))))))))))))))))))))))))))))))))))))))))))))))))))) (fun p=>Jm (Ys5 hQ H0 A0 (h.2 p)))))))
include H0 H1 A0 in
theorem Xj7 (h:Zqc PG K b0 s1):W PG d Ye0 σ st Q:=
 q_ J (Yf H0 (Xv (f:=Yu) (l:=[(34:UInt8)]) J J (Yo J J J Xp) J (Qt Sf J J J A0 h.1 J (fun _ _ c _ _=>Yf J (e_ (Zp (q_ J (m_ (Rg H1 (m_ (e_ (Yn (h.2 (Zwc PG d Q s1 (s1.length:Int)) (fun _ _ hb _ _ _ H0 H1 H11 H12 A0=>W.loop (Ywy hQ (fun _ _ x=>x) H0 H1 H11 H12 A0 hb)) _ _ _ J H1 J J c)))))))))))))
include H0 H1 A0 in
theorem Yvn (h:Zhd PG K b0 s1):W PG d b30 σ st Q:=
 q_ J (Yf (f:=Yu) (l:=[]) J (e_ (Xj7 hQ H0 H1 A0 h)))
end
theorem p30 {PG:Zb}(hf:PG.fn 30=some El){b0:BS}{s1:BS}{K:BS->Prop}(h:Zhd PG K b0 s1):Tl PG 30 (List.map Yu b0) [.s s1] fun rows=>∃x:BS,K x/\rows=List.map Yu x:=
  Tl.of hf rfl fun d st o ha=>Yvn (Q:=Sb d _ (Zro _)) (fun σ st' o' x h2 ha' hk=>⟨.sl o' (List.map Yu x),by simp only [El,Xk,Kg,h2],_,_,rfl,by simpa using ha',⟨_,hk,rfl⟩⟩) rfl rfl (by simpa using ha) h
abbrev Zg8:AC:=(.block 1 (sR 3 [oM 7 6,oV 8 .sub 7 1,oM 6 8] (sR 4 [oM 9 6,oM 10 0,oM 11 1,oT 12 .rem 10 11,oO 13 (.ixS (.c (.s [48,49,50,51,52,53,54,55,56,57,97,98,99,100,101,102])) (.t 12)),oO 14 (.iaA 64 1 (.t 5) (.t 9)),oS 1 14 13] (sR 5 [oM 15 0,oM 16 1,oT 17 .quo 15 16,oM 0 17] (sR 6 [oM 18 0,oB 19 .eql (.t 18) (.c (.i .u64 0))] (.cond (.t 19) (sR 7 [oM 20 6,oO 21 (.slA 64 1 (.t 5) (some (.t 20)) none),oO 22 (.b2s (.t 21)),oM 4 22] .ret) .skip))))))
abbrev b34:AC:=(sR 0 [oC 4 (.s [])] (sR 1 [oO 5 (.alloc [z8,z8,z8,z8,z8,z8,z8,z8,z8,z8,z8,z8,z8,z8,z8,z8,z8,z8,z8,z8,z8,z8,z8,z8,z8,z8,z8,z8,z8,z8,z8,z8,z8,z8,z8,z8,z8,z8,z8,z8,z8,z8,z8,z8,z8,z8,z8,z8,z8,z8,z8,z8,z8,z8,z8,z8,z8,z8,z8,z8,z8,z8,z8,z8])] (sR 2 [oI 6 64] (.block 0 (.loop Zg8)))))
def Zbe:AF:={ nt:=23,res:=[.tmp 4],body:=b34 }
abbrev Zuo (PG:Zb)(d:Nat)(Q:AE->Sl->St->Prop)(be:Int)(n0:Int)(at6:Int)(af:List (UInt8)):Prop:=
  ∀(σ:Sl)(st:St)(ei:Nat),σ 0=.i .u64 n0->σ 1=.i .u64 be->σ 5=.p (d,4096) ei 0->σ 6=.i .i64 at6->lk st.bx (d,4096)=some (ei,List.map c8 af)->W PG d (.loop Zg8) σ st (Yd 0 Q)
def Zop (PG:Zb)(K:BS->Prop)(P0:Int->Int->List (UInt8)->Prop)(n0:Int)(be:Int)(at6:Int)(af:List (UInt8)):Prop:=
  be≠0/\0<=((n0:Int).tmod be)/\∃c,([48,49,50,51,52,53,54,55,56,57,97,98,99,100,101,102]:BS)[((n0:Int).tmod be).toNat]?=some c/\0<=(IntKind.i64.wrap (at6-1))/\(IntKind.i64.wrap (at6-1)).toNat<64/\(IntKind.i64.wrap (at6-1)).toNat<af.length/\be≠0/\((IntKind.u64.wrap ((n0:Int).tdiv be))=0->(af.set ((IntKind.i64.wrap (at6-1)).toNat) c).length=64/\0<=(IntKind.i64.wrap (at6-1))/\(IntKind.i64.wrap (at6-1)).toNat<=64/\K ((af.set ((IntKind.i64.wrap (at6-1)).toNat) c).drop (IntKind.i64.wrap (at6-1)).toNat))/\(¬((IntKind.u64.wrap ((n0:Int).tdiv be))=0)->P0 (IntKind.u64.wrap ((n0:Int).tdiv be)) (IntKind.i64.wrap (at6-1)) (af.set ((IntKind.i64.wrap (at6-1)).toNat) c))
section
variable(PG:Zb)(K:BS->Prop)
def Zme (n0:Int)(be:Int):Prop:=
  ∀P0:Int->Int->List (UInt8)->Prop,(∀(n0:Int)(at6:Int)(af:List (UInt8)),Zop PG K P0 n0 be at6 af->P0 n0 at6 af)->P0 n0 64 (List.replicate 64 0)
end
section
variable {PG:Zb}{d:Nat}{Q:AE->Sl->St->Prop}{K:BS->Prop}(hQ:H1 AV.s 4 Q K){σ:Sl}{st:St}
include hQ
variable {n0 be at6:Int}{af:List (UInt8)}{P0:Int->Int->List (UInt8)->Prop}{ei:Nat}
variable (kP0 :∀(n0:Int)(at6:Int)(af:List (UInt8)),P0 n0 at6 af->Zuo PG d Q be n0 at6 af)(H0:σ 0=.i .u64 n0)(H1:σ 1=.i .u64 be)(H5:σ 5=.p (d,4096) ei 0)(H6:σ 6=.i .i64 at6)(bz:lk st.bx (d,4096)=some (ei,List.map c8 af))
include kP0 H0 H1 H5 H6 bz in
theorem Xic (h:Zop PG K P0 n0 be at6 af):W PG d Zg8 σ st (Zv PG d (.loop Zg8) (Yd 0 Q)):=
 Yn (q_ J (m_ (b_ H6 J Po (m_ (e_ (q_ J (m_ (m_ (m_ (b_ H0 H1 (Znw h.1) (h.2.2.elim fun i c=>Gc J J h.2.1 c.1 (Xbb H5 J c.2.1 c.2.2.1 (Ywu (f:=c8) (a:=i) Yrz J bz J c.2.2.2.1 (e_ (q_ J (m_ (m_ (b_ H0 H1 (Zgv c.2.2.2.2.1) (m_ (e_ (q_ J (m_ (b_ J J Xc (e_ (Yk J (fun e=>q_ J (m_ (Yjp H5 Zj (c.2.2.2.2.2.1 e).1 J J (c.2.2.2.2.2.1 e).2.1 (c.2.2.2.2.2.1 e).2.2.1 (Zdl J (m_ (Zr (hQ J (c.2.2.2.2.2.1 e).2.2.2))))))) (fun e=>Yg (kP0 _ _ _ (c.2.2.2.2.2.2 e) _ _ _ J H1 H5 J Zj)))))))))))))))))))))))))))
include H0 H1 in
theorem Yry (h:Zme PG K n0 be):W PG d b34 σ st Q:=
 q_ J (m_ (e_ (Zp (W.reg (Xo (e_ (q_ J (m_ (e_ (Yn (h (Zuo PG d Q be) (fun _ _ _ hb _ _ _ H0 H1 H5 H6 bz=>W.loop (Xic hQ (fun _ _ _ x=>x) H0 H1 H5 H6 bz hb)) _ _ _ H0 H1 J J (show lk _ (d,4096)=some (_,(List.map c8 (List.replicate 64 0):List AV)) from Zj))))))))))))
end
theorem p34 {PG:Zb}(hf:PG.fn 34=some Zbe){n0:Int}{be:Int}{K:BS->Prop}(h:Zme PG K n0 be) :∃x0:BS,K x0/\Ze PG 34 [.i .u64 n0,.i .u64 be] (.s x0):=
 P1 hf J (Yry (h1 J fun _=>J) J J h)
abbrev Ya0:AC:=(.reg 11 [oV 53 .add 14 1,oM 14 53])
abbrev Il:AC:=(sR 3 [oT 15 .lss 14 13] (.seq (.cond (.t 15) .skip (.exit 0)) (.seq (.block 1 (sR 4 [oM 16 14,oM 10 16] (sR 5 [oM 17 1,oO 18 (.slS (.c (.s [48,49,50,51,52,53,54,55,56,57,97,98,99,100,101,102])) none (some (.t 17))),oM 19 0,oM 20 10,oO 21 (.ixS (.t 19) (.t 20)),oQ 22 43 [18,21],oM 11 22] (.seq (sR 6 [oM 23 11,oV 24 .lss 23 0,oM 25 24,gF 25 (oM 26 10),gF 25 (oV 27 .eql 26 1),gF 25 (oM 28 27),gT 28 (oM 29 0),gT 28 (oO 30 (.ixS (.t 29) (.c (.i .i64 0)))),gT 28 (oW 31 .eql 30 48),gF 25 (oA 32 28 31),oR 33 25 32] (.cond (.t 33) (sR 7 [oC 6 (.i .u64 0),oI 7 12] .ret) .skip)) (sR 8 [oM 34 9,oM 35 34,gF 35 (oM 36 8),gF 35 (oM 37 2),gF 35 (oM 38 11),gF 35 (oO 39 (.cvi .u64 (.t 38))),gF 35 (oT 40 .sub 37 39),gF 35 (oM 41 1),gF 35 (oT 42 .quo 40 41),gF 35 (oT 43 .gtr 36 42),oR 44 35 43,oM 9 44] (sR 9 [oM 45 9,oZ 46 45] (.cond (.t 46) (.reg 10 [oM 47 8,oM 48 1,oT 49 .mul 47 48,oM 50 11,oO 51 (.cvi .u64 (.t 50)),oT 52 .add 49 51,oM 8 52]) .skip))))))) Ya0)))
abbrev Ap:AC:=(.seq (.block 2 (sR 12 [oM 55 0,oB 56 .eql (.t 55) (.c (.s [])),oM 54 56] (.cond (.t 54) (sR 13 [oC 6 (.i .u64 0),oI 7 12] .ret) (sR 14 [oM 58 9,oM 57 58] (.cond (.t 57) (sR 15 [oC 6 (.i .u64 0),oI 7 16] .ret) .skip))))) (sR 16 [oM 59 8,oM 6 59,oI 7 0] .ret))
abbrev Ycb:AC:=(.seq (sR 2 [oM 12 0,oH 13 12,oI 14 0] (.block 0 (.loop Il))) Ap)
abbrev Zse:AC:=(sR 1 [oC 8 (.i .u64 0),oC 9 (.b false)] Ycb)
abbrev b37:AC:=(sR 0 [oC 6 (.i .u64 0),oI 7 0] Zse)
def Zdj:AF:={ nt:=60,res:=[.tmp 6,.tmp 7],body:=b37 }
abbrev Zr0 (PG:Zb)(d:Nat)(Q:AE->Sl->St->Prop)(s0:BS)(be:Int)(cc:Int)(t13:Int)(n8:Int)(dd:Bool)(t14:Int):Prop:=
  ∀(σ:Sl)(st:St),σ 0=.s s0->σ 1=.i .u64 be->σ 2=.i .u64 cc->σ 8=.i .u64 n8->σ 9=.b dd->σ 13=.i .i64 t13->σ 14=.i .i64 t14->W PG d (.loop Il) σ st (Yd 0 (Zv PG d Ap Q))
def Sd (PG:Zb)(K:Int->Int->Prop)(P0:Int->Bool->Int->Prop)(s0:BS)(be:Int)(cc:Int)(n8:Int)(dd:Bool)(t13:Int)(t14:Int):Prop:=
  P0 n8 dd (IntKind.i64.wrap (t14+1))
def Zp7 (PG:Zb)(K:Int->Int->Prop)(s0:BS)(n8:Int)(dd:Bool):Prop:=
  (s0=([]:BS)->K 0 12)/\(¬(s0=([]:BS))->(dd=true->K 0 16)/\(dd=false->K n8 0))
section
variable(PG:Zb)(K:Int->Int->Prop)
def Zcu (P0:Int->Bool->Int->Prop)(s0:BS)(be:Int)(cc:Int)(n8:Int)(dd:Bool)(t13:Int)(t14:Int):Prop:=
  (t14<t13->0<=be/\(be).toNat<=([48,49,50,51,52,53,54,55,56,57,97,98,99,100,101,102]:BS).length/\0<=t14/\∃j:UInt8,s0[(t14).toNat]?=some j/\∃c,Ze PG 43 [.s (([48,49,50,51,52,53,54,55,56,57,97,98,99,100,101,102]:BS).take (be).toNat),.i .u8 (j.toNat:Int)] (.i .i64 c)/\(c<0->K 0 12)/\(¬(c<0)->(t14=1->∃e:UInt8,s0[0]?=some e/\((e.toNat:Int)=48->K 0 12)/\(¬((e.toNat:Int)=48)->(dd=true->Sd PG K P0 s0 be cc n8 true t13 t14)/\(dd=false->be≠0/\(¬(n8>(IntKind.u64.wrap (((IntKind.u64.wrap (cc-(IntKind.u64.wrap c))):Int).tdiv be)))->Sd PG K P0 s0 be cc (IntKind.u64.wrap ((IntKind.u64.wrap (n8*be))+(IntKind.u64.wrap c))) (decide (n8>(IntKind.u64.wrap (((IntKind.u64.wrap (cc-(IntKind.u64.wrap c))):Int).tdiv be)))) t13 t14)/\(¬(¬(n8>(IntKind.u64.wrap (((IntKind.u64.wrap (cc-(IntKind.u64.wrap c))):Int).tdiv be))))->Sd PG K P0 s0 be cc n8 (decide (n8>(IntKind.u64.wrap (((IntKind.u64.wrap (cc-(IntKind.u64.wrap c))):Int).tdiv be)))) t13 t14))))/\(¬(t14=1)->(dd=true->Sd PG K P0 s0 be cc n8 true t13 t14)/\(dd=false->be≠0/\(¬(n8>(IntKind.u64.wrap (((IntKind.u64.wrap (cc-(IntKind.u64.wrap c))):Int).tdiv be)))->Sd PG K P0 s0 be cc (IntKind.u64.wrap ((IntKind.u64.wrap (n8*be))+(IntKind.u64.wrap c))) (decide (n8>(IntKind.u64.wrap (((IntKind.u64.wrap (cc-(IntKind.u64.wrap c))):Int).tdiv be)))) t13 t14)/\(¬(¬(n8>(IntKind.u64.wrap (((IntKind.u64.wrap (cc-(IntKind.u64.wrap c))):Int).tdiv be))))->Sd PG K P0 s0 be cc n8 (decide (n8>(IntKind.u64.wrap (((IntKind.u64.wrap (cc-(IntKind.u64.wrap c))):Int).tdiv be)))) t13 t14)))))/\(¬(t14<t13)->Zp7 PG K s0 n8 dd)
def Zou (s0:BS)(be:Int)(cc:Int)(n8:Int)(dd:Bool):Prop:=
  ∀P0:Int->Bool->Int->Prop,(∀(n8:Int)(dd:Bool)(t14:Int),Zcu PG K P0 s0 be cc n8 dd (s0.length:Int) t14->P0 n8 dd t14)->P0 n8 dd 0
def Zhc (s0:BS)(be:Int)(cc:Int):Prop:=
  Zou PG K s0 be cc 0 false
def Zhs (s0:BS)(be:Int)(cc:Int):Prop:=
  Zhc PG K s0 be cc
end
section
variable {PG:Zb}{d:Nat}{Q:AE->Sl->St->Prop}{K:Int->Int->Prop}(hQ:H2 (AV.i .u64) (AV.i .i64) 6 7 Q K){σ:Sl}{st:St}
include hQ
variable {s0:BS}{be cc n8:Int}{dd:Bool}{t13 t14:Int}{P0:Int->Bool->Int->Prop}
variable (kP0 :∀(n8:Int)(dd:Bool)(t14:Int),P0 n8 dd t14->Zr0 PG d Q s0 be cc t13 n8 dd t14)(H0:σ 0=.s s0)(H1:σ 1=.i .u64 be)(H2:σ 2=.i .u64 cc)(H8:σ 8=.i .u64 n8)(H9:σ 9=.b dd)(H13:σ 13=.i .i64 t13)(H14:σ 14=.i .i64 t14)
include kP0 H0 H1 H2 H8 H9 H13 H14 in
theorem Xf5 (h:Sd PG K P0 s0 be cc n8 dd t13 t14):W PG d Ya0 σ st (Zv PG d (.loop Il) (Yd 0 (Zv PG d Ap Q))):=
 au trivial
include H0 H8 H9 in
theorem Yql (h:Zp7 PG K s0 n8 dd):W PG d Ap σ st Q:=
 au trivial
include kP0 H0 H1 H2 H8 H9 H13 H14 in
theorem Yg4 (h:Zcu PG K P0 s0 be cc n8 dd t13 t14):W PG d Il σ st (Zv PG d (.loop Il) (Yd 0 (Zv PG d Ap Q))):=
 au (And.intro @Xf5 @Yql)
include H0 H1 H2 H8 H9 in
theorem Yqs (h:Zou PG K s0 be cc n8 dd):W PG d Ycb σ st Q:=
 Zp (q_ J (m_ (Rg H0 (m_ (e_ (Yn (h (Zr0 PG d Q s0 be cc (s0.length:Int)) (fun _ _ _ hb _ _ H0 H1 H2 H8 H9 H13 H14=>W.loop (Yg4 hQ (fun _ _ _ x=>x) H0 H1 H2 H8 H9 H13 H14 hb)) _ _ H0 H1 H2 H8 H9 J J)))))))
include H0 H1 H2 in
theorem Xf9 (h:Zhc PG K s0 be cc):W PG d Zse σ st Q:=
 au @Yqs
include H0 H1 H2 in
theorem Yrd (h:Zhs PG K s0 be cc):W PG d b37 σ st Q:=
 q_ J (m_ (m_ (e_ (Xf9 hQ H0 H1 H2 h))))
end
theorem p37 {PG:Zb}(hf:PG.fn 37=some Zdj){s0:BS}{be:Int}{cc:Int}{K:Int->Int->Prop}(h:Zhs PG K s0 be cc) :∃x0:Int,∃x1:Int,K x0 x1/\Ze PG 37 [.s s0,.i .u64 be,.i .u64 cc] (.tup [.i .u64 x0,.i .i64 x1]):=
 P2 hf J (Yrd (h2 J fun _ _=>J) J J J h)
abbrev Ycq:AC:=(.reg 17 [oM 47 7,oM 48 8,oO 49 (.bslice [z8] 1 [(0,(.t 48))]),oO 50 (.app 1 1 (.t 47) (.t 49)),oM 7 50])
abbrev Em:AC:=(.seq (sR 5 [oM 17 5,oB 18 .neq (.t 17) (.c (.s []))] (.cond (.t 18) .skip (.exit 0))) (.block 1 (sR 6 [oM 19 5,oO 20 (.ixS (.t 19) (.c (.i .i64 0))),oM 8 20] (sR 7 [oM 21 5,oO 22 (.slS (.t 21) (some (.c (.i .i64 1))) none),oM 5 22] (.seq (.block 2 (sR 8 [oM 24 8,oW 25 .eql 24 34,oM 23 25] (.cond (.t 23) (sR 9 [oM 26 7,oO 27 (.b2s (.t 26)),oM 28 5,oM 2 27,oM 3 28,oC 4 (.b true)] .ret) (sR 10 [oM 30 8,oW 31 .lss 30 32,oM 32 31,gF 32 (oM 33 8),gF 32 (oW 34 .gtr 33 126),oR 35 32 34,oM 29 35] (.cond (.t 29) (sR 11 [oC 2 (.s []),oC 3 (.s []),oC 4 (.b false)] .ret) (sR 12 [oM 37 8,oW 38 .eql 37 92,oM 36 38] (.cond (.t 36) (sR 13 [oC 9 (.b false)] (sR 14 [oM 40 5,oQ 41 45 [40],oM 39 41,oE 42 0 39,oE 43 1 39,oE 44 2 39,oM 8 42,oM 5 43,oM 9 44] (sR 15 [oM 45 9,oZ 46 45] (.cond (.t 46) (sR 16 [oC 2 (.s []),oC 3 (.s []),oC 4 (.b false)] .ret) .skip)))) .skip))))))) Ycq)))))
abbrev Ep:AC:=(sR 18 [oC 2 (.s []),oC 3 (.s []),oC 4 (.b false)] .ret)
abbrev Zyl:AC:=(sR 1 [oM 11 0,oO 12 (.call false 36 [(.t 11),(.c (.s [34]))]),oM 10 12,oE 13 0 10,oE 14 1 10,oM 5 13,oM 6 14] (.seq (sR 2 [oM 15 6,oZ 16 15] (.cond (.t 16) (sR 3 [oC 2 (.s []),oC 3 (.s []),oC 4 (.b false)] .ret) .skip)) (sR 4 [oC 7 (.sl .full [])] (.seq (.block 0 (.loop Em)) Ep))))
abbrev b39:AC:=(sR 0 [oC 2 (.s []),oC 3 (.s []),oC 4 (.b false)] Zyl)
def Eh:AF:={ nt:=51,res:=[.tmp 2,.tmp 3,.tmp 4],body:=b39 }
abbrev Db (Q:AE->Sl->St->Prop)(K:BS->BS->Bool->Prop):Prop:=∀(σ:Sl)(st:St)(x0:BS)(x1:BS)(x2:Bool),σ 2=.s x0->σ 3=.s x1->σ 4=.b x2->K x0 x1 x2->Q .ret σ st
abbrev Zvq (PG:Zb)(d:Nat)(Q:AE->Sl->St->Prop)(cq:BS)(b7:BS):Prop:=
  ∀(σ:Sl)(st:St)(it:Zm),σ 5=.s cq->σ 7=.sl it (List.map Yu b7)->Xd d st.ow it b7.length->W PG d (.loop Em) σ st (Yd 0 (Zv PG d Ep Q))
def Za2 (PG:Zb)(K:BS->BS->Bool->Prop)(P0:BS->BS->Prop)(cq:BS)(b7:BS)(c8:Int):Prop:=
  ∃c:UInt8,c8=(c.toNat:Int)/\Qn (b7.length+[c].length) 1/\P0 cq (b7++[c])
def Yc8 (PG:Zb)(K:BS->BS->Bool->Prop) :Prop:=
  K ([]:BS) ([]:BS) false
section
variable(PG:Zb)(K:BS->BS->Bool->Prop)
def Zol (P0:BS->BS->Prop)(cq:BS)(b7:BS):Prop:=
  (cq≠([]:BS)->∃c:UInt8,cq[0]?=some c/\1<=cq.length/\((c.toNat:Int)=34->K b7 (cq.drop 1) true)/\(¬((c.toNat:Int)=34)->((c.toNat:Int)<32->K ([]:BS) ([]:BS) false)/\(¬((c.toNat:Int)<32)->((c.toNat:Int)>126->K ([]:BS) ([]:BS) false)/\(¬((c.toNat:Int)>126)->((c.toNat:Int)=92->∃j k e,Ze PG 45 [.s (cq.drop 1)] (.tup [.i .u8 j,.s k,.b e])/\((!e)=true->K ([]:BS) ([]:BS) false)/\((!e)=false->Za2 PG K P0 k b7 j))/\(¬((c.toNat:Int)=92)->Za2 PG K P0 (cq.drop 1) b7 (c.toNat:Int))))))/\(¬(cq≠([]:BS))->Yc8 PG K )
def Zqm (s0:BS):Prop:=
  ∃e c,Ze PG 36 [.s s0,.s ([34]:BS)] (.tup [.s e,.b c])/\((!c)=true->K ([]:BS) ([]:BS) false)/\((!c)=false->∀P0:BS->BS->Prop,(∀(cq:BS)(b7:BS),Zol PG K P0 cq b7->P0 cq b7)->P0 e ([]:BS))
def Zlc (s0:BS):Prop:=
  Zqm PG K s0
end
section
variable {PG:Zb}{d:Nat}{Q:AE->Sl->St->Prop}{K:BS->BS->Bool->Prop}(hQ:Db Q K){σ:Sl}{st:St}
include hQ
variable {cq b7:BS}{c8:Int}{P0:BS->BS->Prop}{it:Zm}{s0:BS}
variable (kP0 :∀(cq:BS)(b7:BS),P0 cq b7->Zvq PG d Q cq b7)(H0:σ 0=.s s0)(H5:σ 5=.s cq)(H7:σ 7=.sl it (List.map Yu b7))(H8:σ 8=.i .u8 c8)(A7:Xd d st.ow it b7.length)
include kP0 H5 H7 H8 A7 in
theorem Yba (h:Za2 PG K P0 cq b7 c8):W PG d Ycq σ st (Yd 1 (Zv PG d (.loop Em) (Yd 0 (Zv PG d Ep Q)))):=
 au trivial
theorem Yy0 (h:Yc8 PG K ):W PG d Ep σ st Q:=
 au trivial
include kP0 H5 H7 A7 in
theorem Yvu (h:Zol PG K P0 cq b7):W PG d Em σ st (Zv PG d (.loop Em) (Yd 0 (Zv PG d Ep Q))):=
 Zp (q_ J (m_ (b_ H5 J Sm (e_ (Yk J (fun o=>Yg (Yn (q_ J (m_ ((h.1 o).elim fun _ c=>Gc H5 J (by decide) c.1 (m_ (e_ (q_ J (m_ (Ho H5 J (by decide) c.2.1 (m_ (e_ (Zp (Yn (q_ J (m_ (b_ J J Xc (m_ (e_ (Yk J (fun e=>q_ J (Yf H7 (Zdl J (m_ (m_ (m_ (m_ (Zr (hQ _ _ _ _ _ J J J (c.2.2.1 e)))))))))) (fun e=>q_ J (Xf J (b_ J J Vc (Xl J (Xa (g:=32) J (fun i=>z_ 4 J (e_ (Xj J (q_ J (m_ (m_ (m_ (Zr (hQ _ _ _ _ _ J J J ((c.2.2.2 e).1 i)))))))))) (fun i=>Zd J (Xf J (Zd J (b_ J J Qb (z_ 2 J (e_ (Yk J (fun j=>q_ J (m_ (m_ (m_ (Zr (hQ _ _ _ _ _ J J J (((c.2.2.2 e).2 i).1 j))))))) (fun j=>q_ J (m_ (b_ J J Xc (m_ (e_ (Yk J (fun q=>q_ J (m_ (e_ (q_ J (m_ (x2 ((((c.2.2.2 e).2 i).2 j).1 q) fun _ _ r=>r.elim fun _ k=>Ya (Ys J J) k.1 (m_ (x_ J J (x_ J J (x_ J J (m_ (m_ (m_ (e_ (q_ J (m_ (Wo J (e_ (Wp J (fun p=>q_ J (m_ (m_ (m_ (Zr (hQ _ _ _ _ _ J J J (k.2.1 p))))))) (fun p=>Yg (Yba hQ kP0 J H7 J A7 (k.2.2 p)))))))))))))))))))))) (fun q=>Yg (Yba hQ kP0 J H7 J A7 ((((c.2.2.2 e).2 i).2 j).2 q))))))))))))))))))))))))))))))))))))))))) (fun o=>Jm (Yy0 hQ (h.2 o))))))))
include H0 in
theorem Ytf (h:Zqm PG K s0):W PG d Zyl σ st Q:=
 q_ J (m_ (x2 h fun _ _ c=>Ya (Je H0 J J) c.1 (m_ (x_ J J (x_ J J (m_ (m_ (e_ (Zp (q_ J (m_ (Wo J (e_ (Wp J (fun e=>q_ J (m_ (m_ (m_ (Zr (hQ _ _ _ _ _ J J J (c.2.1 e))))))) (fun e=>Yg (q_ J (Yf (f:=Yu) (l:=[]) J (e_ (Zp (Yn ((c.2.2 e) (Zvq PG d Q ) (fun _ _ hb _ _ _ H5 H7 A7=>W.loop (Yvu hQ (fun _ _ x=>x) H5 H7 A7 hb)) _ _ _ J J Xd.full)))))))))))))))))))))
include H0 in
theorem Xaf (h:Zlc PG K s0):W PG d b39 σ st Q:=
 q_ J (m_ (m_ (m_ (e_ (Ytf hQ H0 h)))))
end
theorem p39 {PG:Zb}(hf:PG.fn 39=some Eh){s0:BS}{K:BS->BS->Bool->Prop}(h:Zlc PG K s0) :∃x0:BS,∃x1:BS,∃x2:Bool,K x0 x1 x2/\Ze PG 39 [.s s0] (.tup [.s x0,.s x1,.b x2]):=by
  obtain ⟨v,hv,x0,x1,x2,hk,rfl⟩:=Ze.of (K:=fun v=>∃x0:BS,∃x1:BS,∃x2:Bool,K x0 x1 x2/\v=.tup [.s x0,.s x1,.b x2]) hf rfl (Xaf (σ:=Wc [.s s0]) (fun σ st   x0 x1 x2 H2 H3 H4 hk=>⟨.tup [.s x0,.s x1,.b x2],by simp only [Eh,Xk,Vb,H2,H3,H4,Kg,kJ],_,rfl,x0,x1,x2,hk,rfl⟩) rfl h)
  exact ⟨x0,x1,x2,hk,hv⟩
def Zjc:List AI:=[oU 2 0,oC 3 (.s []),oC 4 (.b false)]
abbrev Zt7:AC:=(.cond (.t 12) (sR 6 [oM 15 0,oO 16 (.ixS (.t 15) (.c (.i .i64 0))),oM 17 0,oO 18 (.slS (.t 17) (some (.c (.i .i64 1))) none),oM 2 16,oM 3 18,oC 4 (.b true)] .ret) (sR 7 [oW 20 .eql 11 110,oM 19 20] (.cond (.t 19) (sR 8 [oM 21 0,oO 22 (.slS (.t 21) (some (.c (.i .i64 1))) none),oU 2 10,oM 3 22,oC 4 (.b true)] .ret) (sR 9 [oW 24 .eql 11 120,oM 23 24] (.cond (.t 23) (.seq (sR 10 [oM 25 0,oH 26 25,oV 27 .lss 26 3] (.cond (.t 27) (sR 11 [oU 2 0,oC 3 (.s []),oC 4 (.b false)] .ret) .skip)) (sR 12 [oM 28 0,oO 29 (.ixS (.t 28) (.c (.i .i64 1))),oO 30 (.call false 43 [(.c (.s [48,49,50,51,52,53,54,55,56,57,97,98,99,100,101,102])),(.t 29)]),oM 31 0,oO 32 (.ixS (.t 31) (.c (.i .i64 2))),oO 33 (.call false 43 [(.c (.s [48,49,50,51,52,53,54,55,56,57,97,98,99,100,101,102])),(.t 32)]),oM 5 30,oM 6 33] (sR 13 [oM 34 5,oB 35 .mul (.c (.i .i64 16)) (.t 34),oM 36 6,oT 37 .add 35 36,oO 38 (.cvi .u8 (.t 37)),oM 7 38] (sR 14 [oM 39 7,oM 40 0,oO 41 (.slS (.t 40) (some (.c (.i .i64 3))) none),oM 42 5,oV 43 .geq 42 0,oM 44 43,gT 44 (oM 45 6),gT 44 (oV 46 .geq 45 0),oA 47 44 46,oM 48 47,gT 48 (oM 49 7),gT 48 (oW 50 .neq 49 10),oA 51 48 50,oM 52 51,gT 52 (oM 53 7),gT 52 (oW 54 .lss 53 32),gT 52 (oM 55 54),gF 55 (oM 56 7),gF 55 (oW 57 .gtr 56 126),gT 52 (oR 58 55 57),oA 59 52 58,oM 2 39,oM 3 41,oM 4 59] .ret)))) .skip)))))
abbrev Zxc:AC:=(.block 0 (.seq (sR 4 [oW 13 .eql 11 34,oM 12 13] (.cond (.t 12) .skip (.reg 5 [oW 14 .eql 11 92,oM 12 14]))) Zt7))
abbrev Zub:AC:=(.seq (sR 3 [oM 10 0,oO 11 (.ixS (.t 10) (.c (.i .i64 0)))] Zxc) (sR 15 Zjc .ret))
abbrev Yf6:AC:=(.seq (sR 1 [oM 8 0,oB 9 .eql (.t 8) (.c (.s []))] (.cond (.t 9) (sR 2 [oU 2 0,oC 3 (.s []),oC 4 (.b false)] .ret) .skip)) Zub)
abbrev b45:AC:=(sR 0 [oU 2 0,oC 3 (.s []),oC 4 (.b false)] Yf6)
def Ig:AF:={ nt:=60,res:=[.tmp 2,.tmp 3,.tmp 4],body:=b45 }
abbrev Hs (Q:AE->Sl->St->Prop)(K:Int->BS->Bool->Prop):Prop:=∀(σ:Sl)(st:St)(x0:Int)(x1:BS)(x2:Bool),σ 2=.i .u8 x0->σ 3=.s x1->σ 4=.b x2->K x0 x1 x2->Q .ret σ st
section
variable(PG:Zb)(K:Int->BS->Bool->Prop)
def Ov (s0:BS)(t11:Int)(t12:Bool):Prop:=
  (t12=true->∃k:UInt8,s0[0]?=some k/\1<=s0.length/\K (k.toNat:Int) (s0.drop 1) true)/\(t12=false->(t11=110->1<=s0.length/\K 10 (s0.drop 1) true)/\(¬(t11=110)->(t11=120->((s0.length:Int)<3->K 0 ([]:BS) false)/\(¬((s0.length:Int)<3)->∃j:UInt8,s0[1]?=some j/\∃e,Ze PG 43 [.s ([48,49,50,51,52,53,54,55,56,57,97,98,99,100,101,102]:BS),.i .u8 (j.toNat:Int)] (.i .i64 e)/\∃o:UInt8,s0[2]?=some o/\∃c,Ze PG 43 [.s ([48,49,50,51,52,53,54,55,56,57,97,98,99,100,101,102]:BS),.i .u8 (o.toNat:Int)] (.i .i64 c)/\3<=s0.length/\(e>=0->(c>=0->((IntKind.u8.wrap (IntKind.i64.wrap ((IntKind.i64.wrap (16*e))+c)))≠10->((IntKind.u8.wrap (IntKind.i64.wrap ((IntKind.i64.wrap (16*e))+c)))<32->K (IntKind.u8.wrap (IntKind.i64.wrap ((IntKind.i64.wrap (16*e))+c))) (s0.drop 3) true)/\(¬((IntKind.u8.wrap (IntKind.i64.wrap ((IntKind.i64.wrap (16*e))+c)))<32)->K (IntKind.u8.wrap (IntKind.i64.wrap ((IntKind.i64.wrap (16*e))+c))) (s0.drop 3) (decide ((IntKind.u8.wrap (IntKind.i64.wrap ((IntKind.i64.wrap (16*e))+c)))>126))))/\(¬((IntKind.u8.wrap (IntKind.i64.wrap ((IntKind.i64.wrap (16*e))+c)))≠10)->K (IntKind.u8.wrap (IntKind.i64.wrap ((IntKind.i64.wrap (16*e))+c))) (s0.drop 3) false))/\(¬(c>=0)->K (IntKind.u8.wrap (IntKind.i64.wrap ((IntKind.i64.wrap (16*e))+c))) (s0.drop 3) false))/\(¬(e>=0)->K (IntKind.u8.wrap (IntKind.i64.wrap ((IntKind.i64.wrap (16*e))+c))) (s0.drop 3) false)))/\(¬(t11=120)->K 0 ([]:BS) false)))
def Zqa (s0:BS)(t11:Int):Prop:=
  (t11=34->Ov PG K s0 t11 (decide (t11=34)))/\(¬(t11=34)->Ov PG K s0 t11 (decide (t11=92)))
def Znn (s0:BS):Prop:=
  ∃c:UInt8,s0[0]?=some c/\Zqa PG K s0 (c.toNat:Int)
def Zq8 (s0:BS):Prop:=
  (s0=([]:BS)->K 0 ([]:BS) false)/\(¬(s0=([]:BS))->Znn PG K s0)
def Zi7 (s0:BS):Prop:=
  Zq8 PG K s0
end
section
variable {PG:Zb}{d:Nat}{Q:AE->Sl->St->Prop}{K:Int->BS->Bool->Prop}(hQ:Hs Q K){σ:Sl}{st:St}
include hQ
variable {s0:BS}{t11:Int}{t12:Bool}
variable (H0:σ 0=.s s0)(H11:σ 11=.i .u8 t11)(H12:σ 12=.b t12)
include H0 H11 H12 in
theorem Xft (h:Ov PG K s0 t11 t12):W PG d Zt7 σ st (Yd 0 (Zv PG d (sR 15 Zjc .ret) Q)):=
 au trivial
include H0 H11 in
theorem Yng (h:Zqa PG K s0 t11):W PG d Zxc σ st (Zv PG d (sR 15 Zjc .ret) Q):=
 au @Xft
include H0 in
theorem Ygc (h:Znn PG K s0):W PG d Zub σ st Q:=
 au @Yng
include H0 in
theorem Yr8 (h:Zq8 PG K s0):W PG d Yf6 σ st Q:=
 au @Ygc
include H0 in
theorem Yqd (h:Zi7 PG K s0):W PG d b45 σ st Q:=
 au @Yr8
end
theorem p45 {PG:Zb}(hf:PG.fn 45=some Ig){s0:BS}{K:Int->BS->Bool->Prop}(h:Zi7 PG K s0) :∃x0:Int,∃x1:BS,∃x2:Bool,K x0 x1 x2/\Ze PG 45 [.s s0] (.tup [.i .u8 x0,.s x1,.b x2]):=by
  obtain ⟨v,hv,x0,x1,x2,hk,rfl⟩:=Ze.of (K:=fun v=>∃x0:Int,∃x1:BS,∃x2:Bool,K x0 x1 x2/\v=.tup [.i .u8 x0,.s x1,.b x2]) hf rfl (Yqd (σ:=Wc [.s s0]) (fun σ st   x0 x1 x2 H2 H3 H4 hk=>⟨.tup [.i .u8 x0,.s x1,.b x2],by simp only [Ig,Xk,Vb,H2,H3,H4,Kg,kJ],_,rfl,x0,x1,x2,hk,rfl⟩) rfl h)
  exact ⟨x0,x1,x2,hk,hv⟩
end Go.AM

namespace Go.AM
open Go
set_option maxRecDepth 4000
set_option maxHeartbeats 2000000
attribute [local irreducible] Decidable.decide W WO Xq We
abbrev Vs (Q:AE->Sl->St->Prop)(K:BS->Prop):Prop:=∀(σ:Sl)(st:St)(x0:BS),σ 2=.s x0->K x0->Q .ret σ st
section
variable {PG:Zb}{d:Nat}{Q:AE->Sl->St->Prop}{K:BS->Prop}(hQ:Vs Q K){σ:Sl}{st:St}
include hQ
end
abbrev Js (Q:AE->Sl->St->Prop)(K:Int->Int->Prop):Prop:=∀(σ:Sl)(st:St)(x0:Int)(x1:Int),σ 2=.i .i64 x0->σ 3=.i .i64 x1->K x0 x1->Q .ret σ st
section
variable {PG:Zb}{d:Nat}{Q:AE->Sl->St->Prop}{K:Int->Int->Prop}(hQ:Js Q K){σ:Sl}{st:St}
include hQ
end
abbrev Ge (Q:AE->Sl->St->Prop)(K:BS->Int->Prop):Prop:=∀(σ:Sl)(st:St)(x0:BS)(x1:Int),σ 2=.s x0->σ 3=.i .i64 x1->K x0 x1->Q .ret σ st
section
variable {PG:Zb}{d:Nat}{Q:AE->Sl->St->Prop}{K:BS->Int->Prop}(hQ:Ge Q K){σ:Sl}{st:St}
include hQ
end
abbrev Zej:AC:=(.seq (sR 4 [oM 11 5,oM 12 0,oJ 13 12,oT 14 .lss 11 13] (.cond (.t 14) .skip (.exit 0))) (.seq (.block 1 (sR 6 [oM 17 0,oM 18 5,oX 19 1 17 18,oL 20 19,oM 21 1,oM 22 5,oX 23 1 21 22,oL 24 23,oT 25 .neq 20 24] (.cond (.t 25) (sR 7 [oC 4 (.b false)] .ret) .skip))) (.reg 5 [oM 15 5,oV 16 .add 15 1,oM 5 16])))
abbrev Zf7:AC:=(sR 8 [oC 4 (.b true)] .ret)
abbrev b29:AC:=(sR 0 [oC 4 (.b false)] (.seq (sR 1 [oM 6 0,oJ 7 6,oM 8 1,oJ 9 8,oT 10 .neq 7 9] (.cond (.t 10) (sR 2 [oC 4 (.b false)] .ret) .skip)) (.seq (sR 3 [oI 5 0] (.block 0 (.loop Zej))) Zf7)))
def Ze8:AF:={ nt:=26,res:=[.tmp 4],body:=b29 }
abbrev Zxw (PG:Zb)(d:Nat)(Q:AE->Sl->St->Prop)(a0:LB)(b1:LB)(i5:Int):Prop:=
  ∀(σ:Sl)(st:St) (fx fy:Zm),σ 0=.sl fx (List.map Zt a0)->σ 1=.sl fy (List.map Zt b1)->σ 5=.i .i64 i5->W PG d (.loop Zej) σ st (Yd 0 (Zv PG d Zf7 Q))
def Znd (PG:Zb)(K:Bool->Prop) :Prop:=
  K true
section
variable(PG:Zb)(K:Bool->Prop)
def Zfg (P0:Int->Prop)(a0:LB)(b1:LB)(i5:Int):Prop:=
  (i5<(a0.length:Int)->0<=i5/\∃e,a0[(i5).toNat]?=some e/\0<=i5/\∃c,b1[(i5).toNat]?=some c/\(e≠c->K false)/\(¬(e≠c)->P0 (IntKind.i64.wrap (i5+1))))/\(¬(i5<(a0.length:Int))->Znd PG K )
def Zpf (a0:LB)(b1:LB):Prop:=
  ((a0.length:Int)≠(b1.length:Int)->K false)/\(¬((a0.length:Int)≠(b1.length:Int))->∀P0:Int->Prop,(∀(i5:Int),Zfg PG K P0 a0 b1 i5->P0 i5)->P0 0)
end
section
variable {PG:Zb}{d:Nat}{Q:AE->Sl->St->Prop}{K:Bool->Prop}(hQ:H1 AV.b 4 Q K){σ:Sl}{st:St}
include hQ
variable {a0 b1:LB}{i5:Int}{P0:Int->Prop}{fx fy:Zm}
variable (kP0 :∀(i5:Int),P0 i5->Zxw PG d Q a0 b1 i5)(H0:σ 0=.sl fx (List.map Zt a0))(H1:σ 1=.sl fy (List.map Zt b1))(H5:σ 5=.i .i64 i5)
theorem Xeh (h:Znd PG K ):W PG d Zf7 σ st Q:=
 au trivial
include kP0 H0 H1 H5 in
theorem Yo7 (h:Zfg PG K P0 a0 b1 i5):W PG d Zej σ st (Zv PG d (.loop Zej) (Yd 0 (Zv PG d Zf7 Q))):=
 au @Xeh
include H0 H1 in
theorem Yiu (h:Zpf PG K a0 b1):W PG d b29 σ st Q:=
 q_ J (m_ (e_ (Zp (q_ J (Yf H0 (Wk J (Yf H1 (Wk J (b_ J J Jc (e_ (Yk J (fun c=>q_ J (m_ (Zr (hQ J (h.1 c))))) (fun c=>Yg (Zp (q_ J (m_ (e_ (Yn ((h.2 c) (Zxw PG d Q a0 b1) (fun _ hb _ _ _ _ H0 H1 H5=>W.loop (Yo7 hQ (fun _ x=>x) H0 H1 H5 hb)) _ _ _ _ H0 H1 J))))))))))))))))))
end
theorem p29 {PG:Zb}(hf:PG.fn 29=some Ze8){a0:LB}{b1:LB}{K:Bool->Prop}(h:Zpf PG K a0 b1) :∃x0:Bool,K x0/\Ze PG 29 [.sl .ext (List.map Zt a0),.sl .ext (List.map Zt b1)] (.b x0):=
 P1 hf J (Yiu (h1 J fun _=>J) J J h)
abbrev Tw (Q:AE->Sl->St->Prop)(K:BS->Prop):Prop:=∀(σ:Sl)(st:St)(x0:BS),σ 2=.s x0->K x0->Q .ret σ st
section
variable {PG:Zb}{d:Nat}{Q:AE->Sl->St->Prop}{K:BS->Prop}(hQ:Tw Q K){σ:Sl}{st:St}
include hQ
end
abbrev H35 (Q:AE->Sl->St->Prop)(K:BS->Prop):Prop:=∀(σ:Sl)(st:St)(x0:BS),σ 4=.s x0->K x0->Q .ret σ st
section
variable {PG:Zb}{d:Nat}{Q:AE->Sl->St->Prop}{K:BS->Prop}(hQ:H35 Q K){σ:Sl}{st:St}
include hQ
end
abbrev Uz (Q:AE->Sl->St->Prop)(K:Int->Int->Prop):Prop:=∀(σ:Sl)(st:St)(x0:Int)(x1:Int),σ 6=.i .u64 x0->σ 7=.i .i64 x1->K x0 x1->Q .ret σ st
section
variable {PG:Zb}{d:Nat}{Q:AE->Sl->St->Prop}{K:Int->Int->Prop}(hQ:Uz Q K){σ:Sl}{st:St}
include hQ
end
abbrev Gm (Q:AE->Sl->St->Prop)(K:BS->BS->Bool->Prop):Prop:=∀(σ:Sl)(st:St)(x0:BS)(x1:BS)(x2:Bool),σ 2=.s x0->σ 3=.s x1->σ 4=.b x2->K x0 x1 x2->Q .ret σ st
section
variable {PG:Zb}{d:Nat}{Q:AE->Sl->St->Prop}{K:BS->BS->Bool->Prop}(hQ:Gm Q K){σ:Sl}{st:St}
include hQ
end
abbrev Sz (Q:AE->Sl->St->Prop)(K:BS->Prop):Prop:=∀(σ:Sl)(st:St)(x0:BS),σ 2=.s x0->K x0->Q .ret σ st
section
variable {PG:Zb}{d:Nat}{Q:AE->Sl->St->Prop}{K:BS->Prop}(hQ:Sz Q K){σ:Sl}{st:St}
include hQ
end
abbrev Us (Q:AE->Sl->St->Prop)(K:Int->Prop):Prop:=∀(σ:Sl)(st:St)(x0:Int),σ 4=.i .i64 x0->K x0->Q .ret σ st
section
variable {PG:Zb}{d:Nat}{Q:AE->Sl->St->Prop}{K:Int->Prop}(hQ:Us Q K){σ:Sl}{st:St}
include hQ
end
end Go.AM

namespace Go.AM
open Go
set_option maxRecDepth 4000
set_option maxHeartbeats 2000000
attribute [local irreducible] Decidable.decide W WO Xq We
abbrev H71 (Q:AE->Sl->St->Prop)(K:Bool->Prop):Prop:=∀(σ:Sl)(st:St)(aa:Bool),σ 2=.b aa->K aa->Q .ret σ st
section
variable {PG:Zb}{d:Nat}{Q:AE->Sl->St->Prop}{K:Bool->Prop}(hQ:H71 Q K){σ:Sl}{st:St}
include hQ
end
abbrev b72:AC:=(sR 0 [oY 1 5 0,oC 2 (.s []),oI 3 0] (.seq (sR 1 [oK 7 5 1,oQ 8 76 [7],oM 4 8] (sR 2 [oM 9 4,oV 10 .neq 9 0] (.cond (.t 10) (sR 3 [oM 11 4,oC 2 (.s []),oM 3 11] .ret) .skip))) (sR 1000004 [oO 5 (.alloc [.np,.sl .full []])] (.seq (sR 5 [oK 12 5 1,oO 13 (.call true 104 [(.t 5),(.t 12)]),oM 6 13] (sR 6 [oM 14 6,oV 15 .neq 14 0] (.cond (.t 15) (sR 7 [oM 16 6,oC 2 (.s []),oM 3 16] .ret) .skip))) (sR 8 [oO 17 (.call true 105 [(.t 5)]),oM 2 17,oI 3 0] .ret)))))
def Zbv:AF:={ nt:=18,res:=[.tmp 2,.tmp 3],body:=b72 }
section
variable(PG:Zb)(K:BS->Int->Prop)
def Zpd (v0:Za):Prop:=
  ∃c,Ze PG 76 [v0.av] (.i .i64 c)/\(c≠0->K ([]:BS) c)/\(¬(c≠0)->∃e,∃k:BS,Yt PG 104 (Bl ([]:BS)) [v0.av] (fun r=>r=.i .i64 e) ((Bl k))/\(e≠0->K ([]:BS) e)/\(¬(e≠0)->∃j,Yt PG 105 (Bl k) [] (fun r=>r=.s j) (fun _ _ _ _=>True)/\K j 0))
end
section
variable {PG:Zb}{d:Nat}{Q:AE->Sl->St->Prop}{K:BS->Int->Prop}(hQ:H2 AV.s (AV.i .i64) 2 3 Q K){σ:Sl}{st:St}
include hQ
variable {v0:Za}
variable (H0:σ 0=v0.av)
include H0 in
theorem Xa1 (h:Zpd PG K v0):W PG d b72 σ st Q:=
 q_ J (Qa H0 J (m_ (m_ (e_ (Zp (q_ J (l_ J Zj J J (h.elim fun _ e=>Ya (Ys J J) e.1 (m_ (e_ (q_ J (m_ (b_ J J Jc (e_ (Yk J (fun j=>q_ J (m_ (m_ (m_ (Zr (hQ J J (e.2.1 j))))))) (fun j=>Yg (Zp (W.regB J (fun _ _ _ q r=>Zp (q_ J (l_ J ((r (d,0) (Wa J)).trans Zj) J J ((e.2.2 j).elim fun _ o=>o.elim fun _ c=>Xz (Zz J (Zz J Yq)) c.1 (kC d) q (fun _ p _=>m_ (e_ (q_ J (m_ (b_ J J Jc (e_ (Yk J (fun i=>q_ J (m_ (m_ (m_ (Zr (hQ J J (c.2.1 i))))))) (fun i=>Yg (q_ J ((c.2.2 i).elim fun _ k=>Xz (Zz J Yq) k.1 (kC d) p (fun _ _ _=>m_ (m_ (Zr (hQ J J k.2))))))))))))))))))))))))))))))))))))
end
theorem p72 {PG:Zb}(hf:PG.fn 72=some Zbv){v0:Za}{K:BS->Int->Prop}(h:Zpd PG K v0) :∃aa:BS,∃ae:Int,K aa ae/\Ze PG 72 [v0.av] (.tup [.s aa,.i .i64 ae]):=
 P2 hf J (Xa1 (h2 J fun _ _=>J) J h)
abbrev H73 (Q:AE->Sl->St->Prop)(K:BS->Int->Prop):Prop:=∀(σ:Sl)(st:St)(aa:BS)(ae:Int),σ 2=.s aa->σ 3=.i .i64 ae->K aa ae->Q .ret σ st
section
variable {PG:Zb}{d:Nat}{Q:AE->Sl->St->Prop}{K:BS->Int->Prop}(hQ:H73 Q K){σ:Sl}{st:St}
include hQ
end
abbrev b76:AC:=(sR 0 [oY 1 5 0,oI 2 0] (.seq (sR 1 [oK 6 5 1,oO 7 (.call false 109 [(.t 6),(.c (.i .i64 130))]),oM 5 7,oE 8 0 5,oE 9 1 5,oM 3 8,oM 4 9] (sR 2 [oM 10 4,oZ 11 10] (.cond (.t 11) (sR 3 [oI 2 8] .ret) .skip))) (sR 4 [oI 2 0] .ret)))
def Zg0:AF:={ nt:=12,res:=[.tmp 2],body:=b76 }
section
variable(PG:Zb)(K:Int->Prop)
def Zq0 (v0:Za):Prop:=
  ∃e c,Ze PG 109 [v0.av,.i .i64 130] (.tup [.i .i64 e,.b c])/\((!c)=true->K 8)/\((!c)=false->K 0)
end
section
variable {PG:Zb}{d:Nat}{Q:AE->Sl->St->Prop}{K:Int->Prop}(hQ:H1 (AV.i .i64) 2 Q K){σ:Sl}{st:St}
include hQ
variable {v0:Za}
variable (H0:σ 0=v0.av)
include H0 in
theorem Yi8 (h:Zq0 PG K v0):W PG d b76 σ st Q:=
 au trivial
end
theorem p76 {PG:Zb}(hf:PG.fn 76=some Zg0){v0:Za}{K:Int->Prop}(h:Zq0 PG K v0) :∃aa:Int,K aa/\Ze PG 76 [v0.av] (.i .i64 aa):=
 P1 hf J (Yi8 (h1 J fun _=>J) J h)
abbrev H77 (Q:AE->Sl->St->Prop)(K:Int->Prop):Prop:=∀(σ:Sl)(st:St)(aa:Int),σ 2=.i .i64 aa->K aa->Q .ret σ st
section
variable {PG:Zb}{d:Nat}{Q:AE->Sl->St->Prop}{K:Int->Prop}(hQ:H77 Q K){σ:Sl}{st:St}
include hQ
end
abbrev Ti (Q:AE->Sl->St->Prop)(K:Bool->Prop):Prop:=∀(σ:Sl)(st:St)(aa:Bool),σ 4=.b aa->K aa->Q .ret σ st
section
variable {PG:Zb}{d:Nat}{Q:AE->Sl->St->Prop}{K:Bool->Prop}(hQ:Ti Q K){σ:Sl}{st:St}
include hQ
end
abbrev Tx (Q:AE->Sl->St->Prop)(K:Int->Prop):Prop:=∀(σ:Sl)(st:St)(aa:Int),σ 2=.i .i64 aa->K aa->Q .ret σ st
section
variable {PG:Zb}{d:Nat}{Q:AE->Sl->St->Prop}{K:Int->Prop}(hQ:Tx Q K){σ:Sl}{st:St}
include hQ
end
def Zzr:List AI:=[oV 37 .add 22 1,oM 22 37]
abbrev Zwm:AC:=(sR 8 [oM 31 0,oK 32 5 9,oO 33 (.call true 104 [(.t 31),(.t 32)]),oM 10 33] (sR 9 [oM 34 10,oV 35 .neq 34 0] (.cond (.t 35) (sR 10 [oM 36 10,oM 4 36] .ret) .skip)))
abbrev Oa:AC:=(sR 4 [oT 23 .lss 22 21] (.seq (.cond (.t 23) .skip (.exit 1)) (.seq (.block 2 (sR 5 [oM 24 22,oX 25 5 20 22,oK 26 5 25,oO 9 (.alloc [z8,z6,zs,zl,zb]),oM 8 24,oS 5 9 26] (.seq (sR 6 [oM 27 8,oV 28 .gtr 27 0] (.cond (.t 28) (.reg 7 [oM 29 0,oO 30 (.call true 126 [(.t 29),(.c (.s [44,32]))])]) .skip)) Zwm))) (.reg 11 Zzr))))
abbrev It:AC:=(.reg 12 [oM 38 0,oM 39 5,oO 40 (.slS (.t 39) (some (.c (.i .i64 1))) none),oO 41 (.call true 126 [(.t 38),(.t 40)])])
abbrev Ztb:AC:=(.cond (.t 82) (.reg 24 [oM 90 0,oO 91 (.call true 126 [(.t 90),(.c (.s [38,46,46,46]))])]) (sR 25 [oF 93 0 3,oL 94 93,oW 95 .eql 94 4,oM 96 95,gT 96 (oF 97 3 3),gT 96 (oL 98 97),gT 96 (oJ 99 98),gT 96 (oV 100 .eql 99 0),oA 101 96 100,oM 92 101] (.cond (.t 92) (.reg 26 [oM 102 0,oO 103 (.call true 126 [(.t 102),(.c (.s [110,105,108]))])]) (sR 27 [oF 105 0 3,oL 106 105,oW 107 .eql 106 4,oM 104 107] (.cond (.t 104) (sR 28 [oM 108 0,oO 109 (.call true 126 [(.t 108),(.c (.s [38]))])] (sR 29 [oM 110 0,oF 111 3 3,oL 112 111,oO 113 (.iaL 5 (.t 112) (.c (.i .i64 0))),oK 114 5 113,oO 115 (.call true 104 [(.t 110),(.t 114)]),oM 4 115] .ret)) (sR 30 [oF 117 4 3,oL 118 117,oM 116 118] (.cond (.t 116) (.reg 31 [oM 119 0,oO 120 (.call true 126 [(.t 119),(.c (.s [60,46,46,46,62]))])]) (sR 2 [oM 15 0,oM 16 5,oO 17 (.slS (.t 16) none (some (.c (.i .i64 1)))),oO 18 (.call true 126 [(.t 15),(.t 17)])] (.seq (sR 3 [oF 19 3 3,oL 20 19,oJ 21 20,oI 22 0] (.block 1 (.loop Oa))) It)))))))))
abbrev Zxu:AC:=(.cond (.t 68) (sR 20 [oF 73 2 3,oL 74 73,oQ 75 11 [74],oM 72 75,oE 76 0 72,oE 77 1 72,oM 6 76,oM 7 77] (sR 21 [oM 78 0,oM 79 6,oO 80 (.call true 126 [(.t 78),(.t 79)])] (sR 22 [oM 81 7,oM 4 81] .ret))) (sR 23 [oF 83 0 3,oL 84 83,oW 85 .eql 84 4,oM 86 85,gT 86 (oF 87 4 3),gT 86 (oL 88 87),oA 89 86 88,oM 82 89] Ztb))
abbrev Yc1:AC:=(.cond (.t 59) (.reg 18 [oM 63 0,oF 64 1 3,oL 65 64,oQ 66 15 [65],oO 67 (.call true 126 [(.t 63),(.t 66)])]) (sR 19 [oF 69 0 3,oL 70 69,oW 71 .eql 70 3,oM 68 71] Zxu))
abbrev Zvi:AC:=(.cond (.t 53) (.reg 16 [oM 57 0,oO 58 (.call true 126 [(.t 57),(.c (.s [102,97,108,115,101]))])]) (sR 17 [oF 60 0 3,oL 61 60,oW 62 .eql 61 2,oM 59 62] Yc1))
abbrev Zs1:AC:=(.cond (.t 42) (.reg 14 [oM 51 0,oO 52 (.call true 126 [(.t 51),(.c (.s [116,114,117,101]))])]) (sR 15 [oF 54 0 3,oL 55 54,oW 56 .eql 55 1,oM 53 56] Zvi))
abbrev Ba:AC:=(sR 32 [oI 4 0] .ret)
abbrev Yer:AC:=(.seq (.block 0 (sR 13 [oF 43 0 3,oL 44 43,oW 45 .eql 44 1,oM 46 45,gT 46 (oF 47 1 3),gT 46 (oL 48 47),gT 46 (oV 49 .eql 48 1),oA 50 46 49,oM 42 50] Zs1)) Ba)
abbrev Yde:AC:=(sR 1 [oO 11 (.build [zs,zs,zs,zs,zs,zs,zs,zs] [(5,1,(.c (.s [123,125]))),(6,1,(.c (.s [91,93]))),(7,1,(.c (.s [60,62])))]),oF 12 0 3,oL 13 12,oO 14 (.ixA 8 1 false (.t 11) (.t 13)),oM 5 14] Yer)
abbrev Ztk:AC:=(sR 0 [oY 3 5 1,oI 4 0] Yde)
def Pm:AF:={ nt:=121,res:=[.tmp 4],body:=Ztk }
abbrev Yxv (d:Nat)(Zk:St)(kp:Zo)(vp:Nat)(Q:AE->Sl->St->Prop)(K:Int->BS->Prop):Prop:=∀(σ:Sl)(st:St)(aa:Int)(b_:BS),σ 4=.i .i64 aa->Bl b_ st.bx st.ow kp vp->Fr d kp Zk.bx Zk.ow st.bx st.ow->K aa b_->Q .ret σ st
def Dr (PG:Zb)(K:Int->BS->Prop)(mP:BS):Prop:=
  K 0 mP
abbrev Zqo (PG:Zb)(d:Nat)(Q:AE->Sl->St->Prop)(Zk:St)(kp:Zo)(vp:Nat)(bq:BS)(t20:List Za)(t21:Int)(t22:Int)(mP:BS):Prop:=
  ∀(σ:Sl)(st:St)(fw:Zm),σ 0=.p kp vp 0->σ 5=.s bq->σ 20=.sl fw (List.map Za.row t20)->σ 21=.i .i64 t21->σ 22=.i .i64 t22->Bl mP st.bx st.ow kp vp->Fr d kp Zk.bx Zk.ow st.bx st.ow->W PG d (.loop Oa) σ st (Yd 1 (Zv PG d It (Yd 0 (Zv PG d Ba Q))))
section
variable(PG:Zb)(K:Int->BS->Prop)
def Zb8 (P0:Int->BS->Prop)(bq:BS)(t20:List Za)(t21:Int)(t22:Int)(gn:Za)(mP:BS):Prop:=
  ∃c,∃e:BS,Yt PG 104 (Bl mP) [gn.av] (fun r=>r=.i .i64 c) ((Bl e))/\(c≠0->K c e)/\(¬(c≠0)->P0 (IntKind.i64.wrap (t22+1)) e)
def Zkg (bq:BS)(mP:BS):Prop:=
  1<=bq.length/\∃e,∃c:BS,Yt PG 126 (Bl mP) [.s (bq.drop 1)] (fun r=>r=.tup [.i .i64 e,.ni]) ((Bl c))/\Dr PG K c
def Pp (P0:Int->BS->Prop)(bq:BS)(t20:List Za)(t21:Int)(t22:Int)(mP:BS):Prop:=
  (t22<t21->0<=t22/\∃c,t20[(t22).toNat]?=some c/\(t22>0->∃j,∃e:BS,Yt PG 126 (Bl mP) [.s ([44,32]:BS)] (fun r=>r=.tup [.i .i64 j,.ni]) ((Bl e))/\Zb8 PG K P0 bq t20 t21 t22 c e)/\(¬(t22>0)->Zb8 PG K P0 bq t20 t21 t22 c mP))/\(¬(t22<t21)->Zkg PG K bq mP)
def Cc (bq:BS)(t82:Bool)(m0:Za)(mP:BS):Prop:=
  (t82=true->∃e,∃c:BS,Yt PG 126 (Bl mP) [.s ([38,46,46,46]:BS)] (fun r=>r=.tup [.i .i64 e,.ni]) ((Bl c))/\Dr PG K c)/\(t82=false->(m0.kind=4->((m0.list.length:Int)=0->∃a3,∃x:BS,Yt PG 126 (Bl mP) [.s ([110,105,108]:BS)] (fun r=>r=.tup [.i .i64 a3,.ni]) ((Bl x))/\Dr PG K x)/\(¬((m0.list.length:Int)=0)->(m0.kind=4->∃a8,∃p:BS,Yt PG 126 (Bl mP) [.s ([38]:BS)] (fun r=>r=.tup [.i .i64 a8,.ni]) ((Bl p))/\∃v:Za,m0.list[0]?=some v/\∃z,∃w:BS,Yt PG 104 (Bl p) [v.av] (fun r=>r=.i .i64 z) ((Bl w))/\K z w)/\(¬(m0.kind=4)->(m0.cut=true->∃a6,∃u:BS,Yt PG 126 (Bl mP) [.s ([60,46,46,46,62]:BS)] (fun r=>r=.tup [.i .i64 a6,.ni]) ((Bl u))/\Dr PG K u)/\(m0.cut=false->1<=bq.length/\∃a5,∃o:BS,Yt PG 126 (Bl mP) [.s (bq.take 1)] (fun r=>r=.tup [.i .i64 a5,.ni]) ((Bl o))/\∀P0:Int->BS->Prop,(∀(t22:Int)(mP:BS),Pp PG K P0 bq m0.list (m0.list.length:Int) t22 mP->P0 t22 mP)->P0 0 o))))/\(¬(m0.kind=4)->(m0.kind=4->∃a4,∃j:BS,Yt PG 126 (Bl mP) [.s ([38]:BS)] (fun r=>r=.tup [.i .i64 a4,.ni]) ((Bl j))/\∃q:Za,m0.list[0]?=some q/\∃y,∃a0:BS,Yt PG 104 (Bl j) [q.av] (fun r=>r=.i .i64 y) ((Bl a0))/\K y a0)/\(¬(m0.kind=4)->(m0.cut=true->∃a7,∃a1:BS,Yt PG 126 (Bl mP) [.s ([60,46,46,46,62]:BS)] (fun r=>r=.tup [.i .i64 a7,.ni]) ((Bl a1))/\Dr PG K a1)/\(m0.cut=false->1<=bq.length/\∃a2,∃k:BS,Yt PG 126 (Bl mP) [.s (bq.take 1)] (fun r=>r=.tup [.i .i64 a2,.ni]) ((Bl k))/\∀P0:Int->BS->Prop,(∀(t22:Int)(mP:BS),Pp PG K P0 bq m0.list (m0.list.length:Int) t22 mP->P0 t22 mP)->P0 0 k))))
def Cj (bq:BS)(t68:Bool)(m0:Za)(mP:BS):Prop:=
  (t68=true->∃c e,Ze PG 11 [.s m0.text] (.tup [.s c,.i .i64 e])/\∃k,∃j:BS,Yt PG 126 (Bl mP) [.s c] (fun r=>r=.tup [.i .i64 k,.ni]) ((Bl j))/\K e j)/\(t68=false->(m0.kind=4->Cc PG K bq m0.cut m0 mP)/\(¬(m0.kind=4)->Cc PG K bq false m0 mP))
def Rk (bq:BS)(t59:Bool)(m0:Za)(mP:BS):Prop:=
  (t59=true->∃c,Ze PG 15 [.i .i64 m0.int] (.s c)/\∃j,∃e:BS,Yt PG 126 (Bl mP) [.s c] (fun r=>r=.tup [.i .i64 j,.ni]) ((Bl e))/\Dr PG K e)/\(t59=false->Cj PG K bq (decide (m0.kind=3)) m0 mP)
def Nw (bq:BS)(t53:Bool)(m0:Za)(mP:BS):Prop:=
  (t53=true->∃e,∃c:BS,Yt PG 126 (Bl mP) [.s ([102,97,108,115,101]:BS)] (fun r=>r=.tup [.i .i64 e,.ni]) ((Bl c))/\Dr PG K c)/\(t53=false->Rk PG K bq (decide (m0.kind=2)) m0 mP)
def By (bq:BS)(t42:Bool)(m0:Za)(mP:BS):Prop:=
  (t42=true->∃e,∃c:BS,Yt PG 126 (Bl mP) [.s ([116,114,117,101]:BS)] (fun r=>r=.tup [.i .i64 e,.ni]) ((Bl c))/\Dr PG K c)/\(t42=false->Nw PG K bq (decide (m0.kind=1)) m0 mP)
def Rf (bq:BS)(m0:Za)(mP:BS):Prop:=
  (m0.kind=1->By PG K bq (decide (m0.int=1)) m0 mP)/\(¬(m0.kind=1)->By PG K bq false m0 mP)
def Zkc (m0:Za)(mP:BS):Prop:=
  0<=m0.kind/\∃c,([[],[],[],[],[],([123,125]:BS),([91,93]:BS),([60,62]:BS)]:LB)[(m0.kind).toNat]?=some c/\Rf PG K c m0 mP
def Zh2 (v1:Za)(mP:BS):Prop:=
  Zkc PG K v1 mP
end
section
variable {PG:Zb}{d:Nat}{Q:AE->Sl->St->Prop}{K:Int->BS->Prop}{Zk:St}{kp:Zo}{vp:Nat}(hQ:Yxv d Zk kp vp Q K)(hkp:kp.1<d){σ:Sl}{st:St}
include hQ hkp
variable {mP bq:BS}{t20:List Za}{t21 t22:Int}{gn:Za}{P0:Int->BS->Prop}{fw:Zm}{iz:Nat}{t82:Bool}{m0:Za}{v0:Nat}{t68 t59 t53 t42:Bool}{v1:Za}
variable (kP0 :∀(t22:Int)(mP:BS),P0 t22 mP->Zqo PG d Q Zk kp vp bq t20 t21 t22 mP)(H0:σ 0=.p kp vp 0)(H3:σ 3=.p (d,0) v0 0)(H1:σ 1=v1.av)(H5:σ 5=.s bq)(H9:σ 9=.p (d,20483) iz 0)(H82:σ 82=.b t82)(H68:σ 68=.b t68)(H59:σ 59=.b t59)(H53:σ 53=.b t53)(H42:σ 42=.b t42)(H20:σ 20=.sl fw (List.map Za.row t20))(B0:lk st.bx (d,0)=some (v0,Za.cs m0))(H21:σ 21=.i .i64 t21)(Js:σ 22=.i .i64 t22)(ja:lk st.bx (d,20483)=some (iz,Za.cs gn))(BP:Bl mP st.bx st.ow kp vp)(FR:Fr d kp Zk.bx Zk.ow st.bx st.ow)
include BP FR in
theorem Sn (h:Dr PG K mP):W PG d Ba σ st Q:=
 au trivial
include kP0 H0 H5 H9 H20 H21 Js ja BP FR in
theorem Zuh (h:Zb8 PG K P0 bq t20 t21 t22 gn mP):W PG d Zwm σ st (Yd 2 (Zv PG d (.reg 11 Zzr) (Zv PG d (.loop Oa) (Yd 1 (Zv PG d It (Yd 0 (Zv PG d Ba Q))))))):=
 q_ J (m_ (l_ H9 ja J J (h.elim fun _ k=>k.elim fun _ c=>Xz (Zz H0 (Zz J Yq)) c.1 (kQ hkp) BP (fun _ i j=>m_ (e_ (q_ J (m_ (b_ J J Jc (e_ (Yk J (fun e=>q_ J (m_ (m_ (Zr (hQ _ _ _ _ J i (Fr.pass FR j) (c.2.1 e)))))) (fun e=>Yg (W.reg0 J fun _ _=>b_ Js J Vv (m_ (e_ (kP0 _ _ (c.2.2 e) _ _ _ H0 H5 H20 H21 J i (Fr.pass FR j))))))))))))))))
include H0 H5 BP FR in
theorem Yyk (h:Zkg PG K bq mP):W PG d It σ st (Yd 0 (Zv PG d Ba Q)):=
 W.reg0 J fun _ _=>m_ (m_ (Ho H5 J (by decide) h.1 (h.2.elim fun _ e=>e.elim fun _ c=>Xz (Zz H0 (Zz J Yq)) c.1 (kQ hkp) BP (fun _ i j=>e_ (Sn hQ hkp i (Fr.pass FR j) c.2)))))
include kP0 H0 H5 H20 H21 Js BP FR in
theorem Zv5 (h:Pp PG K P0 bq t20 t21 t22 mP):W PG d Oa σ st (Zv PG d (.loop Oa) (Yd 1 (Zv PG d It (Yd 0 (Zv PG d Ba Q))))):=
 q_ J (b_ Js H21 Vc (e_ (Zp (Yk J (fun c=>Yg (Zp (Yn (Zp (W.reg (m_ ((h.1 c).2.elim fun p e=>Vx H20 Js (h.1 c).1 e.1 (Za.row_eq p) J (Vd J J J (Xo (m_ (Yc J (show lk _ (d,20483)=some (_,([.i .u8 0,.i .i64 0,.s [],.sl .full (List.map Za.row ([]:List Za)),.b false]:List AV)) from Zj) J J J (e_ (Zp (q_ J (m_ (b_ Js J Qb (e_ (Yk J (fun j=>W.reg0 J fun _ _=>m_ ((e.2.1 j).elim fun _ q=>q.elim fun _ k=>Xz (Zz H0 (Zz J Yq)) k.1 (kQ hkp) (Bl.other (Xm hkp) (Bl.other (Xm hkp) BP)) (fun _ r o=>e_ (Zuh hQ hkp kP0 H0 H5 J H20 H21 Js ((o.1 (d,20483) (kC d) (Xm hkp)).trans Zj) r (Fr.pass (Fr.box (Fr.box FR)) o) k.2)))) (fun j=>Yg (Zuh hQ hkp kP0 H0 H5 J H20 H21 Js Zj (Bl.other (Xm hkp) (Bl.other (Xm hkp) BP)) (Fr.box (Fr.box FR)) (e.2.2 j))))))))))))))))))))) (fun c=>Jm (Yyk hQ hkp H0 H5 BP FR (h.2 c)))))))
include H0 H3 H5 H82 B0 BP FR in
theorem Zx0 (h:Cc PG K bq t82 m0 mP):W PG d Ztb σ st (Yd 0 (Zv PG d Ba Q)):=
 Wp H82 (fun c=>W.reg0 J fun _ _=>m_ ((h.1 c).elim fun _ b8=>b8.elim fun _ v=>Xz (Zz H0 (Zz J Yq)) v.1 (kQ hkp) BP (fun _ c5 d4=>e_ (Sn hQ hkp c5 (Fr.pass FR d4) v.2)))) (fun c=>q_ J (f_ H3 (l_ J B0 J J (b_ J J Xc (Xl J (Xa (g:=96) J (fun e=>Zd J (f_ H3 (Zd J (l_ J B0 J J (Zd J (Wk J (Zd J (b_ J J Xc (z_ 2 J (e_ (Yk J (fun i=>W.reg0 J fun _ _=>m_ ((((h.2 c).1 e).1 i).elim fun _ b0=>b0.elim fun _ q=>Xz (Zz H0 (Zz J Yq)) q.1 (kQ hkp) BP (fun _ c0 d1=>e_ (Sn hQ hkp c0 (Fr.pass FR d1) q.2)))) (fun i=>q_ J (f_ H3 (l_ J B0 J J (b_ J J Xc (m_ (e_ (Yk J (fun j=>q_ J (m_ (((((h.2 c).1 e).2 i).1 j).elim fun _ b2=>b2.elim fun _ r=>Xz (Zz H0 (Zz J Yq)) r.1 (kQ hkp) BP (fun _ c1 a4=>e_ (q_ J (m_ (f_ H3 (l_ J ((a4.1 (d,0) (kC d) (Xm hkp)).trans B0) J J (r.2.elim fun a8 s=>Vx J J (by decide) s.1 (Za.row_eq a8) J (Vd J J J (s.2.elim fun _ b1=>b1.elim fun _ u=>Xz (Zz H0 (Zz J Yq)) u.1 (kQ hkp) c1 (fun _ c2 d2=>m_ (Zr (hQ _ _ _ _ J c2 (Fr.pass (Fr.pass FR a4) d2) u.2)))))))))))))) (fun j=>q_ J (f_ H3 (l_ J B0 J J (m_ (e_ (Wp J (fun o=>W.reg0 J fun _ _=>m_ ((((((h.2 c).1 e).2 i).2 j).1 o).elim fun _ b3=>b3.elim fun _ w=>Xz (Zz H0 (Zz J Yq)) w.1 (kQ hkp) BP (fun _ c3 d3=>e_ (Sn hQ hkp c3 (Fr.pass FR d3) w.2)))) (fun o=>q_ J (m_ (m_ (Mb H5 J (by decide) (((((h.2 c).1 e).2 i).2 j).2 o).1 ((((((h.2 c).1 e).2 i).2 j).2 o).2.elim fun _ b4=>b4.elim fun _ y=>Xz (Zz H0 (Zz J Yq)) y.1 (kQ hkp) BP (fun _ c4 a5=>e_ (Zp (q_ J (f_ H3 (l_ J ((a5.1 (d,0) (kC d) (Xm hkp)).trans B0) J J (Wk J (m_ (e_ (Yn (y.2 (Zqo PG d Q Zk kp vp bq m0.list (m0.list.length:Int)) (fun _ _ hb _ _ _ H0 H5 H20 H21 Js BP FR=>W.loop (Zv5 hQ hkp (fun _ _ x=>x) H0 H5 H20 H21 Js BP FR hb)) _ _ _ H0 H5 J J J c4 (Fr.pass FR a5)))))))))))))))))))))))))))))))))))))))) (fun e=>z_ 6 J (e_ (Di J (q_ J (f_ H3 (l_ J B0 J J (b_ J J Xc (m_ (e_ (Yk J (fun k=>q_ J (m_ ((((h.2 c).2 e).1 k).elim fun _ b6=>b6.elim fun _ z=>Xz (Zz H0 (Zz J Yq)) z.1 (kQ hkp) BP (fun _ c6 a6=>e_ (q_ J (m_ (f_ H3 (l_ J ((a6.1 (d,0) (kC d) (Xm hkp)).trans B0) J J (z.2.elim fun a9 a0=>Vx J J (by decide) a0.1 (Za.row_eq a9) J (Vd J J J (a0.2.elim fun _ b5=>b5.elim fun _ a1=>Xz (Zz H0 (Zz J Yq)) a1.1 (kQ hkp) c6 (fun _ c7 d5=>m_ (Zr (hQ _ _ _ _ J c7 (Fr.pass (Fr.pass FR a6) d5) a1.2)))))))))))))) (fun k=>q_ J (f_ H3 (l_ J B0 J J (m_ (e_ (Wp J (fun p=>W.reg0 J fun _ _=>m_ (((((h.2 c).2 e).2 k).1 p).elim fun _ b7=>b7.elim fun _ a2=>Xz (Zz H0 (Zz J Yq)) a2.1 (kQ hkp) BP (fun _ c9 d6=>e_ (Sn hQ hkp c9 (Fr.pass FR d6) a2.2)))) (fun p=>q_ J (m_ (m_ (Mb H5 J (by decide) ((((h.2 c).2 e).2 k).2 p).1 (((((h.2 c).2 e).2 k).2 p).2.elim fun _ b9=>b9.elim fun _ a3=>Xz (Zz H0 (Zz J Yq)) a3.1 (kQ hkp) BP (fun _ d0 a7=>e_ (Zp (q_ J (f_ H3 (l_ J ((a7.1 (d,0) (kC d) (Xm hkp)).trans B0) J J (Wk J (m_ (e_ (Yn (a3.2 (Zqo PG d Q Zk kp vp bq m0.list (m0.list.length:Int)) (fun _ _ hb _ _ _ H0 H5 H20 H21 Js BP FR=>W.loop (Zv5 hQ hkp (fun _ _ x=>x) H0 H5 H20 H21 Js BP FR hb)) _ _ _ H0 H5 J J J d0 (Fr.pass FR a7))))))))))))))))))))))))))))))))))))))
include H0 H3 H5 H68 B0 BP FR in
theorem Xie (h:Cj PG K bq t68 m0 mP):W PG d Zxu σ st (Yd 0 (Zv PG d Ba Q)):=
 Wp H68 (fun c=>q_ J (f_ H3 (l_ J B0 J J (x2 (h.1 c) fun _ _ i=>Ya (Ys J J) i.1 (m_ (x_ J J (x_ J J (m_ (m_ (e_ (q_ J (m_ (m_ (i.2.elim fun _ k=>k.elim fun _ j=>Xz (Zz H0 (Zz J Yq)) j.1 (kQ hkp) BP (fun _ o p=>e_ (q_ J (m_ (m_ (Zr (hQ _ _ _ _ J o (Fr.pass FR p) j.2)))))))))))))))))))) (fun c=>q_ J (f_ H3 (l_ J B0 J J (b_ J J Xc (Xl J (Xa (g:=86) J (fun e=>Zd J (f_ H3 (Zd J (l_ J B0 J J (z_ 2 J (e_ (Zx0 hQ hkp H0 H3 H5 J B0 BP FR ((h.2 c).1 e)))))))) (fun e=>z_ 4 J (e_ (Zx0 hQ hkp H0 H3 H5 J B0 BP FR ((h.2 c).2 e))))))))))
include H0 H3 H5 H59 B0 BP FR in
theorem Yjc (h:Rk PG K bq t59 m0 mP):W PG d Yc1 σ st (Yd 0 (Zv PG d Ba Q)):=
 Wp H59 (fun c=>W.reg0 J fun _ _=>m_ (f_ H3 (l_ J B0 J J ((h.1 c).elim fun _ e=>Ya (Ys J J) e.1 (e.2.elim fun _ j=>j.elim fun _ i=>Xz (Zz H0 (Zz J Yq)) i.1 (kQ hkp) BP (fun _ k o=>e_ (Sn hQ hkp k (Fr.pass FR o) i.2))))))) (fun c=>q_ J (f_ H3 (l_ J B0 J J (b_ J J Xc (m_ (e_ (Xie hQ hkp H0 H3 H5 J B0 BP FR (h.2 c))))))))
include H0 H3 H5 H53 B0 BP FR in
theorem Xa3 (h:Nw PG K bq t53 m0 mP):W PG d Zvi σ st (Yd 0 (Zv PG d Ba Q)):=
 Wp H53 (fun c=>W.reg0 J fun _ _=>m_ ((h.1 c).elim fun _ i=>i.elim fun _ e=>Xz (Zz H0 (Zz J Yq)) e.1 (kQ hkp) BP (fun _ j k=>e_ (Sn hQ hkp j (Fr.pass FR k) e.2)))) (fun c=>q_ J (f_ H3 (l_ J B0 J J (b_ J J Xc (m_ (e_ (Yjc hQ hkp H0 H3 H5 J B0 BP FR (h.2 c))))))))
include H0 H3 H5 H42 B0 BP FR in
theorem Zrj (h:By PG K bq t42 m0 mP):W PG d Zs1 σ st (Yd 0 (Zv PG d Ba Q)):=
 Wp H42 (fun c=>W.reg0 J fun _ _=>m_ ((h.1 c).elim fun _ i=>i.elim fun _ e=>Xz (Zz H0 (Zz J Yq)) e.1 (kQ hkp) BP (fun _ j k=>e_ (Sn hQ hkp j (Fr.pass FR k) e.2)))) (fun c=>q_ J (f_ H3 (l_ J B0 J J (b_ J J Xc (m_ (e_ (Xa3 hQ hkp H0 H3 H5 J B0 BP FR (h.2 c))))))))
include H0 H3 H5 B0 BP FR in
theorem Yzo (h:Rf PG K bq m0 mP):W PG d Yer σ st Q:=
 Zp (Yn (q_ J (f_ H3 (l_ J B0 J J (b_ J J Xc (Xl J (Xa (g:=46) J (fun c=>Zd J (f_ H3 (Zd J (l_ J B0 J J (Zd J (b_ J J Xc (z_ 2 J (e_ (Zrj hQ hkp H0 H3 H5 J B0 BP FR (h.1 c)))))))))) (fun c=>z_ 5 J (e_ (Zrj hQ hkp H0 H3 H5 J B0 BP FR (h.2 c)))))))))))
include H0 H3 B0 BP FR in
theorem Xhv (h:Zkc PG K m0 mP):W PG d Yde σ st Q:=
 q_ J (Pv (f:=AV.s) (l:=[[],[],[],[],[],([123,125]:BS),([91,93]:BS),([60,62]:BS)]) (Yl J J (Yl J J (Yl J J Yh))) J (f_ H3 (l_ J B0 J J (h.2.elim fun _ c=>Ty (f:=AV.s) J J J h.1 c.1 (m_ (e_ (Yzo hQ hkp H0 H3 J B0 BP FR c.2)))))))
include H0 H1 BP FR in
theorem Yjz (h:Zh2 PG K v1 mP):W PG d Ztk σ st Q:=
 q_ J (Qa H1 J (m_ (e_ (Xhv hQ hkp H0 J Zj (Bl.other (Xm hkp) BP) (Fr.box FR) h))))
end
theorem Yg1 {PG:Zb}(hf:PG.fn 104=some Pm){v1:Za}{mP:BS}{K:Int->BS->Prop}(h:Zh2 PG K v1 mP):Qr PG 104 (Bl mP) [v1.av] (fun r (b_:BS)=>∃aa:Int,(r=.i .i64 aa)/\K aa b_) (fun b_=>(Bl b_)):=
  Qr.of hf rfl (fun _=>Bl.out) fun d st kp vp hkp hB=>Yjz (Zk:=st) (Q:=fun e σ st'=>(e=.normal\/e=.ret)/\∃r b_,Xk σ st' Pm.res=some r/\_/\_/\Fr d kp st.bx st.ow st'.bx st'.ow) (fun σ st'   aa b_ H4 hb hf hk=>⟨.inr rfl,.i .i64 aa,b_,by simp only [Pm,Xk,Vb,H4,Kg,kJ,H4],⟨aa,rfl,hk⟩,hb,hf⟩) hkp (σ:=Wc [.p kp vp 0,v1.av]) rfl rfl hB Fr.refl h
abbrev Yqa (Q:AE->Sl->St->Prop)(K:BS->Prop):Prop:=∀(σ:Sl)(st:St)(aa:BS),σ 2=.s aa->K aa->Q .ret σ st
section
variable {PG:Zb}{d:Nat}{Q:AE->Sl->St->Prop}{K:BS->Prop}(hQ:Yqa Q K){σ:Sl}{st:St}
include hQ
end
abbrev Zde:AC:=(sR 23 [oT 104 .lss 103 102] (.seq (.cond (.t 104) .skip (.exit 1)) (.seq (.block 2 (sR 24 [oX 105 5 101 103,oK 106 5 105,oO 12 (.alloc [z8,z6,zs,zl,zb]),oS 5 12 106] (sR 25 [oK 108 5 12,oM 109 1,oV 110 .sub 109 1,oQ 111 109 [108,110],oM 107 111,oE 112 0 107,oE 113 1 107,oM 13 112,oM 14 113] (sR 26 [oM 114 10,oM 115 13,oT 116 .add 114 115,oM 10 116] (sR 27 [oM 117 14,oZ 118 117,oM 119 118,gF 119 (oM 120 10),gF 119 (oV 121 .gtr 120 5000),oR 122 119 121] (.cond (.t 122) (sR 28 [oI 4 0,oC 5 (.b false)] .ret) .skip)))))) (.reg 29 [oV 123 .add 103 1,oM 103 123]))))
abbrev Zcw:AC:=(sR 30 [oM 124 10,oM 4 124,oC 5 (.b true)] .ret)
abbrev Zxg:AC:=(.seq (sR 19 [oM 53 1,oV 54 .eql 53 0,oM 55 54,gF 55 (oF 56 1 6),gF 55 (oL 57 56),gF 55 (oF 58 1 2),gF 55 (oL 59 58),gF 55 (oT 60 .neq 57 59),oR 61 55 60,oM 62 61,gF 62 (oF 63 2 6),gF 62 (oL 64 63),gF 62 (oF 65 2 2),gF 62 (oL 66 65),gF 62 (oT 67 .neq 64 66),oR 68 62 67,oM 69 68,gF 69 (oF 70 2 2),gF 69 (oL 71 70),gF 69 (oH 72 71),gF 69 (oV 73 .gtr 72 64),oR 74 69 73,oM 75 74,gF 75 (oF 76 4 6),gF 75 (oL 77 76),gF 75 (oF 78 4 2),gF 75 (oL 79 78),gF 75 (oO 80 (.beq true (.t 77) (.t 79))),oR 81 75 80,oM 82 81,gF 82 (oF 83 4 2),gF 82 (oL 84 83),gF 82 (oM 85 84),gT 85 (oM 86 9),gT 85 (oV 87 .gtr 86 0),gF 82 (oA 88 85 87),oR 89 82 88,oM 90 89,gF 90 (oM 91 9),gF 90 (oM 92 7),gF 90 (oT 93 .gtr 91 92),oR 94 90 93,oM 95 94,gF 95 (oM 96 9),gF 95 (oM 97 8),gF 95 (oT 98 .lss 96 97),oR 99 95 98] (.cond (.t 99) (sR 20 [oI 4 0,oC 5 (.b false)] .ret) .skip)) (sR 21 [oI 10 1] (.seq (sR 22 [oF 100 3 2,oL 101 100,oJ 102 101,oI 103 0] (.block 1 (.loop Zde))) Zcw)))
abbrev Zrd:AC:=(sR 18 [oF 50 3 2,oL 51 50,oJ 52 51,oM 9 52] Zxg)
abbrev Yac:AC:=(.seq (sR 2 [oF 18 0 2,oL 19 18] (.block 0 (sR 4 [oW 21 .eql 19 1,oM 20 21] (.cond (.t 20) (.reg 5 [oF 22 1 2,oL 23 22,oV 24 .and 23 1,oF 25 1 6,oS 1 25 24]) (sR 6 [oW 27 .eql 19 2,oM 26 27] (.cond (.t 26) (.reg 7 [oF 28 1 2,oL 29 28,oF 30 1 6,oS 1 30 29]) (sR 8 [oW 32 .eql 19 3,oM 31 32] (.cond (.t 31) (.reg 9 [oF 33 2 2,oL 34 33,oF 35 2 6,oS 1 35 34]) (sR 10 [oW 37 .eql 19 4,oM 36 37] (.cond (.t 36) (.reg 11 [oF 38 4 2,oL 39 38,oF 40 4 6,oS 1 40 39,oI 7 1]) (sR 12 [oW 42 .eql 19 5,oM 41 42] (.cond (.t 41) (.reg 13 [oI 7 8]) (sR 14 [oW 44 .eql 19 6,oM 43 44] (.cond (.t 43) (.reg 15 [oI 7 16,oI 8 1]) (sR 16 [oW 46 .eql 19 7,oM 45 46] (.cond (.t 45) (.reg 17 [oF 47 4 2,oL 48 47,oF 49 4 6,oS 1 49 48,oI 7 16]) (sR 3 [oI 4 0,oC 5 (.b false)] .ret))))))))))))))))) Zrd)
abbrev Zu9:AC:=(sR 1 [oF 15 0 2,oL 16 15,oO 17 (.build [z8,z6,zs,zl,zb] [(0,1,(.t 16))]),oO 6 (.alloc [z8,z6,zs,zl,zb]),oS 5 6 17,oI 7 0,oI 8 0] Yac)
abbrev Yb0:AC:=(sR 0 [oY 2 5 0,oI 4 0,oC 5 (.b false)] Zu9)
def Zal:AF:={ nt:=125,res:=[.tmp 4,.tmp 5],body:=Yb0 }
abbrev Zjm (PG:Zb)(d:Nat)(Q:AE->Sl->St->Prop)(aw:Int)(gz:List Za)(gr:Int)(cl:Int)(t103:Int):Prop:=
  ∀(σ:Sl)(st:St)(ia:Zm),σ 1=.i .i64 aw->σ 10=.i .i64 cl->σ 101=.sl ia (List.map Za.row gz)->σ 102=.i .i64 gr->σ 103=.i .i64 t103->W PG d (.loop Zde) σ st (Yd 1 (Zv PG d Zcw Q))
def Zkx (PG:Zb)(K:Int->Bool->Prop)(cl:Int):Prop:=
  K cl true
section
variable(PG:Zb)(K:Int->Bool->Prop)
def Lr (P0:Int->Int->Prop)(aw:Int)(cl:Int)(gz:List Za)(gr:Int)(t103:Int):Prop:=
  (t103<gr->0<=t103/\∃j:Za,gz[(t103).toNat]?=some j/\∃c e,Ze PG 109 [j.av,.i .i64 (IntKind.i64.wrap (aw-1))] (.tup [.i .i64 c,.b e])/\((!e)=true->K 0 false)/\((!e)=false->((IntKind.i64.wrap (cl+c))>5000->K 0 false)/\(¬((IntKind.i64.wrap (cl+c))>5000)->P0 (IntKind.i64.wrap (cl+c)) (IntKind.i64.wrap (t103+1)))))/\(¬(t103<gr)->Zkx PG K cl)
def Zfe (aw:Int)(dn:Int)(ci:Int)(n9:Int)(m0:Za)(bc:Za):Prop:=
  (aw=0->K 0 false)/\(¬(aw=0)->(bc.int≠m0.int->K 0 false)/\(¬(bc.int≠m0.int)->(bc.text≠m0.text->K 0 false)/\(¬(bc.text≠m0.text)->((m0.text.length:Int)>64->K 0 false)/\(¬((m0.text.length:Int)>64)->(bc.cut≠m0.cut->K 0 false)/\(¬(bc.cut≠m0.cut)->(m0.cut=true->(n9>0->K 0 false)/\(¬(n9>0)->(n9>dn->K 0 false)/\(¬(n9>dn)->(n9<ci->K 0 false)/\(¬(n9<ci)->∀P0:Int->Int->Prop,(∀(cl:Int)(t103:Int),Lr PG K P0 aw cl m0.list (m0.list.length:Int) t103->P0 cl t103)->P0 1 0))))/\(m0.cut=false->(n9>dn->K 0 false)/\(¬(n9>dn)->(n9<ci->K 0 false)/\(¬(n9<ci)->∀P0:Int->Int->Prop,(∀(cl:Int)(t103:Int),Lr PG K P0 aw cl m0.list (m0.list.length:Int) t103->P0 cl t103)->P0 1 0))))))))
def Ma (aw:Int)(dn:Int)(ci:Int)(m0:Za)(bc:Za):Prop:=
  Zfe PG K aw dn ci (m0.list.length:Int) m0 bc
def Zf9 (aw:Int)(dn:Int)(ci:Int)(m0:Za)(bc:Za):Prop:=
  (m0.kind=1->Ma PG K aw dn ci m0 (Za.mk bc.kind (Gb .i64 m0.int 1) bc.text bc.list bc.cut))/\(¬(m0.kind=1)->(m0.kind=2->Ma PG K aw dn ci m0 (Za.mk bc.kind m0.int bc.text bc.list bc.cut))/\(¬(m0.kind=2)->(m0.kind=3->Ma PG K aw dn ci m0 (Za.mk bc.kind bc.int m0.text bc.list bc.cut))/\(¬(m0.kind=3)->(m0.kind=4->Ma PG K aw 1 ci m0 (Za.mk bc.kind bc.int bc.text bc.list m0.cut))/\(¬(m0.kind=4)->(m0.kind=5->Ma PG K aw 8 ci m0 bc)/\(¬(m0.kind=5)->(m0.kind=6->Ma PG K aw 16 1 m0 bc)/\(¬(m0.kind=6)->(m0.kind=7->Ma PG K aw 16 ci m0 (Za.mk bc.kind bc.int bc.text bc.list m0.cut))/\(¬(m0.kind=7)->K 0 false)))))))
def Zgc (aw:Int)(m0:Za):Prop:=
  Zf9 PG K aw 0 0 m0 (Za.mk m0.kind 0 [] ([]:List Za) false)
def Zee (v0:Za)(aw:Int):Prop:=
  Zgc PG K aw v0
end
section
variable {PG:Zb}{d:Nat}{Q:AE->Sl->St->Prop}{K:Int->Bool->Prop}(hQ:H2 (AV.i .i64) AV.b 4 5 Q K){σ:Sl}{st:St}
include hQ
variable {cl aw:Int}{gz:List Za}{gr t103:Int}{P0:Int->Int->Prop}{ia:Zm}{dn ci n9:Int}{m0 bc:Za}{gi:Zm}{v0 jg:Nat}
variable (kP0 :∀(cl:Int)(t103:Int),P0 cl t103->Zjm PG d Q aw gz gr cl t103)(H1:σ 1=.i .i64 aw)(H10:σ 10=.i .i64 cl)(H2:σ 2=.p (d,0) v0 0)(Cg:σ 101=.sl ia (List.map Za.row gz))(H6:σ 6=.p (d,4099) jg 0)(Ti:σ 102=.i .i64 gr)(H7:σ 7=.i .i64 dn)(Tx:σ 103=.i .i64 t103)(H8:σ 8=.i .i64 ci)(H9:σ 9=.i .i64 n9)(du:Xd d st.ow gi bc.list.length)(B0:lk st.bx (d,0)=some (v0,Za.cs m0))(dx:lk st.bx (d,4099)=some (jg,[.i .u8 bc.kind,.i .i64 bc.int,.s bc.text,.sl gi (List.map Za.row bc.list),.b bc.cut]))
include H10 in
theorem Xfx (h:Zkx PG K cl):W PG d Zcw σ st Q:=
 au trivial
include kP0 H1 H10 Cg Ti Tx in
theorem Zt2 (h:Lr PG K P0 aw cl gz gr t103):W PG d Zde σ st (Zv PG d (.loop Zde) (Yd 1 (Zv PG d Zcw Q))):=
 au @Xfx
include H1 H2 H6 H7 H8 H9 du B0 dx in
theorem Yoe (h:Zfe PG K aw dn ci n9 m0 bc):W PG d Zxg σ st Q:=
 Zp (q_ J (Xf H1 (b_ J J Xc (Xl J (Xa (g:=55) J (fun c=>z_ 30 J (Vk J (Vk J (z_ 12 J (e_ (Xj J (q_ J (m_ (m_ (Zr (hQ J J (h.1 c)))))))))))) (fun c=>Zd J (f_ H6 (Zd J (l_ J dx J J (Zd J (f_ H2 (Zd J (l_ J B0 J J (Zd J (b_ J J Jc (z_ 2 J (Xa (g:=62) J (fun e=>z_ 23 J (Vk J (Vk J (z_ 12 J (e_ (Xj J (q_ J (m_ (m_ (Zr (hQ J J ((h.2 c).1 e)))))))))))) (fun e=>Zd J (f_ H6 (Zd J (l_ J dx J J (Zd J (f_ H2 (Zd J (l_ J B0 J J (Zd J (b_ J J Sm (z_ 2 J (Xa (g:=69) J (fun i=>z_ 16 J (Vk J (Vk J (z_ 12 J (e_ (Xj J (q_ J (m_ (m_ (Zr (hQ J J (((h.2 c).2 e).1 i)))))))))))) (fun i=>Zd J (f_ H2 (Zd J (l_ J B0 J J (Zd J (Rg J (Zd J (b_ J J Qb (z_ 2 J (Xa (g:=75) J (fun j=>z_ 10 J (Vk J (Vk J (z_ 12 J (e_ (Xj J (q_ J (m_ (m_ (Zr (hQ J J ((((h.2 c).2 e).2 i).1 j)))))))))))) (fun j=>Zd J (f_ H6 (Zd J (l_ J dx J J (Zd J (f_ H2 (Zd J (l_ J B0 J J (Zd J (Zns J J (z_ 2 J (Xa (g:=82) J (fun k=>z_ 3 J (Vk J (Vk J (z_ 12 J (e_ (Xj J (q_ J (m_ (m_ (Zr (hQ J J (((((h.2 c).2 e).2 i).2 j).1 k)))))))))))) (fun k=>Zd J (f_ H2 (Zd J (l_ J B0 J J (Zd J (Xl J (Uh (g:=85) J (fun o=>Zd J (Xf H9 (Zd J (b_ J J Qb (Zd J (z_ 3 J (Xa (g:=90) J (fun p=>z_ 9 J (e_ (Xj J (q_ J (m_ (m_ (Zr (hQ J J (((((((h.2 c).2 e).2 i).2 j).2 k).1 o).1 p))))))))) (fun p=>Zd J (Xf H9 (Zd J (Xf H7 (Zd J (b_ J J Qb (z_ 2 J (Xa (g:=95) J (fun r=>z_ 4 J (e_ (Xj J (q_ J (m_ (m_ (Zr (hQ J J ((((((((h.2 c).2 e).2 i).2 j).2 k).1 o).2 p).1 r))))))))) (fun r=>Zd J (Xf H9 (Zd J (Xf H8 (Zd J (b_ J J Vc (Jp J J (e_ (Yk J (fun u=>q_ J (m_ (m_ (Zr (hQ J J (((((((((h.2 c).2 e).2 i).2 j).2 k).1 o).2 p).2 r).1 u)))))) (fun u=>Yg (q_ J (m_ (e_ (Zp (q_ J (f_ H2 (l_ J B0 J J (Wk J (m_ (e_ (Yn ((((((((((h.2 c).2 e).2 i).2 j).2 k).1 o).2 p).2 r).2 u) (Zjm PG d Q aw m0.list (m0.list.length:Int)) (fun _ _ hb _ _ _ H1 H10 Cg Ti Tx=>W.loop (Zt2 hQ (fun _ _ x=>x) H1 H10 Cg Ti Tx hb)) _ _ _ H1 J J J J))))))))))))))))))))))))))))))))))))) (fun o=>z_ 2 J (Zd J (z_ 3 J (Zd J (Xf H9 (Zd J (Xf H7 (Zd J (b_ J J Qb (z_ 2 J (Xa (g:=95) J (fun q=>z_ 4 J (e_ (Xj J (q_ J (m_ (m_ (Zr (hQ J J (((((((h.2 c).2 e).2 i).2 j).2 k).2 o).1 q))))))))) (fun q=>Zd J (Xf H9 (Zd J (Xf H8 (Zd J (b_ J J Vc (Jp J J (e_ (Yk J (fun s=>q_ J (m_ (m_ (Zr (hQ J J ((((((((h.2 c).2 e).2 i).2 j).2 k).2 o).2 q).1 s)))))) (fun s=>Yg (q_ J (m_ (e_ (Zp (q_ J (f_ H2 (l_ J B0 J J (Wk J (m_ (e_ (Yn (((((((((h.2 c).2 e).2 i).2 j).2 k).2 o).2 q).2 s) (Zjm PG d Q aw m0.list (m0.list.length:Int)) (fun _ _ hb _ _ _ H1 H10 Cg Ti Tx=>W.loop (Zt2 hQ (fun _ _ x=>x) H1 H10 Cg Ti Tx hb)) _ _ _ H1 J J J J)))))))))))))))))))))))))))))))))))))))))))))))))))))))))))))))))))))))))))))))))))))))))))
include H1 H2 H6 H7 H8 du B0 dx in
theorem Cp (h:Ma PG K aw dn ci m0 bc):W PG d Zrd σ st Q:=
 au @Yoe
include H1 H2 H6 H7 H8 du B0 dx in
theorem Xdc (h:Zf9 PG K aw dn ci m0 bc):W PG d Yac σ st Q:=
 Zp (q_ J (f_ H2 (l_ J B0 J J (e_ (Yn (q_ J (b_ J J Xc (m_ (e_ (Yk J (fun c=>W.reg0 J fun _ _=>f_ H2 (l_ J B0 J J (b_ J J (Zeg _ _ _) (f_ H6 (Yc J dx J J J (e_ (Cp (bc:=(Za.mk bc.kind (Gb .i64 m0.int 1) bc.text bc.list bc.cut)) hQ H1 H2 H6 H7 H8 du (Zs J B0) Zj (h.1 c)))))))) (fun c=>q_ J (b_ J J Xc (m_ (e_ (Yk J (fun e=>W.reg0 J fun _ _=>f_ H2 (l_ J B0 J J (f_ H6 (Yc J dx J J J (e_ (Cp (bc:=(Za.mk bc.kind m0.int bc.text bc.list bc.cut)) hQ H1 H2 H6 H7 H8 du (Zs J B0) Zj ((h.2 c).1 e))))))) (fun e=>q_ J (b_ J J Xc (m_ (e_ (Yk J (fun i=>W.reg0 J fun _ _=>f_ H2 (l_ J B0 J J (f_ H6 (Yc J dx J J J (e_ (Cp (bc:=(Za.mk bc.kind bc.int m0.text bc.list bc.cut)) hQ H1 H2 H6 H7 H8 du (Zs J B0) Zj (((h.2 c).2 e).1 i))))))) (fun i=>q_ J (b_ J J Xc (m_ (e_ (Yk J (fun j=>W.reg0 J fun _ _=>f_ H2 (l_ J B0 J J (f_ H6 (Yc J dx J J J (m_ (e_ (Cp (bc:=(Za.mk bc.kind bc.int bc.text bc.list m0.cut)) hQ H1 H2 H6 J H8 du (Zs J B0) Zj ((((h.2 c).2 e).2 i).1 j)))))))) (fun j=>q_ J (b_ J J Xc (m_ (e_ (Yk J (fun k=>W.reg0 J fun _ _=>m_ (e_ (Cp hQ H1 H2 H6 J H8 du B0 dx (((((h.2 c).2 e).2 i).2 j).1 k)))) (fun k=>q_ J (b_ J J Xc (m_ (e_ (Yk J (fun o=>W.reg0 J fun _ _=>m_ (m_ (e_ (Cp hQ H1 H2 H6 J J du B0 dx ((((((h.2 c).2 e).2 i).2 j).2 k).1 o))))) (fun o=>q_ J (b_ J J Xc (m_ (e_ (Yk J (fun p=>W.reg0 J fun _ _=>f_ H2 (l_ J B0 J J (f_ H6 (Yc J dx J J J (m_ (e_ (Cp (bc:=(Za.mk bc.kind bc.int bc.text bc.list m0.cut)) hQ H1 H2 H6 J H8 du (Zs J B0) Zj (((((((h.2 c).2 e).2 i).2 j).2 k).2 o).1 p)))))))) (fun p=>q_ J (m_ (m_ (Zr (hQ J J (((((((h.2 c).2 e).2 i).2 j).2 k).2 o).2 p))))))))))))))))))))))))))))))))))))))))))))))
include H1 H2 B0 in
theorem Xbl (h:Zgc PG K aw m0):W PG d Zu9 σ st Q:=
 Zp (W.reg (f_ H2 (l_ J (Zs J B0) J J (Yi (Yl J J Yh) (Xo (Yc J (show lk _ (d,4099)=some (_,([.i .u8 0,.i .i64 0,.s [],.sl .full (List.map Za.row ([]:List Za)),.b false]:List AV)) from Zj) J J J (m_ (m_ (e_ (Xdc (bc:=(Za.mk m0.kind 0 [] ([]:List Za) false)) hQ H1 H2 J J J Xd.full (Zs J (Zs J B0)) Zj h))))))))))
theorem Yug {v0:Za}{aw:Int}(H0:σ 0=v0.av)(H1:σ 1=.i .i64 aw)(h:Zee PG K v0 aw):W PG d Yb0 σ st Q:=
 au @Xbl
end
theorem Zyf {PG:Zb}(hf:PG.fn 109=some Zal){v0:Za}{aw:Int}{K:Int->Bool->Prop}(h:Zee PG K v0 aw) :∃aa:Int,∃ae:Bool,K aa ae/\Ze PG 109 [v0.av,.i .i64 aw] (.tup [.i .i64 aa,.b ae]):=
 P2 hf J (Yug (h2 J fun _ _=>J) J J h)
abbrev Yil (Q:AE->Sl->St->Prop)(K:Bool->Prop):Prop:=∀(σ:Sl)(st:St)(aa:Bool),σ 4=.b aa->K aa->Q .ret σ st
section
variable {PG:Zb}{d:Nat}{Q:AE->Sl->St->Prop}{K:Bool->Prop}(hQ:Yil Q K){σ:Sl}{st:St}
include hQ
end
abbrev Xb0 (Q:AE->Sl->St->Prop)(K:BS->Prop):Prop:=∀(σ:Sl)(st:St)(aa:BS),σ 2=.s aa->K aa->Q .ret σ st
section
variable {PG:Zb}{d:Nat}{Q:AE->Sl->St->Prop}{K:BS->Prop}(hQ:Xb0 Q K){σ:Sl}{st:St}
include hQ
end
abbrev Yw4:AC:=(sR 0 [oY 1 5 0,oC 2 (.b false)] (sR 1 [oF 3 3 1,oL 4 3,oJ 5 4,oV 6 .eql 5 0,oM 7 6,gT 7 (oF 8 4 1),gT 7 (oL 9 8),gT 7 (oZ 10 9),oA 11 7 10,oM 2 11] .ret))
def Zjq:AF:={ nt:=12,res:=[.tmp 2],body:=Yw4 }
abbrev Yq1 (Q:AE->Sl->St->Prop)(K:Bool->Prop):Prop:=∀(σ:Sl)(st:St)(aa:Bool),σ 2=.b aa->K aa->Q .ret σ st
section
variable {PG:Zb}{d:Nat}{Q:AE->Sl->St->Prop}{K:Bool->Prop}(hQ:Yq1 Q K){σ:Sl}{st:St}
include hQ
end
end Go.AM
