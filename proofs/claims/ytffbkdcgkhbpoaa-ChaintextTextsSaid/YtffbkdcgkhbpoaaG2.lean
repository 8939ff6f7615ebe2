/- Parts of the proof: S0, R1, R2, AmB, R3, S1, S2, B0, D38, V03, V03b, V03c, V38, R4, D38f, R5. -/
import Derived.Test.YtffbkdcgkhbpoaaG1
import Derived.WalkKit
import Derived.ProofKit
import Derived.OpenShut
import Derived.Laws.Externs
import Derived.Lib.Bytealg
import Derived.Shelf.Strings.Builder1
import Derived.Lib.Builder
set_option linter.all false
namespace Go.AM
open Go
def up (σ:Sl) (d:Nat) (v:AV):Sl:=fun t=>cond (Nat.beq t d) v (σ t)
theorem up_eq (σ:Sl) (d:Nat) (v:AV):upd σ d v = up σ d v:=by
  funext t
  unfold upd up
  by_cases h:t = d
  · rw [if_pos h,h,Nat.beq_refl]; rfl
  · rw [if_neg h]
    have:Nat.beq t d = false:=by
      cases hb:Nat.beq t d with
      | false=>rfl
      | true=>exact absurd (Nat.eq_of_beq_eq_true hb) h
    rw [this]; rfl
def upO (σ:Sl) (d:Option Nat) (v:AV):Sl:=match d with | some d=>up σ d v | none=>σ
theorem upO_eq (σ:Sl) (d:Option Nat) (v:AV):updO σ d v = upO σ d v:=by cases d <;> simp [updO,upO,up_eq]
def Pus (prog:Prog) (f:Nat) (args:List AV) (r:AV):Prop:=∃r',Pu prog f args r'∧r'.strip = some r
theorem Pus.det {prog:Prog} {f:Nat} {args:List AV} {r r':AV} (h:Pus prog f args r) (k:Pus prog f args r'):r = r':=by
  obtain ⟨a,h1,h2⟩:=h
  obtain ⟨b,h3,h4⟩:=k
  rw [h1.det h3,h4] at h2
  injection h2 with h2
  exact h2.symm
def rep {α:Type} (n:Nat) (a:α):List α:=List.replicate n a
attribute [irreducible] rep
def Fit (n bytes:Nat):Prop:=n * bytes≤maxBytes∧n≤maxBytes
def PuA (prog:Prog) (f:Nat) (rows:List (List AV)) (args:List AV) (rows':List (List AV)):Prop:=
  ∀d st o,App st.ow o rows.length→∃o' st',Fn prog d f (.sl o rows :: args) st (.sl o' rows') st'∧App st'.ow o' rows'.length
section
variable {prog:Prog} {d id base i:Nat} {σ:Sl} {st:St} {K:Sl→St→Prop} {r:List AI} {t:Option Nat} {x y:Opd}
theorem s_nil (h:K σ st):WO prog d id base i [] σ st K:=h
theorem s_one {op:AOp} (h:WOp prog d (id * 4096 + i) (base + i) σ st (fun v st'=>WO prog d id base (i + 1) r (upO σ t v) st' K) op):WO prog d id base i (⟨t,op,none⟩ :: r) σ st K:=by
  show WOp prog d (id * 4096 + i) (base + i) σ st (fun v st'=>WO prog d id base (i + 1) r (updO σ t v) st' K) op
  simp only [upO_eq]
  exact h
theorem s_pure {op:AOp} {v:AV} (hv :∀K:AV→St→Prop,WOp prog d (id * 4096 + i) (base + i) σ st K op = K v st) (h:WO prog d id base (i + 1) r (upO σ t v) st K):WO prog d id base i (⟨t,op,none⟩ :: r) σ st K:=by
  refine s_one ?_
  rw [hv]
  exact h
theorem s_mv {v:AV} (hx:x.ev σ = v) (h:WO prog d id base (i + 1) r (upO σ t v) st K):WO prog d id base i (⟨t,.mv x,none⟩ :: r) σ st K:=
  s_pure (fun K=>by rw [WOp_mv,hx]) h
theorem s_bin {op:BinOp} {a b v:AV} (hx:x.ev σ = a) (hy:y.ev σ = b) (hv:abin op a b = some v) (h:WO prog d id base (i + 1) r (upO σ t v) st K):WO prog d id base i (⟨t,.bin op x y,none⟩ :: r) σ st K:=
  s_pure (fun K=>by rw [WOp_bin,hx,hy,hv,onO_some]) h
theorem s_bne {a b:Bool} (hx:x.ev σ = .b a) (hy:y.ev σ = .b b) (h:WO prog d id base (i + 1) r (upO σ t (.b (decide (a≠b)))) st K):WO prog d id base i (⟨t,.beq true x y,none⟩ :: r) σ st K:=
  s_pure (fun K=>by
    simp only [WOp,aexec,apure,hx,hy,Option.map_some,onO_some]
    cases a <;> cases b <;> rfl) h
theorem s_not {a:Bool} (hx:x.ev σ = .b a) (h:WO prog d id base (i + 1) r (upO σ t (.b (!a))) st K):WO prog d id base i (⟨t,.un .not x,none⟩ :: r) σ st K:=
  s_pure (fun K=>by simp only [WOp,aexec,apure,hx,Option.map_some,onO_some]) h
theorem s_notp {p:Prop} [Decidable p] (hx:x.ev σ = .b (decide p)) (h:WO prog d id base (i + 1) r (upO σ t (.b (decide (¬p)))) st K):WO prog d id base i (⟨t,.un .not x,none⟩ :: r) σ st K:=
  s_not hx (by rw [← decide_not]; exact h)
theorem s_neg {k:IntKind} {n:Int} (hx:x.ev σ = .i k n) (h:WO prog d id base (i + 1) r (upO σ t (.i k (k.wrap (0 - n)))) st K):WO prog d id base i (⟨t,.un .neg x,none⟩ :: r) σ st K:=
  s_pure (fun K=>by simp only [WOp,aexec,apure,hx,Option.map_some,onO_some]) h
theorem s_lenS {l:List UInt8} (hx:x.ev σ = .s l) (h:WO prog d id base (i + 1) r (upO σ t (.i .i64 (l.length:Int))) st K):WO prog d id base i (⟨t,.len true x,none⟩ :: r) σ st K:=
  s_pure (fun K=>by rw [WOp_lenS,hx,onS_s]) h
theorem s_lenL {α:Type} {f:α→List AV} {l:List α} {o:Own} (hx:x.ev σ = .sl o (l.map f)) (h:WO prog d id base (i + 1) r (upO σ t (.i .i64 (l.length:Int))) st K):WO prog d id base i (⟨t,.len false x,none⟩ :: r) σ st K:=
  s_pure (fun K=>by rw [WOp_lenL,hx,onL_sl,List.length_map]) h
theorem s_ixS {l:List UInt8} {k:IntKind} {n:Int} {c:UInt8} (hx:x.ev σ = .s l) (hy:y.ev σ = .i k n) (h0:0≤n) (hc:l[n.toNat]? = some c) (h:WO prog d id base (i + 1) r (upO σ t (.i .u8 (c.toNat:Int))) st K):WO prog d id base i (⟨t,.ixS x y,none⟩ :: r) σ st K:=
  s_pure (fun K=>by rw [WOp_ixS,hx,onS_s,hy,onN_pos _ _ _ h0,hc,onO_some]) h
theorem s_cvi {k k':IntKind} {n:Int} (hx:x.ev σ = .i k' n) (h:WO prog d id base (i + 1) r (upO σ t (.i k (k.wrap n))) st K):WO prog d id base i (⟨t,.cvi k x,none⟩ :: r) σ st K:=
  s_pure (fun K=>by rw [WOp_cvi,hx,onI_i]) h
theorem s_b2s {l:List UInt8} {o:Own} (hx:x.ev σ = .sl o (l.map row8)) (h:WO prog d id base (i + 1) r (upO σ t (.s l)) st K):WO prog d id base i (⟨t,.b2s x,none⟩ :: r) σ st K:=
  s_pure (fun K=>by
    have:=bytesOf_bs l
    unfold bs at this
    rw [WOp_b2s,hx,onL_sl,this,onO_some]) h
theorem s_ext {k:Nat} {vs:List AV} {v:AV} (hx:x.ev σ = .tup vs) (hv:vs[k]? = some v) (h:WO prog d id base (i + 1) r (upO σ t v) st K):WO prog d id base i (⟨t,.ext k x,none⟩ :: r) σ st K:=
  s_pure (fun K=>by rw [WOp_ext,hx,onT_tup,hv,onO_some]) h
theorem s_slS_lo {z:Opd} {l:List UInt8} {k:IntKind} {n:Int} (hx:x.ev σ = .s l) (hz:z.ev σ = .i k n) (h0:0≤n) (h1:n.toNat≤l.length) (h:WO prog d id base (i + 1) r (upO σ t (.s (l.drop n.toNat))) st K):WO prog d id base i (⟨t,.slS x (some z) none,none⟩ :: r) σ st K:=
  s_pure (fun K=>by
    rw [WOp_slS,hx,onS_s]
    have hb:bnds σ l.length l.length (some z) none = some (n.toNat,l.length):=by
      simp only [bnds,hz,AV.nat,h0,if_true]
      rw [if_pos ⟨h1,Nat.le_refl _⟩]
    rw [hb,onO_some]
    simp only
    rw [List.take_of_length_le (by simp)]) h
theorem s_slS_hi {z:Opd} {l:List UInt8} {k:IntKind} {n:Int} (hx:x.ev σ = .s l) (hz:z.ev σ = .i k n) (h0:0≤n) (h1:n.toNat≤l.length) (h:WO prog d id base (i + 1) r (upO σ t (.s (l.take n.toNat))) st K):WO prog d id base i (⟨t,.slS x none (some z),none⟩ :: r) σ st K:=
  s_pure (fun K=>by
    rw [WOp_slS,hx,onS_s]
    have hb:bnds σ l.length l.length none (some z) = some (0,n.toNat):=by
      simp only [bnds,hz,AV.nat,h0,if_true]
      rw [if_pos ⟨Nat.zero_le _,h1⟩]
    rw [hb,onO_some]
    simp only [List.drop_zero,Nat.sub_zero]) h
theorem s_slS {z z':Opd} {l:List UInt8} {k k':IntKind} {n m:Int} (hx:x.ev σ = .s l) (hz:z.ev σ = .i k n) (hz':z'.ev σ = .i k' m) (h0:0≤n) (h1:n≤m) (h2:m.toNat≤l.length) (h:WO prog d id base (i + 1) r (upO σ t (.s ((l.drop n.toNat).take (m.toNat - n.toNat)))) st K):WO prog d id base i (⟨t,.slS x (some z) (some z'),none⟩ :: r) σ st K:=
  s_pure (fun K=>by
    rw [WOp_slS,hx,onS_s]
    have hb:bnds σ l.length l.length (some z) (some z') = some (n.toNat,m.toNat):=by
      simp only [bnds,hz,hz',AV.nat,h0,show (0:Int)≤m by omega,if_true]
      rw [if_pos ⟨by omega,h2⟩]
    rw [hb,onO_some]) h
theorem s_build {zero:List AV} {parts:List (Nat × Nat × Opd)} {cs:List AV} (hp:fillCells σ zero parts = some cs) (h:WO prog d id base (i + 1) r (upO σ t (.ag cs)) st K):WO prog d id base i (⟨t,.build zero parts,none⟩ :: r) σ st K:=
  s_pure (fun K=>by simp only [WOp,aexec,apure,hp,Option.map_some,onO_some]) h
theorem f_nil {cs:List AV}:fillCells σ cs [] = some cs:=rfl
theorem f_cons {cells cs:List AV} {off n:Nat} {v:AV} {ps:List (Nat × Nat × Opd)} (hx:x.ev σ = v) (hc:(Nat.beq v.cells.length n && Nat.ble (off + n) cells.length && v.cells.all AV.one) = true) (h:fillCells σ (setAt cells off v.cells) ps = some cs):fillCells σ cells ((off,n,x) :: ps) = some cs:=by
  simp only [Bool.and_eq_true] at hc
  simp only [fillCells,hx]
  rw [if_pos ⟨Nat.eq_of_beq_eq_true hc.1.1,Nat.le_of_ble_eq_true hc.1.2,hc.2⟩]
  exact h
theorem s_ixA {α:Type} {f:α→AV} {l:List α} {n:Nat} {k:IntKind} {m:Int} {c:α} (hn:l.length = n) (hx:x.ev σ = .ag (l.map f)) (hy:y.ev σ = .i k m) (h0:0≤m) (hc:l[m.toNat]? = some c) (h:WO prog d id base (i + 1) r (upO σ t (f c)) st K):WO prog d id base i (⟨t,.ixA n 1 false x y,none⟩ :: r) σ st K:=
  s_pure (fun K=>by
    have hl:m.toNat < l.length:=by
      rcases Nat.lt_or_ge m.toNat l.length with h | h
      · exact h
      · rw [List.getElem?_eq_none h] at hc; cases hc
    have hd:((l.map f).drop m.toNat).take 1 = [f c]:=by
      rw [List.drop_eq_getElem_cons (by simpa using hl)]
      simp only [List.getElem_map,List.take_succ_cons,List.take_zero]
      rw [List.getElem?_eq_getElem hl] at hc
      injection hc with hc
      rw [hc]
    simp only [WOp,aexec,apure,hx,hy,AV.nat,h0,if_true,Nat.mul_one]
    rw [if_pos ⟨by omega,by simp; omega⟩,hd]
    simp only [ofCells,Bool.false_eq_true,if_false,Option.map_some,onO_some]) h
theorem s_bslice {zero z:List AV} {n:Nat} {parts:List (Nat × Opd)} {rows:List (List AV)} (hz:softs zero = some z) (hn:(Nat.blt 0 z.length && Nat.ble (n * z.length) 65536) = true) (hp:fillRows z σ (List.replicate n z) parts = some rows) (h:WO prog d id base (i + 1) r (upO σ t (.sl .full rows)) st K):WO prog d id base i (⟨t,.bslice zero n parts,none⟩ :: r) σ st K:=
  s_pure (fun K=>by
    simp only [Bool.and_eq_true] at hn
    have h1:0 < z.length:=Nat.le_of_ble_eq_true hn.1
    rw [WOp_bslice,hz,onO_some,hp,onO_some]
    simp only [h1,Nat.le_of_ble_eq_true hn.2,and_self,true_and]) h
theorem g_nil {z:List AV} {rows:List (List AV)}:fillRows z σ rows [] = some rows:=rfl
theorem g_cons {z:List AV} {rows rows':List (List AV)} {j:Nat} {v:AV} {cs:List AV} {ps:List (Nat × Opd)} (hx:x.ev σ = v) (hc:softs v.cells = some cs) (hn:(Nat.blt j rows.length && Nat.beq cs.length z.length) = true) (h:fillRows z σ (rows.set j cs) ps = some rows'):fillRows z σ rows ((j,x) :: ps) = some rows':=by
  simp only [Bool.and_eq_true] at hn
  have h1:j < rows.length:=Nat.le_of_ble_eq_true hn.1
  simp only [fillRows,hx,hc]
  rw [if_pos ⟨h1,Nat.eq_of_beq_eq_true hn.2⟩]
  exact h
theorem s_iaL {α:Type} {f:α→List AV} {l:List α} {o:Own} {size:Nat} {k:IntKind} {n:Int} {c:α} {cs:List AV} (hx:x.ev σ = .sl o (l.map f)) (hy:y.ev σ = .i k n) (h0:0≤n) (hc:l[n.toNat]? = some c) (hf:f c = cs) (hs:(Nat.beq cs.length size && Nat.blt 0 size) = true) (h:WO prog d id base (i + 1) r (upO σ t (.fp cs)) st K):WO prog d id base i (⟨t,.iaL size x y,none⟩ :: r) σ st K:=
  s_pure (fun K=>by
    simp only [Bool.and_eq_true] at hs
    have h1:0 < size:=Nat.le_of_ble_eq_true hs.2
    have h2:(l.map f)[n.toNat]? = some cs:=by rw [List.getElem?_map,hc,Option.map_some,hf]
    simp only [WOp,aexec,apure,hx,hy,AV.nat,h0,if_true,h2]
    rw [if_pos ⟨Nat.eq_of_beq_eq_true hs.1,h1⟩,Option.map_some,onO_some]) h
theorem s_loadF {n:Nat} {agg:Bool} {cs:List AV} {v:AV} (hx:x.ev σ = .fp cs) (hn:Nat.ble n cs.length = true) (hv:ofCells agg (cs.take n) = some v) (h:WO prog d id base (i + 1) r (upO σ t v) st K):WO prog d id base i (⟨t,.load n agg x,none⟩ :: r) σ st K:=
  s_pure (fun K=>by simp only [WOp,aexec,aload,hx,Nat.le_of_ble_eq_true hn,if_true,hv,Option.map_some,onO_some]) h
theorem s_ldf {n:Nat} {agg:Bool} {cs:List AV} {v:AV} (hx:x.ev σ = .fp cs) (hn:Nat.ble n cs.length = true) (hv:ofCells agg (cs.take n) = some v) (h:WO prog d id base (i + 1) r (upO σ t v) st K):WO prog d id base i (⟨t,.ldf n agg x,none⟩ :: r) σ st K:=
  s_pure (fun K=>by simp only [WOp,aexec,apure,hx,Nat.le_of_ble_eq_true hn,if_true,hv,Option.map_some,onO_some]) h
theorem s_fadF {off:Nat} {cs:List AV} (hx:x.ev σ = .fp cs) (h:WO prog d id base (i + 1) r (upO σ t (.fp (cs.drop off))) st K):WO prog d id base i (⟨t,.fad off x,none⟩ :: r) σ st K:=
  s_pure (fun K=>by simp only [WOp,aexec,apure,hx,Option.map_some,onO_some]) h
theorem s_alloc {zero:List AV} (h:WO prog d id base (i + 1) r (upO σ t (.p (d,id * 4096 + i) (base + i) 0)) st K):WO prog d id base i (⟨t,.alloc zero,none⟩ :: r) σ st K:=
  s_pure (fun _=>rfl) h
theorem s_fadP {off o v:Nat} {k:Key} (hx:x.ev σ = .p k v o) (h:WO prog d id base (i + 1) r (upO σ t (.p k v (o + off))) st K):WO prog d id base i (⟨t,.fad off x,none⟩ :: r) σ st K:=
  s_pure (fun K=>by simp only [WOp,aexec,apure,hx,Option.map_some,onO_some]) h
theorem s_nilP {o v:Nat} {k:Key} (hx:x.ev σ = .p k v o) (h:WO prog d id base (i + 1) r (upO σ t (.p k v o)) st K):WO prog d id base i (⟨t,.nilc x,none⟩ :: r) σ st K:=
  s_pure (fun K=>by simp only [WOp,aexec,apure,hx,Option.map_some,onO_some]) h
theorem s_loadP {n o v:Nat} {agg:Bool} {k:Key} {cs:List AV} {w:AV} (hx:x.ev σ = .p k v o) (hb:lk st.bx k = some (v,cs)) (hn:Nat.ble (o + n) cs.length = true) (hv:ofCells agg ((cs.drop o).take n) = some w) (h:WO prog d id base (i + 1) r (upO σ t w) st K):WO prog d id base i (⟨t,.load n agg x,none⟩ :: r) σ st K:=
  s_pure (fun K=>by simp only [WOp,aexec,aload,hx,hb,Nat.le_of_ble_eq_true hn,and_self,if_true,hv,Option.map_some,onO_some]) h
theorem s_storeP {n o v:Nat} {k:Key} {cs cs':List AV} {w:AV} (hx:x.ev σ = .p k v o) (hb:lk st.bx k = some (v,cs)) (hy:y.ev σ = w) (hn:(Nat.ble (o + n) cs.length && Nat.beq w.cells.length n && w.cells.all AV.one) = true) (hs:setAt cs o w.cells = cs') (h:WO prog d id base (i + 1) r (upO σ t (.tup [])) { st with bx:=st_ st.bx k (v,cs') } K) (hok:okSt k w = true:=by first | rfl | exact okSt_r rfl):WO prog d id base i (⟨t,.store n x y,none⟩ :: r) σ st K:=by
  refine s_one ?_
  simp only [Bool.and_eq_true] at hn
  simp only [WOp,aexec,astore,hx,hb,hy]
  rw [if_pos ⟨trivial,Nat.le_of_ble_eq_true hn.1.1,Nat.eq_of_beq_eq_true hn.1.2,hn.2,hok⟩,hs]
  simp only [Option.map_some,onO_some]
  exact h
theorem s_box {n:Nat} {v:AV} (hx:x.ev σ = v) (hn:(Nat.beq v.cells.length n && v.cells.all AV.one) = true) (h:WO prog d id base (i + 1) r (upO σ t (.p (d,id * 4096 + i) (base + i) 0)) { st with bx:=st_ st.bx (d,id * 4096 + i) (base + i,v.cells) } K):WO prog d id base i (⟨t,.box n x,none⟩ :: r) σ st K:=by
  refine s_one ?_
  simp only [Bool.and_eq_true] at hn
  simp only [WOp,aexec,hx]
  rw [if_pos ⟨Nat.eq_of_beq_eq_true hn.1,hn.2⟩,onO_some]
  exact h
theorem s_iaP {n size o v:Nat} {k:Key} {k':IntKind} {m:Int} (hx:x.ev σ = .p k v o) (hy:y.ev σ = .i k' m) (h0:0≤m) (h1:m.toNat < n) (h:WO prog d id base (i + 1) r (upO σ t (.p k v (o + m.toNat * size))) st K):WO prog d id base i (⟨t,.iaA n size x y,none⟩ :: r) σ st K:=
  s_pure (fun K=>by
    simp only [WOp,aexec,apure,hx,hy,AV.nat,h0,if_true,h1,Option.map_some,onO_some]) h
theorem s_app {α:Type} {f:α→List AV} {size bytes:Nat} {l m:List α} {o o2:Own} (hf :∀a,(f a).length = size) (hsz:Nat.blt 0 size = true) (hx:x.ev σ = .sl o (l.map f)) (hy:y.ev σ = .sl o2 (m.map f)) (ha:App st.ow o l.length) (hs:Fit (l.length + m.length) bytes) (hb:Nat.blt (id * 4096 + i) bigSite = true)
    (h :∀o' ow',App ow' o' (l ++ m).length→(∀k,some k≠ownKey o→k≠(d,id * 4096 + i)→lk ow' k = lk st.ow k)→(ownKey o' = ownKey o∨ownKey o' = some (d,id * 4096 + i))→WO prog d id base (i + 1) r (upO σ t (.sl o' ((l ++ m).map f))) ⟨st.nx,st.bx,ow'⟩ K):WO prog d id base i (⟨t,.app size bytes x y,none⟩ :: r) σ st K:=by
  refine s_one ?_
  have h1:0 < size:=Nat.le_of_ble_eq_true hsz
  refine WOp_app_ok (Nat.le_of_ble_eq_true hb) hx hy (by simpa using ha) (by simpa using hs.1) (by simpa using hs.2) h1 (by simp [hf]) (by simp [hf]) fun o' ow' h2 h3 h4=>?_
  rw [← List.map_append] at h2 ⊢
  exact h o' ow' (by simpa using h2) h3 h4
theorem sn:AV.strips (evs σ []) = some []:=rfl
theorem sc {v w:AV} {xs:List Opd} {ws:List AV} (hx:x.ev σ = v) (hw:v.strip = some w) (h:AV.strips (evs σ xs) = some ws):AV.strips (evs σ (x :: xs)) = some (w :: ws):=by
  simp only [evs,AV.strips,hx,hw,h]
theorem s_call {f:Nat} {args:List Opd} {vs:List AV} {v:AV} (hs:AV.strips (evs σ args) = some vs) (hp:Pus prog f vs v) (h:WO prog d id base (i + 1) r (upO σ t v) st K):WO prog d id base i (⟨t,.call false f args,none⟩ :: r) σ st K:=by
  refine s_one ?_
  obtain ⟨r',h1,h2⟩:=hp
  rw [WOp_call,hs,onO_some,WC_eq h1,h2,onO_some]
  exact h
theorem sen:evs σ [] = []:=rfl
theorem sec {v:AV} {xs:List Opd} {vs:List AV} (hx:x.ev σ = v) (h:evs σ xs = vs):evs σ (x :: xs) = v :: vs:=by simp only [evs,hx,h]
theorem s_callA {f:Nat} {args:List Opd} {vs:List AV} {o:Own} {rows rows':List (List AV)} (hs:evs σ args = .sl o rows :: vs) (hp:PuA prog f rows vs rows') (ha:App st.ow o rows.length)
    (h :∀o' st',App st'.ow o' rows'.length→WO prog d id base (i + 1) r (upO σ t (.sl o' rows')) st' K):WO prog d id base i (⟨t,.call true f args,none⟩ :: r) σ st K:=by
  refine s_one ?_
  obtain ⟨o',st',h1,h2⟩:=hp (d + 1) st o ha
  rw [WOp_callp,hs]
  exact ⟨_,_,h1,h o' st' h2⟩
section
variable {dst:Option Nat} {op:AOp} {g:Nat} {w:Bool}
theorem s_gy (hg:σ g = .b w) (h:WO prog d id base i (⟨dst,op,none⟩ :: r) σ st K):WO prog d id base i (⟨dst,op,some (g,w)⟩ :: r) σ st K:=by
  show W1 prog d _ _ ⟨dst,op,some (g,w)⟩ σ st _
  rw [W1_some,hg]
  cases w <;> exact h
theorem s_gn {b:Bool} (hg:σ g = .b b) (hb:(b != w) = true) (h:WO prog d id base (i + 1) r (upO σ dst (.tup [])) st K):WO prog d id base i (⟨dst,op,some (g,w)⟩ :: r) σ st K:=by
  show W1 prog d _ _ ⟨dst,op,some (g,w)⟩ σ st _
  rw [← upO_eq] at h
  rw [W1_some,hg]
  cases w <;> cases b <;> first | exact absurd hb (by decide) | exact h
theorem s_gt (hg:σ g = .tup []) (h:WO prog d id base (i + 1) r (upO σ dst (.tup [])) st K):WO prog d id base i (⟨dst,op,some (g,w)⟩ :: r) σ st K:=by
  show W1 prog d _ _ ⟨dst,op,some (g,w)⟩ σ st _
  rw [← upO_eq] at h
  rw [W1_some,hg]
  exact h
end
theorem s_em {ops:List AI} {g:Nat} {p:Prop} [Decidable p] (hg:σ g = .b (decide p)) (h1:p→WO prog d id base i ops (up σ g (.b true)) st K) (h2:¬p→WO prog d id base i ops (up σ g (.b false)) st K):WO prog d id base i ops σ st K:=by
  by_cases h:p
  · have:=h1 h
    rwa [← up_eq,upd_self (by rw [hg,decide_eq_true h])] at this
  · have:=h2 h
    rwa [← up_eq,upd_self (by rw [hg,decide_eq_false h])] at this
theorem s_emb {ops:List AI} {g:Nat} {b:Bool} (hg:σ g = .b b) (h1:b = true→WO prog d id base i ops (up σ g (.b true)) st K) (h2:b = false→WO prog d id base i ops (up σ g (.b false)) st K):WO prog d id base i ops σ st K:=by
  cases b with
  | true=>have:=h1 rfl; rwa [← up_eq,upd_self hg] at this
  | false=>have:=h2 rfl; rwa [← up_eq,upd_self hg] at this
theorem s_pickT {a b:Opd} {v:AV} (hx:x.ev σ = .b true) (ha:a.ev σ = v) (h:WO prog d id base (i + 1) r (upO σ t v) st K):WO prog d id base i (⟨t,.pick x a b,none⟩ :: r) σ st K:=
  s_pure (fun K=>by rw [WOp_pick,hx,onB_true,ha]; rfl) h
theorem s_pickF {a b:Opd} {v:AV} (hx:x.ev σ = .b false) (hb:b.ev σ = v) (h:WO prog d id base (i + 1) r (upO σ t v) st K):WO prog d id base i (⟨t,.pick x a b,none⟩ :: r) σ st K:=
  s_pure (fun K=>by rw [WOp_pick,hx,onB_false,hb]; rfl) h
end
section
variable {prog:Prog} {d:Nat} {σ:Sl} {st:St} {Q:AE→Sl→St→Prop}
theorem c_split {c:Opd} {a b:AC} {p:Prop} [Decidable p] (hc:c.ev σ = .b (decide p)) (h1:p→W prog d a σ st Q) (h2:¬p→W prog d b σ st Q):W prog d (.cond c a b) σ st Q:=W.split hc h1 h2
theorem c_bool {c:Opd} {a b:AC} {t:Bool} (hc:c.ev σ = .b t) (h1:t = true→W prog d a σ st Q) (h2:t = false→W prog d b σ st Q):W prog d (.cond c a b) σ st Q:=W.cnd hc h1 h2
theorem c_tt {c:Opd} {a b:AC} (hc:c.ev σ = .b true) (h1:W prog d a σ st Q):W prog d (.cond c a b) σ st Q:=W.tt hc h1
theorem c_ff {c:Opd} {a b:AC} (hc:c.ev σ = .b false) (h1:W prog d b σ st Q):W prog d (.cond c a b) σ st Q:=W.ff hc h1
def endW (d:Nat) (res:List ARes) (K:AV→St→Prop):AE→Sl→St→Prop
  | .normal,σ,st | .ret,σ,st=>∃r,ares σ st res = some r∧K r { st with bx:=st.bx.filter fun x=>x.1.1 < d }
  | _,_,_=>False
theorem Fn.of' {f:Nat} {F:AF} {args:List AV} {K:AV→St→Prop} (hf:prog.fn f = some F) (hn:args.length≤F.nt) (h:W prog d F.body (sl0 args) st (endW d F.res K)) :∃r st',Fn prog d f args st r st'∧K r st':=by
  obtain ⟨n,e,σ1,st1,h1,h2⟩:=h
  cases e with
  | normal=>
    obtain ⟨r,h3,h4⟩:=h2
    exact ⟨r,_,⟨n + 1,by simp only [acall,hf,if_pos hn,h1,h3,Option.map_some]⟩,h4⟩
  | ret=>
    obtain ⟨r,h3,h4⟩:=h2
    exact ⟨r,_,⟨n + 1,by simp only [acall,hf,if_pos hn,h1,h3,Option.map_some]⟩,h4⟩
  | exit id=>exact h2.elim
  | goto l=>exact h2.elim
theorem Pus.of {f:Nat} {F:AF} {args:List AV} {K:AV→Prop} (hf:prog.fn f = some F) (hn:Nat.ble args.length F.nt = true) (h:W prog 0 F.body (sl0 args) st0 (endW 0 F.res fun r _=>∃v,r.strip = some v∧K v)) :∃v,Pus prog f args v∧K v:=by
  obtain ⟨r,st',h1,v,h2,h3⟩:=Fn.of' hf (Nat.le_of_ble_eq_true hn) h
  exact ⟨v,⟨r,⟨st',h1⟩,h2⟩,h3⟩
theorem Pus.orac {f:Nat} {args:List AV} {r v:AV} (hf:prog.fn f = none) (hr:prog.orac f args = some r) (hv:r.strip = some v):Pus prog f args v:=
  ⟨r,⟨st0,1,by simp only [acall,hf,hr,Option.map_some]⟩,hv⟩
end
theorem abin_quo' {k:IntKind} {a b:Int} (h:b≠0):abin .quo (.i k a) (.i k b) = some (.i k (k.wrap (a.tdiv b))):=by rw [abin_quo,if_neg h]
theorem abin_rem' {k:IntKind} {a b:Int} (h:b≠0):abin .rem (.i k a) (.i k b) = some (.i k (a.tmod b)):=by simp [abin,aint,h]
theorem abin_shr' {k k':IntKind} {a b:Int} (h:0≤b):abin .shr (.i k a) (.i k' b) = some (.i k (a.fdiv (2 ^ (min b.toNat k.bits)))):=by rw [abin_shr,if_neg (by omega)]
theorem abin_or (k:IntKind) (a b:Int):abin .or (.i k a) (.i k b) = some (.i k (k.wrap (BitVec.ofInt k.bits a ||| BitVec.ofInt k.bits b).toNat)):=by simp [abin,aint]
theorem abin_andNot (k:IntKind) (a b:Int):abin .andNot (.i k a) (.i k b) = some (.i k (k.wrap (BitVec.ofInt k.bits a &&& ~~~(BitVec.ofInt k.bits b)).toNat)):=by simp [abin,aint]
theorem abin_cat' {x y:List UInt8} (h:x.length + y.length≤maxStr):abin .add (.s x) (.s y) = some (.s (x ++ y)):=by rw [abin_cat,if_pos h]
def rowS (x:List UInt8):List AV:=[.s x]
def rowI (k:IntKind) (x:Int):List AV:=[.i k x]
def c8 (x:UInt8):AV:=.i .u8 (x.toNat:Int)
theorem row8_len (x:UInt8):(row8 x).length = 1:=rfl
theorem rowS_len (x:List UInt8):(rowS x).length = 1:=rfl
theorem App.full {ow:List (Key × Nat × Nat)} {n:Nat}:App ow .full n:=trivial
theorem lk_here {α:Type} {l:List (Key × α)} {k:Key} {a:α}:lk (st_ l k a) k = some a:=by rw [lk_st',if_pos rfl]
theorem lk_other {α:Type} {l:List (Key × α)} {d s s':Nat} {a:α} {b:Option α} (h:Nat.beq s s' = false) (hb:lk l (d,s') = b):lk (st_ l (d,s) a) (d,s') = b:=by
  rw [lk_st',if_neg ?_,hb]
  intro e
  injection e with _ e
  rw [e,Nat.beq_refl] at h
  cases h
theorem setAt_map {α:Type} (f:α→AV) (l:List α) (n:Nat) (a:α):setAt (l.map f) n [f a] = (l.set n a).map f:=by
  simp only [setAt,List.map_set]
theorem softs_c8 :∀l:List UInt8,softs (l.map c8) = some (l.map c8)
  | []=>rfl
  | c :: l=>by simp only [List.map_cons,softs,softs_c8 l,c8,AV.soft]
theorem chunk_c8 (l:List UInt8):chunk 1 l.length (l.map c8) = l.map row8:=by
  unfold chunk
  apply List.ext_getElem
  · simp
  · intro j h1 h2
    simp at h1
    simp only [List.getElem_map,List.getElem_range,Nat.mul_one]
    rw [List.drop_eq_getElem_cons (by simpa using h1)]
    simp [c8,row8]
section
variable {prog:Prog} {d id base i:Nat} {σ:Sl} {st:St} {K:Sl→St→Prop} {r:List AI} {t:Option Nat} {x y:Opd}
theorem s_slA_lo {z:Opd} {l:List UInt8} {k:Key} {k':IntKind} {n v:Nat} {m:Int} (hx:x.ev σ = .p k v 0) (hb:lk st.bx k = some (v,l.map c8)) (hn:l.length = n) (hn0:Nat.blt 0 n = true) (hz:z.ev σ = .i k' m) (h0:0≤m) (h1:m.toNat≤n) (h:WO prog d id base (i + 1) r (upO σ t (.sl .ext ((l.drop m.toNat).map row8))) { st with bx:=del st.bx k } K):WO prog d id base i (⟨t,.slA n 1 x (some z) none,none⟩ :: r) σ st K:=by
  refine s_one ?_
  have hbd:bnds σ n n (some z) none = some (m.toNat,n):=by
    simp only [bnds,hz,AV.nat,h0,if_true]
    rw [if_pos ⟨h1,Nat.le_refl _⟩]
  simp only [WOp,aexec,hx,hb]
  rw [if_pos ⟨trivial,trivial,by simp [hn],Nat.one_pos⟩]
  subst hn
  simp only [softs_c8,hbd,Option.map_some,onO_some,chunk_c8]
  rw [List.take_of_length_le (by simp),← List.map_drop]
  exact h
theorem s_storeA {α:Type} {f:α→AV} {l:List α} {a:α} {v o:Nat} {k:Key} (hf :∀a,(f a).cells = [f a]∧(f a).one = true) (hx:x.ev σ = .p k v o) (hb:lk st.bx k = some (v,l.map f)) (hy:y.ev σ = f a) (hn:o < l.length) (h:WO prog d id base (i + 1) r (upO σ t (.tup [])) { st with bx:=st_ st.bx k (v,(l.set o a).map f) } K) (hok:okSt k (f a) = true:=by first | rfl | exact okSt_r rfl):WO prog d id base i (⟨t,.store 1 x y,none⟩ :: r) σ st K:=by
  refine s_one ?_
  simp only [WOp,aexec,astore,hx,hb,hy,(hf a).1]
  rw [if_pos ⟨trivial,by simp; omega,rfl,by simp [(hf a).2],hok⟩,setAt_map]
  simp only [Option.map_some,onO_some]
  exact h
end
theorem c8_one (a:UInt8):(c8 a).cells = [c8 a]∧(c8 a).one = true:=⟨rfl,rfl⟩
section
variable {prog:Prog} {d id base i:Nat} {σ:Sl} {st:St} {K:Sl→St→Prop} {r:List AI} {t:Option Nat} {x y:Opd}
theorem s_mvI {k:IntKind} {n:Int} (hx:x.ev σ = .i k n) (h:WO prog d id base (i + 1) r (upO σ t (.i k n)) st K):WO prog d id base i (⟨t,.mv x,none⟩ :: r) σ st K:=s_mv hx h
theorem s_mvB {b:Bool} (hx:x.ev σ = .b b) (h:WO prog d id base (i + 1) r (upO σ t (.b b)) st K):WO prog d id base i (⟨t,.mv x,none⟩ :: r) σ st K:=s_mv hx h
theorem s_mvS {l:List UInt8} (hx:x.ev σ = .s l) (h:WO prog d id base (i + 1) r (upO σ t (.s l)) st K):WO prog d id base i (⟨t,.mv x,none⟩ :: r) σ st K:=s_mv hx h
theorem s_mvL {α:Type} {f:α→List AV} {l:List α} {o:Own} (hx:x.ev σ = .sl o (l.map f)) (h:WO prog d id base (i + 1) r (upO σ t (.sl o (l.map f))) st K):WO prog d id base i (⟨t,.mv x,none⟩ :: r) σ st K:=s_mv hx h
section
variable {a b:Opd}
theorem s_pickTB {v:Bool} (hx:x.ev σ = .b true) (ha:a.ev σ = .b v) (h:WO prog d id base (i + 1) r (upO σ t (.b v)) st K):WO prog d id base i (⟨t,.pick x a b,none⟩ :: r) σ st K:=s_pickT hx ha h
theorem s_pickFB {v:Bool} (hx:x.ev σ = .b false) (hb:b.ev σ = .b v) (h:WO prog d id base (i + 1) r (upO σ t (.b v)) st K):WO prog d id base i (⟨t,.pick x a b,none⟩ :: r) σ st K:=s_pickF hx hb h
end
theorem wr_byte (k:IntKind) (hk:(k != .i8) = true) (c:UInt8):k.wrap (c.toNat:Int) = (c.toNat:Int):=by
  have:=c.toNat_lt
  cases k with
  | i8=>exact absurd hk (by decide)
  | i16=>simp [IntKind.wrap,IntKind.bits,IntKind.signed]; omega
  | i32=>rw [IntKind.wrap_i32]; omega
  | i64=>rw [IntKind.wrap_i64]; omega
  | u8=>rw [IntKind.wrap_u8]; omega
  | u16=>rw [IntKind.wrap_u16]; omega
  | u32=>rw [IntKind.wrap_u32]; omega
  | u64=>rw [IntKind.wrap_u64]; omega
theorem s_cvB {k k':IntKind} {c:UInt8} (hx:x.ev σ = .i k' (c.toNat:Int)) (hk:(k != .i8) = true) (h:WO prog d id base (i + 1) r (upO σ t (.i k (c.toNat:Int))) st K):WO prog d id base i (⟨t,.cvi k x,none⟩ :: r) σ st K:=
  s_cvi hx (by rw [wr_byte k hk c]; exact h)
theorem g_u8 {n:Int} {c:UInt8} (hx:x.ev σ = .i .u8 n) (hc:n = (c.toNat:Int)):x.ev σ = .i .u8 (c.toNat:Int):=by rw [hx,hc]
theorem s_bslM {α:Type} {f:α→List AV} {l:List α} {zero z:List AV} {n:Nat} {parts:List (Nat × Opd)} {rows:List (List AV)} (hz:softs zero = some z) (hn:(Nat.blt 0 z.length && Nat.ble (n * z.length) 65536) = true) (hp:fillRows z σ (List.replicate n z) parts = some rows) (hr:rows = l.map f) (h:WO prog d id base (i + 1) r (upO σ t (.sl .full (l.map f))) st K):WO prog d id base i (⟨t,.bslice zero n parts,none⟩ :: r) σ st K:=
  s_bslice hz hn hp (by rw [hr]; exact h)
theorem s_buildM {α:Type} {f:α→AV} {l:List α} {zero:List AV} {parts:List (Nat × Nat × Opd)} {cs:List AV} (hp:fillCells σ zero parts = some cs) (hr:cs = l.map f) (h:WO prog d id base (i + 1) r (upO σ t (.ag (l.map f))) st K):WO prog d id base i (⟨t,.build zero parts,none⟩ :: r) σ st K:=
  s_build hp (by rw [hr]; exact h)
end
def bAnd (k:IntKind) (a b:Int):Int:=k.wrap (BitVec.ofInt k.bits a &&& BitVec.ofInt k.bits b).toNat
def bOr (k:IntKind) (a b:Int):Int:=k.wrap (BitVec.ofInt k.bits a ||| BitVec.ofInt k.bits b).toNat
def bAndNot (k:IntKind) (a b:Int):Int:=k.wrap (BitVec.ofInt k.bits a &&& ~~~(BitVec.ofInt k.bits b)).toNat
def bShr (k:IntKind) (a:Int) (n:Nat):Int:=a.fdiv (2 ^ (min n k.bits))
def PuAK (prog:Prog) (f:Nat) (rows:List (List AV)) (args:List AV) (KK:List (List AV)→Prop):Prop:=
  ∀d st o,App st.ow o rows.length→∃o' st' rows',KK rows'∧Fn prog d f (.sl o rows :: args) st (.sl o' rows') st'∧App st'.ow o' rows'.length
def appK (KK:List (List AV)→Prop) (r:AV) (st':St):Prop:=∃o' rows',r = .sl o' rows'∧App st'.ow o' rows'.length∧KK rows'
theorem PuAK.of {prog:Prog} {f:Nat} {F:AF} {rows:List (List AV)} {args:List AV} {KK:List (List AV)→Prop} (hf:prog.fn f = some F) (hn:Nat.ble (args.length + 1) F.nt = true) (h :∀d st o,App st.ow o rows.length→W prog d F.body (sl0 (.sl o rows :: args)) st (endW d F.res (appK KK))):PuAK prog f rows args KK:=by
  intro d st o ha
  obtain ⟨r,st',h1,o',rows',rfl,h2,h3⟩:=Fn.of' (args:=.sl o rows :: args) hf (by simpa using Nat.le_of_ble_eq_true hn) (h d st o ha)
  exact ⟨o',st',rows',h3,h1,h2⟩
theorem PuAK.to {prog:Prog} {f:Nat} {rows rows':List (List AV)} {args:List AV} (h:PuAK prog f rows args fun x=>x = rows'):PuA prog f rows args rows':=by
  intro d st o ha
  obtain ⟨o',st',x,rfl,h1,h2⟩:=h d st o ha
  exact ⟨o',st',h1,h2⟩
section
variable {prog:Prog} {d id base i:Nat} {σ:Sl} {st:St} {K:Sl→St→Prop} {r:List AI} {t:Option Nat} {x y:Opd}
theorem s_iaP1 {n v:Nat} {k:Key} {k':IntKind} {m:Int} (hx:x.ev σ = .p k v 0) (hy:y.ev σ = .i k' m) (h0:0≤m) (h1:m.toNat < n) (h:WO prog d id base (i + 1) r (upO σ t (.p k v m.toNat)) st K):WO prog d id base i (⟨t,.iaA n 1 x y,none⟩ :: r) σ st K:=
  s_iaP hx hy h0 h1 (by rw [Nat.zero_add,Nat.mul_one]; exact h)
end
end Go.AM

namespace Go.AM
open Go Go.RowKit Go.ChangeShapes Go.WideShapes
def ArgOk (T:TTab) (t:TypeId) (a:AV):Prop:=
  match T t with
  | some i=>match i.kind with
    | .st _=>∃f vsA,a = .ag vsA∧vsA.length = i.size∧HasC T f t vsA
    | _=>∃f,HasC T f t [a]
  | none=>False
def ArgsOk (T:TTab):List TypeId→List AV→Prop
  | [],[]=>True
  | t :: ts,a :: vsA=>ArgOk T t a∧ArgsOk T ts vsA
  | _,_=>False
section
variable {H:Type} {enc:TypeId × Value→H} {P:Program} {X:Cx} {W:World} {L:List Nat}
def G0 (X:Cx) (W:World):Gh:=⟨H0 W,fun _ _=>none,fun _ _=>none,X.fm,fun _=>none⟩
theorem G0_rel (hgl:GlobOk X.fm W):Rel (G0 X W) W st0 W where
  bel:=⟨.refl _ _,hgl⟩
  ext:=fun g o v h=>H0_inv h
  bx:=by intro k ver cs g h; cases h
  inj:=by intro k k' ver ver' cs cs' g h; cases h
  ow:=by intro k ver n h; cases h
  owinj:=by intro k k' ver ver' n n' g cap size cap' size' h; cases h
  fresh:=fun k ver _=>⟨rfl,rfl⟩
  bxT:=by intro k ver cs g hb h; cases h
  owT:=by intro k ver n hb h; cases h
  mp:=by intro b l h; cases h
theorem arg_read (hT:TTok P X.T) (hL :∀t,L.contains t = true→okTy X.T L t = true) {t:TypeId} (ht:L.contains t = true) {v:Value} {d:DataW H} {ps:List MemPlace} {b:Nat} {r:Reach} {held:Bool} {sp:Nat→Bool}
    (hval:Value.okWide P W r b t v) (hd:DataW.Trod enc P W 0 sp held t v d ps) :∃a,R (G0 X W) a v∧ArgOk X.T t a:=by
  obtain ⟨f,hf⟩:=hd
  obtain ⟨vsA,h1,h2⟩:=read_good hT hL f t ht _ _ hf
  have hok:=hL t ht
  unfold okTy at hok
  split at hok
  case h_2=>cases hok
  rename_i i hi
  have hk:=(hT t i hi).kind
  have plain:(∀us,v≠.agg us)→(∀fs,i.kind≠.st fs)→vsA.length = 1→∃a,R (G0 X W) a v∧ArgOk X.T t a:=by
    intro hv hst hlen
    have hc:v.cells.toList = [v]:=by
      cases v with
      | agg us=>exact absurd rfl (hv us)
      | _=>rfl
    match vsA,hlen with
    | [a],_=>
      rw [hc] at h1
      refine ⟨a,.fz _ _ (h1.2 0 a v rfl rfl).1,?_⟩
      unfold ArgOk
      rw [hi]
      have key :∀kk:TK,(∀fs,kk≠.st fs)→(match kk with | .st _=>∃f vsA,a = .ag vsA∧vsA.length = i.size∧HasC X.T f t vsA | _=>∃f,HasC X.T f t [a]):=by
        intro kk hk
        cases kk with
        | st fs=>exact absurd rfl (hk fs)
        | int k=>exact ⟨f,h2⟩
        | bool=>exact ⟨f,h2⟩
        | str=>exact ⟨f,h2⟩
        | sl e=>exact ⟨f,h2⟩
        | arr n e=>exact ⟨f,h2⟩
        | other=>exact ⟨f,h2⟩
        | ptr e=>exact ⟨f,h2⟩
        | uptr=>exact ⟨f,h2⟩
        | mp=>exact ⟨f,h2⟩
      exact key i.kind hst
  have one :∀{vsA:List AV},Good W vsA v.cells.toList→(∀us,v≠.agg us)→vsA.length = 1:=by
    intro vsA h hv
    rw [h.1]
    cases v with
    | agg us=>exact absurd rfl (hv us)
    | _=>rfl
  generalize hkk:i.kind = kk at hk hok
  cases kk with
  | int k=>
    obtain ⟨n,rfl⟩:=okWide_int hk hval
    exact plain (by intro us h; cases h) (by rw [hkk]; intro fs h; cases h) (one h1 (by intro us h; cases h))
  | bool=>
    obtain ⟨n,rfl⟩:=okWide_bool hk hval
    exact plain (by intro us h; cases h) (by rw [hkk]; intro fs h; cases h) (one h1 (by intro us h; cases h))
  | str=>
    obtain ⟨n,rfl⟩:=okWide_string hk hval
    exact plain (by intro us h; cases h) (by rw [hkk]; intro fs h; cases h) (one h1 (by intro us h; cases h))
  | sl e=>
    obtain ⟨a,l,c,rfl⟩:=okWide_slice hk hval
    exact plain (by intro us h; cases h) (by rw [hkk]; intro fs h; cases h) (one h1 (by intro us h; cases h))
  | st fs=>
    obtain ⟨fields,hu,_⟩:=hk
    obtain ⟨cs,rfl,hcs⟩:=okWide_struct hu hval
    refine ⟨.ag vsA,?_,?_⟩
    · have hsz:vsA.length = cs.toList.length:=h1.1
      have e:Value.agg cs = .agg cs.toList.toArray:=by simp
      rw [e]
      exact .ag vsA cs.toList hsz fun j a u ha hu=>.fz _ _ (h1.2 j a u ha hu).1
    · unfold ArgOk
      rw [hi]
      simp only [hkk]
      refine ⟨f,vsA,rfl,?_,h2⟩
      rw [h1.1]
      simp only [Value.cells]
      rw [← cellsOf_T hT hi,← hcs]
      simp
  | arr n e=>simp at hok
  | other=>simp at hok
  | ptr e=>simp at hok
  | mp=>cases hok
  | uptr=>simp at hok
theorem args_read (hT:TTok P X.T) (hL :∀t,L.contains t = true→okTy X.T L t = true) {b:Nat} {r:Reach} {held:Bool} {sp:Nat→Bool} :∀{ts:List TypeId} {vs:List Value} {ds:List (DataW H)} {ps:List MemPlace},(ts.all fun t=>L.contains t) = true→
    (∀(j:Nat) t v,ts[j]? = some t→vs[j]? = some v→Value.okWide P W r b t v)→DataW.TrodAll enc P W 0 sp held ts vs ds ps→∃vsA,Rs (G0 X W) vsA vs∧ArgsOk X.T ts vsA
  | [],vs,ds,ps,_,_,h=>by
    obtain ⟨rfl,rfl,rfl⟩:=trodAll_nil h
    exact ⟨[],⟨rfl,by simp⟩,trivial⟩
  | t :: ts,vs,ds,ps,ht,hv,h=>by
    obtain ⟨v,vs1,d,ds1,p,q,rfl,rfl,rfl,h1,h2⟩:=trodAll_cons h
    simp only [List.all_cons,Bool.and_eq_true] at ht
    obtain ⟨a,h3,h4⟩:=arg_read hT hL ht.1 (hv 0 t v rfl rfl) h1
    obtain ⟨vsA,h5,h6⟩:=args_read hT hL ht.2 (fun j t v h1 h2=>hv (j + 1) t v (by simpa using h1) (by simpa using h2)) h2
    refine ⟨a :: vsA,⟨by simp [h5.1],fun j x u hx hu=>?_⟩,h4,h6⟩
    cases j with
    | zero=>simp at hx hu; subst hx; subst hu; exact h3
    | succ j=>exact h5.2 j x u (by simpa using hx) (by simpa using hu)
theorem args_below (hl:laidOutB P = true) {W':World} (hb:Below W.heap.size W W') :∀{ts:List TypeId} {vs:List Value} {ds:List (DataW H)} {ps:List MemPlace},(ts.all fun t=>P.readableRec t && decide (t < P.types.size)) = true→
    DataW.TrodAll enc P W 0 (fun _=>true) true ts vs ds ps→(∀x ∈ ps,x.block < W.heap.size)→DataW.TrodAll enc P W' 0 (fun b=>decide (b < W.heap.size)) true ts vs ds ps
  | [],vs,ds,ps,_,h,_=>by
    obtain ⟨rfl,rfl,rfl⟩:=trodAll_nil h
    exact trodAll_mk0
  | t :: ts,vs,ds,ps,ht,h,hps=>by
    obtain ⟨v,vs1,d,ds1,p,q,rfl,rfl,rfl,h1,h2⟩:=trodAll_cons h
    simp only [List.all_cons,Bool.and_eq_true,decide_eq_true_eq] at ht
    exact trodAll_cons_mk (Below.trod hl ht.1.1 ht.1.2 h1 hb fun x hx=>hps x (List.mem_append_left _ hx)) (args_below hl hb ht.2 h2 fun x hx=>hps x (List.mem_append_right _ hx))
theorem args_lt :∀{ts:List TypeId} {vs:List Value} {ds:List (DataW H)} {ps:List MemPlace} {sp:Nat→Bool} {held:Bool},DataW.TrodAll enc P W 0 sp held ts vs ds ps→∀x ∈ ps,x.block < W.heap.size
  | [],vs,ds,ps,_,_,h=>by
    obtain ⟨rfl,rfl,rfl⟩:=trodAll_nil h
    simp
  | t :: ts,vs,ds,ps,_,_,h=>by
    obtain ⟨v,vs1,d,ds1,p,q,rfl,rfl,rfl,h1,h2⟩:=trodAll_cons h
    intro x hx
    rcases List.mem_append.1 hx with hx | hx
    · obtain ⟨m,hm⟩:=h1
      exact DataW.trod_lt m _ _ _ hm x hx
    · exact args_lt h2 x hx
structure LawAt (P:Program) (X:Cx) (prog:Prog) (L:List Nat):Prop where
  T:TTok P X.T
  mixed:P.follows .mixedOrders = true
  fns:ProgOk P X prog.fn
  orac:OracOk P X prog
  oracS:OracSOk P X prog
  types :∀t,L.contains t = true→okTy X.T L t = true
theorem law_calls {prog:Prog} (h:LawAt P X prog L) {f c:Nat} (hfm:X.fm f = some c) {args:Array Value} (hen:(callFunc f args).run P W = .ok (.enter f args) W) {avs:List AV} (hR:Rs (G0 X W) avs args.toList) (hlaw:Pus prog c avs (.b true)) (hgl:GlobOk X.fm W:=by exact GlobOk.none (by kernel_rfl)) :
    Calls P f args W fun e W'=>e = .returned (.bool true)∧Below W.heap.size W W':=by
  obtain ⟨r,⟨st',n,hr⟩,hs⟩:=hlaw
  have hrb:r = .b true:=by
    cases r with
    | b x=>simpa [AV.strip] using hs
    | bf f cs=>simp [AV.strip] at hs
    | sl o rows=>simp [AV.strip] at hs
    | ag cs=>simp only [AV.strip] at hs; split at hs <;> cases hs
    | tup cs=>simp only [AV.strip] at hs; split at hs <;> cases hs
    | p k v o=>simp [AV.strip] at hs
    | fn f cap=>simp [AV.strip] at hs
    | i k n=>simp [AV.strip] at hs
    | s l=>simp [AV.strip] at hs
    | fp cs=>simp [AV.strip] at hs
    | np=>simp [AV.strip] at hs
    | nf=>simp [AV.strip] at hs
    | ni=>simp [AV.strip] at hs
    | u=>simp [AV.strip] at hs
    | mp=>simp [AV.strip] at hs
    | yl=>simp [AV.strip] at hs
  subst hrb
  have hg:=calls_ok h.T h.mixed h.fns h.orac h.oracS n 0 c avs st0 _ st' hr f hfm (G0 X W) W W args.toList rfl (G0_rel hgl) hR
  have ea:args.toList.toArray = args:=by simp
  rw [ea] at hg
  rcases hg with ⟨_,h2⟩ | ⟨v,w',h2,_⟩
  · refine h2.mono fun e w' he=>?_
    cases e with
    | returned v=>
      obtain ⟨G',h3,h4⟩:=he
      exact ⟨by rw [h3.bool_inv],h4.rel.bel.bel⟩
    | panicked c=>exact he.elim
    | outgrown=>exact he.elim
  · rw [hen] at h2
    cases h2
theorem FnOk.of {f:Nat} {F:AF} {fn:Func} (h1:P.funcs[f]? = some fn) (h2:(fn.name == "runtime.NumGoroutine") = false) (h3:fn.body.bind (cCode { X with fz:=F.fz } F.nt) = some F.body) (h4:fn.ntmps = F.nt) (h5:cRess X fn.results.toList = some F.res) (h6:Nat.ble F.res.length 4 = true):FnOk P X f F:=by
  rw [Option.bind_eq_some_iff] at h3
  obtain ⟨code,h7,h8⟩:=h3
  exact ⟨fn,code,h1,h2,h7,h4,GoodF.of h8,h5,Nat.le_of_ble_eq_true h6⟩
theorem FnOk.enters {f:Nat} {F:AF} (h:FnOk P X f F) (args:Array Value) (w:World):(callFunc f args).run P w = .ok (.enter f args) w:=by
  obtain ⟨fn,code,h1,h2,h3,_⟩:=h.ok
  exact callFunc_enter h1 h2 h3 args
def tabOf (l:List (Nat × TI)):TTab:=fun t=>(l.find? fun x=>x.1 == t).map (·.2)
theorem tab_ok {l:List (Nat × TI)} (h :∀x ∈ l,TOk P x.1 x.2):TTok P (tabOf l):=by
  intro t i hi
  unfold tabOf at hi
  rw [Option.map_eq_some_iff] at hi
  obtain ⟨x,h1,rfl⟩:=hi
  have h2:=List.find?_some h1
  have h3:=List.mem_of_find?_eq_some h1
  have:x.1 = t:=by simpa using h2
  rw [← this]
  exact h x h3
def fnOf (l:List (Nat × AF)):Nat→Option AF:=fun c=>(l.find? fun x=>x.1 == c).map (·.2)
def fmOf (l:List (Nat × Nat)):FM:=fun f=>(l.find? fun x=>x.1 == f).map (·.2)
theorem prog_ok {fm:List (Nat × Nat)} {fs:List (Nat × AF)} (h :∀x ∈ fm,∀F,fnOf fs x.2 = some F→FnOk P X x.1 F) (hX:X.fm = fmOf fm):ProgOk P X (fnOf fs):=by
  intro f c F hf hc
  rw [hX] at hf
  unfold fmOf at hf
  rw [Option.map_eq_some_iff] at hf
  obtain ⟨x,h1,rfl⟩:=hf
  have h2:=List.find?_some h1
  have h3:=List.mem_of_find?_eq_some h1
  have:x.1 = f:=by simpa using h2
  rw [← this]
  exact h x h3 F hc
theorem orac_index {G:Gh} {w0 w:World} {st:St} {f:FuncId} {fn:Func} {d:Nat} (h1:P.funcs[f]? = some fn) (h2:(fn.name == "runtime.NumGoroutine") = false) (h3:fn.body.isNone = true) (h4:Extern.findNext fn = none) (h5:Extern.find fn = some Extern.BytealgIndexByte.indexByte)
    {s:List UInt8} {c:UInt8} {vals:List Value} (hR:Rel G w0 st w) (hV:Rs G [.s s,.i .u8 (c.toNat:Int)] vals):Goes P f vals.toArray w fun v w'=>∃G',R G' (.i .i64 (Lib.indexByte s c)) v∧Run G G' w0 st st w' d:=by
  have hlen:=hV.1
  match vals,hlen with
  | [v1,v2],_=>
    have e1:=(hV.2 0 _ v1 rfl rfl).str_inv
    have e2:=(hV.2 1 _ v2 rfl rfl).int_inv
    subst e1; subst e2
    refine .inr ⟨.int .i64 (Lib.indexByte s c),w,?_,G,.fz _ _ (.i _ _),.refl hR⟩
    rw [run_callFunc_extern h1 h2 h3 h4 h5]
    have:=Lib.run_indexByteString (P:=P) ⟨s.toArray⟩ (c.toNat:Int) w
    rw [this]
    simp [Result.andThen]
end
end Go.AM
namespace Go.AM
open Go
theorem TOk.of {P:Program} {t:TypeId} {i:TI} {ti:TypeInfo} (h1:P.info? t = some ti) (h2:(Nat.beq ti.size i.size && Nat.beq ti.bytes i.bytes) = true) (h3:(ti.zero.bind fun z=>if z.cells.size = i.size then cVals z.cells.toList else none) = some i.zero) (h4:i.kind.ok P t):TOk P t i:=by
  simp only [Bool.and_eq_true] at h2
  rw [Option.bind_eq_some_iff] at h3
  obtain ⟨z,h5,h6⟩:=h3
  split at h6
  · rename_i h7
    exact ⟨⟨ti,z,h1,Nat.eq_of_beq_eq_true h2.1,Nat.eq_of_beq_eq_true h2.2,h5,h6,h7⟩,h4⟩
  · cases h6
theorem TK.ok_st {P:Program} {t:TypeId} {fs:List (Nat × Nat)} (h:((P.underlying t).bind fun d=>match d with | .struct f=>if (!P.stoodInHeld t && !P.eqGuardType P.depth t && f.toList.all (fun f=>!(f.name == "_"))) = true then some (f.toList.map fun f=>(f.type,f.offset)) else none | _=>none) = some fs):TK.ok P t (.st fs):=by
  rw [Option.bind_eq_some_iff] at h
  obtain ⟨d,h1,h2⟩:=h
  cases d with
  | struct f=>
    simp only at h2
    split at h2
    case isFalse=>cases h2
    rename_i h3
    simp only [Bool.and_eq_true,Bool.not_eq_true',List.all_eq_true] at h3
    simp only [Option.some.injEq] at h2
    exact ⟨f,h1,h2,h3.1.1,h3.1.2,h3.2⟩
  | _=>cases h2
end Go.AM

namespace Go.AM
open Go Go.RowKit Go.ChangeShapes
section
variable {T:TTab} {t:TypeId} {a:AV} {i:TI}
theorem ArgOk.plain (hi:T t = some i) (hk :∀fs,i.kind≠.st fs) (h:ArgOk T t a) :∃f,HasC T f t [a]:=by
  unfold ArgOk at h
  rw [hi] at h
  obtain ⟨kk,s1,s2,s3⟩:=i
  simp only at hk
  cases kk with
  | st fs=>exact absurd rfl (hk fs)
  | int k=>simpa only using h
  | bool=>simpa only using h
  | str=>simpa only using h
  | sl e=>simpa only using h
  | arr n e=>simpa only using h
  | other=>simpa only using h
  | ptr e=>simpa only using h
  | uptr=>simpa only using h
  | mp=>simpa only using h
theorem HasC.int {f:Nat} {vsA:List AV} {k:IntKind} (hi:T t = some i) (hk:i.kind = .int k) (h:HasC T f t vsA) :∃n,vsA = [.i k n]∧k.min≤n∧n≤k.max:=by
  cases f with
  | zero=>exact h.elim
  | succ f=>
    unfold HasC at h
    rw [hi] at h
    simp only [hk] at h
    exact h
theorem HasC.bool {f:Nat} {vsA:List AV} (hi:T t = some i) (hk:i.kind = .bool) (h:HasC T f t vsA) :∃b,vsA = [.b b]:=by
  cases f with
  | zero=>exact h.elim
  | succ f=>
    unfold HasC at h
    rw [hi] at h
    simp only [hk] at h
    exact h
theorem HasC.str {f:Nat} {vsA:List AV} (hi:T t = some i) (hk:i.kind = .str) (h:HasC T f t vsA) :∃s,vsA = [.s s]∧s.length≤maxLen:=by
  cases f with
  | zero=>exact h.elim
  | succ f=>
    unfold HasC at h
    rw [hi] at h
    simp only [hk] at h
    exact h
theorem HasC.sl {f e:Nat} {vsA:List AV} (hi:T t = some i) (hk:i.kind = .sl e) (h:HasC T f t vsA) :∃g rows,f = g + 1∧vsA = [.sl .ext rows]∧rows.length≤maxLen∧(∀r ∈ rows,HasC T g e r)∧∀j,T e = some j→∀r ∈ rows,r.length = j.size:=by
  cases f with
  | zero=>exact h.elim
  | succ f=>
    unfold HasC at h
    rw [hi] at h
    simp only [hk] at h
    obtain ⟨rows,h1,h2,h3⟩:=h
    exact ⟨f,rows,rfl,h1,h2,h3⟩
theorem HasC.st {f:Nat} {vsA:List AV} {fs:List (Nat × Nat)} (hi:T t = some i) (hk:i.kind = .st fs) (h:HasC T f t vsA) :∃g,f = g + 1∧∀x ∈ fs,∃j,T x.1 = some j∧HasC T g x.1 ((vsA.drop x.2).take j.size):=by
  cases f with
  | zero=>exact h.elim
  | succ f=>
    unfold HasC at h
    rw [hi] at h
    simp only [hk] at h
    exact ⟨f,rfl,h⟩
theorem ArgOk.int {k:IntKind} (hi:T t = some i) (hk:i.kind = .int k) (h:ArgOk T t a) :∃n,a = .i k n∧k.min≤n∧n≤k.max:=by
  obtain ⟨f,h⟩:=h.plain hi (by rw [hk]; intro fs h; cases h)
  obtain ⟨n,h1,h2⟩:=h.int hi hk
  injection h1 with h1
  exact ⟨n,h1,h2⟩
theorem ArgOk.bool (hi:T t = some i) (hk:i.kind = .bool) (h:ArgOk T t a) :∃b,a = .b b:=by
  obtain ⟨f,h⟩:=h.plain hi (by rw [hk]; intro fs h; cases h)
  obtain ⟨n,h1⟩:=h.bool hi hk
  injection h1 with h1
  exact ⟨n,h1⟩
theorem ArgOk.str (hi:T t = some i) (hk:i.kind = .str) (h:ArgOk T t a) :∃s,a = .s s∧s.length≤maxLen:=by
  obtain ⟨f,h⟩:=h.plain hi (by rw [hk]; intro fs h; cases h)
  obtain ⟨n,h1,h2⟩:=h.str hi hk
  injection h1 with h1
  exact ⟨n,h1,h2⟩
end
theorem i64_bd {n:Int} (h:IntKind.i64.min≤n∧n≤IntKind.i64.max):-9223372036854775808≤n∧n < 9223372036854775808:=by
  have h1:IntKind.i64.min = -9223372036854775808:=rfl
  have h2:IntKind.i64.max = 9223372036854775807:=rfl
  omega
theorem u8_bd {n:Int} (h:IntKind.u8.min≤n∧n≤IntKind.u8.max):0≤n∧n < 256:=by
  have h1:IntKind.u8.min = 0:=rfl
  have h2:IntKind.u8.max = 255:=rfl
  omega
def FnsOk (P:Program) (X:Cx) (fs:List (Nat × AF)):List (Nat × Nat)→Prop
  | []=>True
  | x :: r=>(∀F,fnOf fs x.2 = some F→FnOk P X x.1 F)∧FnsOk P X fs r
theorem FnsOk.all {P:Program} {X:Cx} {fs:List (Nat × AF)} :∀{l:List (Nat × Nat)},FnsOk P X fs l→∀x ∈ l,∀F,fnOf fs x.2 = some F→FnOk P X x.1 F
  | [],_,_,hx=>by cases hx
  | y :: l,h,x,hx=>by
    rcases List.mem_cons.1 hx with rfl | hx
    · exact h.1
    · exact FnsOk.all h.2 x hx
theorem fm_inv {l:List (Nat × Nat)} {f c:Nat} (h:fmOf l f = some c):(f,c) ∈ l:=by
  unfold fmOf at h
  rw [Option.map_eq_some_iff] at h
  obtain ⟨x,h1,rfl⟩:=h
  have h2:=List.find?_some h1
  have h3:=List.mem_of_find?_eq_some h1
  have:x.1 = f:=by simpa using h2
  rw [← this]
  exact h3
def orc48 (k:Nat):Nat→List AV→Option AV:=fun c args=>
  if c = k then match args with
    | [.s s,.i .u8 n]=>if 0≤n∧n < 256 then some (.i .i64 (Lib.indexByte s n.toNat.toUInt8)) else none
    | _=>none
  else none
theorem orc48_at (k:Nat) (s:List UInt8) (c:UInt8):orc48 k k [.s s,.i .u8 (c.toNat:Int)] = some (.i .i64 (Lib.indexByte s c)):=by
  have:=c.toNat_lt
  unfold orc48
  rw [if_pos rfl]
  simp only
  rw [if_pos ⟨by omega,by omega⟩]
  simp
theorem orc48_ok {P:Program} {X:Cx} {fs:List (Nat × AF)} {k f0:Nat} {fn:Func} (hf :∀f,X.fm f = some k→f = f0) (h1:P.funcs[f0]? = some fn) (h2:(fn.name == "runtime.NumGoroutine") = false) (h3:fn.body.isNone = true) (h4:Extern.findNext fn = none) (h5:Extern.find fn = some Extern.BytealgIndexByte.indexByte):OracOk P X { fn:=fnOf fs,orac:=orc48 k }:=by
  intro f c hfc _ args r hr G w0 st w vals d _ hR hV
  simp only [orc48] at hr
  split at hr
  case isFalse=>cases hr
  rename_i hc
  subst hc
  have:=hf f hfc
  subst this
  split at hr
  case h_2=>cases hr
  rename_i s n
  split at hr
  case isFalse=>cases hr
  rename_i hn
  cases hr
  have e:n = ((n.toNat.toUInt8).toNat:Int):=by
    have:(n.toNat.toUInt8).toNat = n.toNat:=by simp; omega
    omega
  have hV':Rs G [.s s,.i .u8 ((n.toNat.toUInt8).toNat:Int)] vals:=by rw [← e]; exact hV
  exact orac_index h1 h2 h3 h4 h5 hR hV'
section
variable {H:Type} {enc:TypeId × Value→H} {P:Program} {W:World}
theorem trod_len {held:Bool} {sp:Nat→Bool} :∀{ts:List TypeId} {vs:List Value} {ds:List (DataW H)} {ps:List MemPlace},DataW.TrodAll enc P W 0 sp held ts vs ds ps→ds.length = ts.length
  | [],vs,ds,ps,h=>by
    obtain ⟨rfl,rfl,rfl⟩:=trodAll_nil h
    rfl
  | t :: ts,vs,ds,ps,h=>by
    obtain ⟨v,vs1,d,ds1,p,q,rfl,rfl,rfl,h1,h2⟩:=trodAll_cons h
    simp [trod_len h2]
theorem ds1 {α:Type} {ds:List α} (h:ds.length = 1) :∃a,ds = [a]:=List.length_eq_one_iff.1 h
theorem ds2 {α:Type} {ds:List α} (h:ds.length = 2) :∃a b,ds = [a,b]:=by match ds,h with | [a,b],_=>exact ⟨a,b,rfl⟩
end
theorem noneF {α:Type} {x:α} {p:Prop} (h:(none:Option α) = some x):p:=by cases h
end Go.AM

namespace Go.AM
open Go Go.RowKit Go.Proofs Go.Shelf
section
variable {P:Program} {ρ:Ren}
set_option maxHeartbeats 1000000 in
set_option maxRecDepth 100000 in
theorem string_run (L:Lays.n169 P ρ) (X:Builder.Extra P ρ) {b g cap:Nat} {p:Value} {cur:Array Value} {l:List UInt8} {w:World} (hbk:w.heap[b]? = some (.cells #[p,.slice (some ⟨g,0,none⟩) l.length cap] (ρ.t 72) (0,0)))
    (hg:w.heap[g]? = some (.cells cur (ρ.t 5) (0,0))) (h0:l≠[]) (hcs:l.length≤cur.size) (hcap:cap≠0) (h63:l.length≤9223372036854775807)
    (hcell :∀j x,l[j]? = some x→w.cell? ⟨g,j,none⟩ = some (.int .u8 x.toNat)) :
    Calls P (ρ.f 169) #[.pointer (some ⟨b,0,none⟩)] w fun e w'=>e = .returned (.string ⟨l.toArray⟩)∧w' = w.drew.freeze ⟨g,0,none⟩ l.length:=by
  have c1:w.drew.cell? ⟨b,1,none⟩ = some (.slice (some ⟨g,0,none⟩) l.length cap):=by
    have:w.drew.heap[b]? = some (.cells #[p,.slice (some ⟨g,0,none⟩) l.length cap] (ρ.t 72) (0,0)):=hbk
    rw [Lib.cell_of_heap this]; rfl
  have hSD:(Builtin.unsafeSliceData_ #[(ρ.t 37)] (ρ.t 127) #[.slice (some ⟨g,0,none⟩) l.length cap]).run P w.drew = .ok (.pointer (some ⟨g,0,none⟩)) w.drew:=
    Lib.run_unsafeSliceData_row _ _ _ _ _ _ hcap
  have hUS:(Builtin.unsafeString_ #[(ρ.t 127),(ρ.t 3)] (ρ.t 9) #[.pointer (some ⟨g,0,none⟩),.int .i64 l.length]).run P w.drew = .ok (.string ⟨l.toArray⟩) (w.drew.freeze ⟨g,0,none⟩ l.length):=by
    refine Lib.run_unsafeString_row w.drew (ρ.t 127) (ρ.t 3) (ρ.t 9) (ρ.t 5) L.t127 X.cellsByte g cur.size (by have hg':w.drew.heap[g]? = some (.cells cur (ρ.t 5) (0,0)):=hg; simp [World.shape?,hg']) l h0 hcs h63 ?_
    intro j x hx
    rw [Addr.add_lit,Nat.zero_add]
    exact hcell j x hx
  clear hcap hcell hg hbk
  have mixed:=L.mixed
  have t72:=L.t72; have a72:=L.a72; have z72:=L.z72; have v72:=L.v72; have u72:=run_underlying L.t72
  have t70:=L.t70; have a70:=L.a70; have z70:=L.z70; have v70:=L.v70; have u70:=run_underlying L.t70
  have t37:=L.t37; have a37:=L.a37; have z37:=L.z37; have v37:=L.v37; have u37:=run_underlying L.t37
  have t127:=L.t127; have a127:=L.a127; have z127:=L.z127; have v127:=L.v127; have u127:=run_underlying L.t127
  have t3:=L.t3; have a3:=L.a3; have z3:=L.z3; have v3:=L.v3; have u3:=run_underlying L.t3
  have t9:=L.t9; have a9:=L.a9; have z9:=L.z9; have v9:=L.v9; have u9:=run_underlying L.t9
  have t5:=X.t5; have a5:=X.a5; have z5:=X.z5; have v5:=X.v5; have u5:=run_underlying X.t5
  go_enter L.f169,Body.n169_ntmps ρ
  go_wp2
  go_region_o
  all_goals (go_wp2; go_ret; exact ⟨rfl,rfl⟩)
set_option maxHeartbeats 1000000 in
set_option maxRecDepth 100000 in
theorem string_run0 (L:Lays.n169 P ρ) (X:Builder.Extra P ρ) {b:Nat} {p:Value} {w:World} (hbk:w.heap[b]? = some (.cells #[p,.slice none 0 0] (ρ.t 72) (0,0))) :
    Calls P (ρ.f 169) #[.pointer (some ⟨b,0,none⟩)] w fun e w'=>e = .returned (.string .empty)∧w' = w.drew:=by
  have c1:w.drew.cell? ⟨b,1,none⟩ = some (.slice none 0 0):=by
    have:w.drew.heap[b]? = some (.cells #[p,.slice none 0 0] (ρ.t 72) (0,0)):=hbk
    rw [Lib.cell_of_heap this]; rfl
  have hSD:(Builtin.unsafeSliceData_ #[(ρ.t 37)] (ρ.t 127) #[.slice none 0 0]).run P w.drew = .ok (.pointer none) w.drew:=
    Lib.run_unsafeSliceData_nil _ _ _ _ _
  have hUS:(Builtin.unsafeString_ #[(ρ.t 127),(ρ.t 3)] (ρ.t 9) #[.pointer none,.int .i64 0]).run P w.drew = .ok (.string .empty) w.drew:=Lib.run_unsafeString_none _ _ _ _ _
  clear hbk
  have mixed:=L.mixed
  have t72:=L.t72; have a72:=L.a72; have z72:=L.z72; have v72:=L.v72; have u72:=run_underlying L.t72
  have t70:=L.t70; have a70:=L.a70; have z70:=L.z70; have v70:=L.v70; have u70:=run_underlying L.t70
  have t37:=L.t37; have a37:=L.a37; have z37:=L.z37; have v37:=L.v37; have u37:=run_underlying L.t37
  have t127:=L.t127; have a127:=L.a127; have z127:=L.z127; have v127:=L.v127; have u127:=run_underlying L.t127
  have t3:=L.t3; have a3:=L.a3; have z3:=L.z3; have v3:=L.v3; have u3:=run_underlying L.t3
  have t9:=L.t9; have a9:=L.a9; have z9:=L.z9; have v9:=L.v9; have u9:=run_underlying L.t9
  have t5:=X.t5; have a5:=X.a5; have z5:=X.z5; have v5:=X.v5; have u5:=run_underlying X.t5
  go_enter L.f169,Body.n169_ntmps ρ
  go_wp2
  go_region_o
  all_goals (go_wp2; go_ret; exact ⟨rfl,rfl⟩)
end
theorem cell_freeze (w:World) (a:Addr) (n:Nat) (p:Addr):(w.freeze a n).cell? p = w.cell? p:=by
  unfold World.freeze
  split
  · rfl
  · simp only [World.cell?,Array.getElem?_modify]
    by_cases h:a.block = p.block
    · rw [if_pos h]
      cases w.heap[p.block]? with
      | none=>rfl
      | some o=>cases o <;> rfl
    · rw [if_neg h]
theorem heap_freeze (w:World) (a:Addr) (n i:Nat) (h:i≠a.block):(w.freeze a n).heap[i]? = w.heap[i]?:=by
  unfold World.freeze
  split
  · rfl
  · simp only [Array.getElem?_modify]
    rw [if_neg (fun e=>h e.symm)]
theorem Rel.freezeOwn {G:Gh} {w0 w:World} {st:St} (hR:Rel G w0 st w) {k:Key} {ver n g cap size:Nat} (hk:lk st.ow k = some (ver,n)) (hω:G.ω k ver = some (g,cap,size)) (m:Nat):Rel G w0 { st with ow:=del st.ow k } (w.drew.freeze ⟨g,0,none⟩ m):=by
  obtain ⟨g1,cap1,size1,e1,hown,hbox⟩:=hR.ow k ver n hk
  rw [hω] at e1
  cases e1
  have hge:w0.heap.size≤g:=by obtain ⟨_,_,h,_⟩:=hown; exact h
  have hh :∀i,i≠g→(w.drew.freeze ⟨g,0,none⟩ m).heap[i]? = w.heap[i]?:=fun i hi=>heap_freeze w.drew ⟨g,0,none⟩ m i hi
  have hget :∀k' v,lk (del st.ow k) k' = some v→k'≠k∧lk st.ow k' = some v:=by
    intro k' v h
    rw [lk_del] at h
    split at h
    · cases h
    · rename_i hn; exact ⟨hn,h⟩
  have hne :∀k' v' n' g' c s,lk (del st.ow k) k' = some (v',n')→G.ω k' v' = some (g',c,s)→g'≠g:=by
    rintro k' v' n' g' c s h h2 rfl
    obtain ⟨hn,h⟩:=hget _ _ h
    exact hn (hR.owinj k' k v' ver n' n _ _ _ _ _ h hk h2 hω)
  refine ⟨hR.bel.trans (Lib.below_freeze (Below.drew (Below.refl _ w)) (p:=⟨g,0,none⟩) hge m),?_,?_,hR.inj,?_,?_,hR.fresh,?_,?_,fun b l hb=>(hR.mp b l hb).keep fun o h hc=>hh b (fun e=>by obtain ⟨_,_,_,h2,_⟩:=hown; rw [e,h2] at h; cases h; cases hc)⟩
  · intro g' o v h
    obtain ⟨h1,h2⟩:=hR.ext g' o v h
    exact ⟨by rw [cell_freeze]; exact h1,h2⟩
  · intro k' v' cs g' h hg'
    obtain ⟨us,e,a1,a2,a3,a4,a5⟩:=hR.bx k' v' cs g' h hg'
    exact ⟨us,e,a1,by rw [hh g' (by rintro rfl; exact hbox k' v' cs h hg')]; exact a2,a3,a4,a5⟩
  · intro k' v' n' h
    obtain ⟨hn,h0⟩:=hget _ _ h
    obtain ⟨g',c,s,b1,⟨cur,e,a1,a2,a3⟩,b3⟩:=hR.ow k' v' n' h0
    exact ⟨g',c,s,b1,⟨cur,e,a1,by rw [hh g' (hne _ _ _ _ _ _ h b1)]; exact a2,a3⟩,b3⟩
  · intro k1 k2 v1 v2 n1 n2 g' c s c' s' h1 h2
    exact hR.owinj k1 k2 v1 v2 n1 n2 g' c s c' s' (hget _ _ h1).2 (hget _ _ h2).2
  · intro k' v' cs g' hb h hg'
    obtain ⟨us,h1,h1n⟩:=hR.bxT k' v' cs g' hb h hg'
    exact ⟨us,by rw [hh g' (by rintro rfl; exact hbox k' v' cs h hg')]; exact h1,h1n⟩
  · intro k' v' n' hb h g' c s h2
    obtain ⟨us,h1⟩:=hR.owT k' v' n' hb (hget _ _ h).2 g' c s h2
    exact ⟨us,by rw [hh g' (hne _ _ _ _ _ _ h h2)]; exact h1⟩
theorem Rel.drewed {G:Gh} {w0 w:World} {st:St} (hR:Rel G w0 st w):Rel G w0 st w.drew:=
  ⟨hR.bel.trans (Below.drew (Below.refl _ w)),hR.ext,hR.bx,hR.inj,hR.ow,hR.owinj,hR.fresh,hR.bxT,hR.owT,hR.mp⟩
def bStr (args:List AV) (st:St):Option (AV × St):=
  match args with
  | [.p k v 0]=>match lk st.bx k with
    | some (v',[_,.sl .full []])=>if v' = v∧bigSite≤k.2 then some (.s [],st) else none
    | some (v',[_,.sl (.id k2 v2) rows])=>
      match bytesOf rows,lk st.ow k2 with
      | some l,some (v3,n)=>if v' = v∧bigSite≤k.2∧v3 = v2∧n = rows.length∧0 < n∧bigSite≤k2.2∧n≤maxBytes then some (.s l,{ st with ow:=del st.ow k2 }) else none
      | _,_=>none
    | _=>none
  | _=>none
theorem bStr_ok {P:Program} {ρ:Ren} {fm:FM} (L:Lays.n169 P ρ) (X:Builder.Extra P ρ) (hb:ρ.t 72 = btOf fm) (he:ρ.t 5 = etOf fm) (hc :∀args w,(callFunc (ρ.f 169) args).run P w = .ok (.enter (ρ.f 169) args) w) {args:List AV} {st st':St} {r:AV} (h:bStr args st = some (r,st'))
    {G:Gh} {w0 w:World} {vals:List Value} {d:Nat} (hfm:G.fm = fm) (hR:Rel G w0 st w) (hV:Rs G args vals):Goes P (ρ.f 169) vals.toArray w fun v w'=>∃G',R G' r v∧Run G G' w0 st st' w' d:=by
  subst hfm
  unfold bStr at h
  split at h
  case h_2=>cases h
  rename_i k v
  split at h
  case h_3=>cases h
  · rename_i v' c0 hlk
    split at h
    case isFalse=>cases h
    rename_i hcond
    obtain ⟨rfl,hbig⟩:=hcond
    cases h
    match vals,hV.1 with
    | [p],_=>
      obtain ⟨g,rfl,hρ⟩:=(hV.2 0 _ p rfl rfl).p_inv
      obtain ⟨us,e,hge,hheap,hr,h1,hnone⟩:=hR.bx k v' _ g hlk hρ
      obtain ⟨us',h3,h3n⟩:=hR.bxT k v' _ g hbig hlk hρ
      rw [hheap] at h3
      injection h3 with h3
      injection h3 with h4 h3
      subst h3
      subst h4
      match us,hr.1 with
      | [u0,u1],_=>
        have e1:u1 = .slice none 0 0:=by simpa using h3n rfl
        subst e1
        have hrun:=string_run0 L X (b:=g) (p:=u0) (w:=w) (by rw [hb]; exact hheap)
        refine .inl ⟨hc _ _,hrun.mono fun e w' ⟨h5,h6⟩=>?_⟩
        subst h5
        subst h6
        exact ⟨G,.fz _ _ (.s []),⟨.refl G,hR.drewed,Nat.le_refl _,fun _ _ _=>⟨rfl,rfl⟩,fun _ _ _ _ _ _ h=>h,fun _ _ _ h=>.inl h⟩⟩
  rename_i v' c0 k2 v2 rows hlk
  split at h
  case h_2=>cases h
  rename_i l v3 n hl how
  split at h
  case isFalse=>cases h
  rename_i hcond
  obtain ⟨rfl,hbig,rfl,rfl,hpos,hbig2,hmax⟩:=hcond
  cases h
  match vals,hV.1 with
  | [p],_=>
    obtain ⟨g,rfl,hρ⟩:=(hV.2 0 _ p rfl rfl).p_inv
    obtain ⟨us,e,hge,hheap,hr,h1,hnone⟩:=hR.bx k v' _ g hlk hρ
    obtain ⟨us',h3,_⟩:=hR.bxT k v' _ g hbig hlk hρ
    rw [hheap] at h3
    injection h3 with h3
    injection h3 with _ h3
    subst h3
    match us,hr.1 with
    | [u0,u1],_=>
      obtain ⟨A,cap,rfl,hF,hO⟩:=(hr.2 1 _ u1 rfl rfl).sl_inv
      obtain ⟨g2,size,hω,rfl,hrow⟩:=hO
      have hrows:=bytesOf_inv hl
      subst hrows
      have hl0:l≠[]:=by rintro rfl; simp at hpos
      obtain ⟨g3,cap3,size3,e1,⟨cur,e2,hge2,hheap2,hcur,hncap,hsz,_⟩,_⟩:=hR.ow k2 v3 _ how
      rw [hω] at e1
      cases e1
      obtain ⟨us2,h4⟩:=hR.owT k2 v3 _ hbig2 how g2 cap size hω
      rw [hheap2] at h4
      injection h4 with h4
      injection h4 with _ h4
      subst h4
      have hcell :∀j x,l[j]? = some x→w.cell? ⟨g2,j,none⟩ = some (.int .u8 x.toNat):=by
        intro j x hx
        cases hF with
        | sl _ A cap size' g' off us hA hcap hsz' hH hFz=>
        have hAe:=hA (by simpa using hl0)
        injection hAe with hAe
        injection hAe with e3 e4
        subst e3; subst e4
        have hsize:size' = 1:=by
          cases l with
          | nil=>exact absurd rfl hl0
          | cons c l=>rw [← hsz' 0 (row8 c) rfl]; rfl
        subst hsize
        have hrow':(l.map row8)[j]? = some (row8 x):=by simp only [List.getElem?_map,hx,Option.map_some]
        have q1:=hH j (row8 x) 0 _ hrow' rfl
        have q2:=hFz j (row8 x) 0 _ hrow' rfl
        have q3:=(hR.ext _ _ _ q1).1
        generalize us j 0 = v0 at q2 q3
        cases q2
        simpa using q3
      have hsize:size = 1:=by
        cases l with
        | nil=>exact absurd rfl hl0
        | cons c l=>rw [← (hrow 0 (row8 c) rfl).1]; rfl
      subst hsize
      simp only [List.length_map,maxBytes] at hncap hpos hheap how hmax ⊢
      have hrun:=string_run L X (b:=g) (g:=g2) (cap:=cap) (p:=u0) (cur:=cur) (l:=l) (w:=w) (by rw [hb]; exact hheap) (by rw [he]; exact hheap2) hl0 (by omega) (by omega) ?_ hcell
      · refine .inl ⟨hc _ _,hrun.mono fun e w' ⟨h5,h6⟩=>?_⟩
        subst h5
        subst h6
        exact ⟨G,.fz _ _ (.s _),⟨.refl G,hR.freezeOwn how hω _,Nat.le_refl _,fun _ _ _=>⟨rfl,rfl⟩,fun _ _ _ _ _ _ h=>h,fun _ _ _ h=>.inl h⟩⟩
      · omega
end Go.AM

namespace Go.AM
open Go Go.RowKit Go.Shelf Go.Proofs
theorem TK.ok_other {P:Program} {t:TypeId} (h:(match P.underlying t with | none=>false | some (.struct _)=>false | some (.array _ _)=>false | some _=>true) = true):TK.ok P t .other:=by
  show∃d,P.underlying t = some d∧(match d with | .struct _ | .array _ _=>False | _=>True)
  split at h
  · cases h
  · cases h
  · cases h
  · rename_i d h1 h2 h3
    refine ⟨d,h3,?_⟩
    split
    · exact absurd rfl (h1 _)
    · exact absurd rfl (h2 _ _)
    · trivial
def orcB:Nat→List AV→Option AV:=fun c args=>
  if c = 146 then (match args with | [x]=>some x | _=>none) else orc48 48 c args
def orsB:Nat→List AV→St→Option (AV × St):=fun c args st=>if c = 105 then bStr args st else none
theorem orcB_146 (k:Key) (v:Nat):orcB 146 [.p k v 0] = some (.p k v 0):=rfl
theorem orcB_48 (s:List UInt8) (c:UInt8):orcB 48 [.s s,.i .u8 (c.toNat:Int)] = some (.i .i64 (Lib.indexByte s c)):=by
  unfold orcB
  rw [if_neg (by decide)]
  exact orc48_at 48 s c
theorem orcB_105 (args:List AV):orcB 105 args = none:=by
  unfold orcB orc48
  rw [if_neg (by decide),if_neg (by decide)]
theorem orsB_105 (args:List AV) (st:St):orsB 105 args st = bStr args st:=rfl
section
variable {P:Program} {X:Cx}
theorem orcB_ok {fs:List (Nat × AF)} (h48:OracOk P X { fn:=fnOf fs,orac:=orc48 48 }) {f0:Nat} {fn:Func} (hf :∀f,X.fm f = some 146→f = f0) (h1:P.funcs[f0]? = some fn) (h2:(fn.name == "runtime.NumGoroutine") = false) (h3:fn.body.isNone = true) (h4:Extern.findNext fn = none) (h5:Extern.find fn = some Extern.AbiNoEscape.same):OracOk P X ⟨fnOf fs,orcB,orsB⟩:=by
  intro f c hfc hfn args r hr G w0 st w vals d hG hR hV
  simp only [orcB] at hr
  split at hr
  · rename_i hc
    subst hc
    have:=hf f hfc
    subst this
    split at hr
    case h_2=>cases hr
    rename_i x
    cases hr
    have hlen:=hV.1
    match vals,hlen with
    | [v1],_=>
      refine .inr ⟨v1,w,?_,G,hV.2 0 _ v1 rfl rfl,.refl hR⟩
      rw [run_callFunc_extern h1 h2 h3 h4 h5]
      have:=Lib.run_noEscape (P:=P) w v1
      rw [this]
      simp [Result.andThen]
  · exact h48 f c hfc hfn args r hr G w0 st w vals d hG hR hV
theorem orsB_ok {fs:List (Nat × AF)} {ρ:Ren} (L:Lays.n169 P ρ) (E:Builder.Extra P ρ) (hf :∀f,X.fm f = some 105→f = ρ.f 169) (hb:X.fm 1000000000000 = some (ρ.t 72 + 1000000000)) (he:X.fm 1000000000001 = some (ρ.t 5 + 1000000000)) {fn:Func} {code:Code} (h1:P.funcs[ρ.f 169]? = some fn) (h2:(fn.name == "runtime.NumGoroutine") = false) (h3:fn.body = some code):OracSOk P X ⟨fnOf fs,orcB,orsB⟩:=by
  intro f c hfc _ args st r st' hr G w0 w vals d hG hR hV
  simp only [orsB] at hr
  split at hr
  case isFalse=>cases hr
  rename_i hc
  subst hc
  have:=hf f hfc
  subst this
  have e1:btOf X.fm = ρ.t 72:=by unfold btOf; rw [hb]; simp
  have e2:etOf X.fm = ρ.t 5:=by unfold etOf; rw [he]; simp
  exact bStr_ok L E e1.symm e2.symm (fun args w=>callFunc_enter h1 h2 h3 args) hr hG hR hV
end
end Go.AM

namespace Go.AM
open Go
abbrev Bxs:=List (Key × Nat × List AV)
abbrev Ows:=List (Key × Nat × Nat)
def Fr (d:Nat) (k:Key) (bx:Bxs) (ow:Ows) (bx':Bxs) (ow':Ows):Prop:=
  (∀k':Key,k'.1 < d→k'≠k→lk bx' k' = lk bx k')∧(∀k':Key,k'.1 < d→k'.2 < midSite→lk ow' k' = lk ow k')
theorem lk_filter' {α:Type} (l:List (Key × α)) (p:Key→Bool) (k:Key):lk (l.filter fun x=>p x.1) k = if p k then lk l k else none:=by
  induction l with
  | nil=>simp [lk]
  | cons x r ih=>
    obtain ⟨k1,b⟩:=x
    simp only [List.filter_cons]
    by_cases h:k1 = k
    · subst h
      cases hp:p k1 with
      | true=>simp [lk]
      | false=>simp [ih,hp]
    · split
      · simp only [lk,if_neg h,ih]
      · simp only [ih,lk,if_neg h]
section
variable {d:Nat} {k:Key} {bx bx' bx2:Bxs} {ow ow' ow2:Ows}
theorem Fr.refl:Fr d k bx ow bx ow:=⟨fun _ _ _=>rfl,fun _ _ _=>rfl⟩
theorem lk_ne {α:Type} {l:List (Key × α)} {k k':Key} {a:α} (h:k≠k'):lk (st_ l k a) k' = lk l k':=by rw [lk_st',if_neg h]
theorem Fr.box {s:Nat} {a:Nat × List AV} (h:Fr d k bx ow bx' ow'):Fr d k bx ow (st_ bx' (d,s) a) ow':=
  ⟨fun k' h1 h2=>by rw [lk_ne (by rintro rfl; exact Nat.lt_irrefl _ h1)]; exact h.1 k' h1 h2,h.2⟩
theorem Fr.own {a:Nat × List AV} (h:Fr d k bx ow bx' ow'):Fr d k bx ow (st_ bx' k a) ow':=
  ⟨fun k' h1 h2=>by rw [lk_ne (fun e=>h2 e.symm)]; exact h.1 k' h1 h2,h.2⟩
theorem Fr.del {s:Nat} (h:Fr d k bx ow bx' ow'):Fr d k bx ow (Go.AM.del bx' (d,s)) ow':=
  ⟨fun k' h1 h2=>by rw [lk_del',if_neg (by rintro rfl; exact Nat.lt_irrefl _ h1)]; exact h.1 k' h1 h2,h.2⟩
theorem Fr.call {s:Nat} (h:Fr d k bx ow bx' ow') (c:Fr (d + 1) (d,s) bx' ow' bx2 ow2):Fr d k bx ow bx2 ow2:=
  ⟨fun k' h1 h2=>(c.1 k' (Nat.lt_succ_of_lt h1) (by rintro rfl; exact Nat.lt_irrefl _ h1)).trans (h.1 k' h1 h2),fun k' h1 h2=>(c.2 k' (Nat.lt_succ_of_lt h1) h2).trans (h.2 k' h1 h2)⟩
theorem Fr.pass (h:Fr d k bx ow bx' ow') (c:Fr (d + 1) k bx' ow' bx2 ow2):Fr d k bx ow bx2 ow2:=
  ⟨fun k' h1 h2=>(c.1 k' (Nat.lt_succ_of_lt h1) h2).trans (h.1 k' h1 h2),fun k' h1 h2=>(c.2 k' (Nat.lt_succ_of_lt h1) h2).trans (h.2 k' h1 h2)⟩
theorem Fr.trans (h:Fr d k bx ow bx' ow') (c:Fr d k bx' ow' bx2 ow2):Fr d k bx ow bx2 ow2:=
  ⟨fun k' h1 h2=>(c.1 k' h1 h2).trans (h.1 k' h1 h2),fun k' h1 h2=>(c.2 k' h1 h2).trans (h.2 k' h1 h2)⟩
theorem Fr.out (h:Fr d k bx ow bx' ow'):Fr d k bx ow (bx'.filter fun x=>x.1.1 < d) ow':=
  ⟨fun k' h1 h2=>by
    have:=lk_filter' bx' (fun k=>decide (k.1 < d)) k'
    rw [this,if_pos (by simpa using h1)]
    exact h.1 k' h1 h2,h.2⟩
def Mine (d:Nat):Own→Prop
  | .id k _=>k.1 = d∧k.2 < midSite
  | _=>True
def ApM (d:Nat) (ow:Ows) (o:Own) (n:Nat):Prop:=App ow o n∧Mine d o
theorem ApM.mk {o:Own} {n:Nat} (h:App ow o n) (m:Mine d o):ApM d ow o n:=⟨h,m⟩
theorem ApM.full {n:Nat}:ApM d ow .full n:=⟨trivial,trivial⟩
theorem Mine.app {o o':Own} {site:Nat} (h:Mine d o) (hs:Nat.blt site midSite = true) (he:ownKey o' = ownKey o∨ownKey o' = some (d,site)):Mine d o':=by
  have hs:site < midSite:=Nat.le_of_ble_eq_true hs
  cases o' with
  | ext=>trivial
  | full=>trivial
  | id k v=>
    rcases he with he | he
    · cases o with
      | ext=>cases he
      | full=>cases he
      | id k' v'=>injection he with he; subst he; exact h
    · injection he with he; subst he; exact ⟨rfl,hs⟩
theorem ApM.call {o:Own} {n:Nat} {q:Key} (h:ApM d ow o n) (c:Fr (d + 1) q bx ow bx2 ow2):ApM d ow2 o n:=by
  refine ⟨?_,h.2⟩
  cases o with
  | ext=>exact h.1
  | full=>trivial
  | id k' v'=>exact ⟨(c.2 k' (by rw [h.2.1]; exact Nat.lt_succ_self _) h.2.2).trans h.1.1,h.1.2⟩
theorem Fr.app {o:Own} {site:Nat} (h:Fr d k bx ow bx' ow') (hm:Mine d o) (hw :∀k',some k'≠ownKey o→k'≠(d,site)→lk ow2 k' = lk ow' k'):Fr d k bx ow bx' ow2:=by
  refine ⟨h.1,fun k' h1 h2=>(hw k' ?_ ?_).trans (h.2 k' h1 h2)⟩
  · intro e
    cases o with
    | ext=>cases e
    | full=>cases e
    | id q v=>injection e with e; subst e; exact absurd hm.1 (Nat.ne_of_lt h1)
  · rintro rfl; exact Nat.lt_irrefl _ h1
end
abbrev BC:=Bxs→Ows→Key→Nat→Prop
def Bx (cs:List AV):BC:=fun bx _ k v=>lk bx k = some (v,cs)
def AppB (ow:Ows) (o:Own) (n:Nat):Prop:=
  match o with
  | .ext=>False
  | .full=>n = 0
  | .id k v=>lk ow k = some (v,n)∧0 < n∧bigSite≤k.2
def Bl (b:List UInt8):BC:=fun bx ow k v=>∃c0 o,lk bx k = some (v,[c0,.sl o (b.map row8)])∧(c0 = .np∨c0 = .p k v 0)∧AppB ow o b.length∧bigSite≤k.2
section
variable {d s s':Nat} {k q:Key} {bx:Bxs} {ow ow':Ows} {v:Nat} {b:List UInt8}
theorem key_LL (h:Nat.beq s s' = false):((d,s):Key)≠(d,s'):=by
  intro e
  injection e with _ e
  rw [e,Nat.beq_refl] at h
  cases h
theorem key_PL (h:k.1 < d):k≠(d,s):=by rintro rfl; exact Nat.lt_irrefl _ h
theorem key_LP (h:k.1 < d):((d,s):Key)≠k:=fun e=>key_PL h e.symm
theorem lk_otherP {α:Type} {l:List (Key × α)} {a:α} {o:Option α} (h:k.1 < d) (hb:lk l k = o):lk (st_ l (d,s) a) k = o:=by rw [lk_ne (key_LP h)]; exact hb
theorem Bl.other {a:Nat × List AV} (hn:q≠k) (h:Bl b bx ow k v):Bl b (st_ bx q a) ow k v:=by
  obtain ⟨c0,o,h1,h2⟩:=h
  exact ⟨c0,o,by rw [lk_ne hn]; exact h1,h2⟩
theorem Bl.new (h:lk bx k = some (v,[.np,.sl .full []])) (hk:Nat.ble bigSite k.2 = true):Bl [] bx ow k v:=⟨.np,.full,h,.inl rfl,rfl,Nat.le_of_ble_eq_true hk⟩
theorem Bl.app {o:Own} {site:Nat} (h:Bl b bx ow k v) (hm:Mine d o) (hs:Nat.blt site midSite = true) (hw :∀k',some k'≠ownKey o→k'≠(d,site)→lk ow' k' = lk ow k'):Bl b bx ow' k v:=by
  obtain ⟨c0,o2,h1,h2,h3,h4⟩:=h
  have hs:site < midSite:=Nat.le_of_ble_eq_true hs
  refine ⟨c0,o2,h1,h2,?_,h4⟩
  cases o2 with
  | ext=>exact h3
  | full=>exact h3
  | id q w=>
    refine ⟨(hw q ?_ ?_).trans h3.1,h3.2⟩
    · intro e
      cases o with
      | ext=>cases e
      | full=>cases e
      | id q' w'=>injection e with e; subst e; exact absurd hm.2 (Nat.not_lt.2 (Nat.le_trans (by decide) h3.2.2))
    · rintro rfl; exact absurd hs (Nat.not_lt.2 (Nat.le_trans (by decide) h3.2.2))
end
def PuX (prog:Prog) (f:Nat) (B:BC) (args:List AV) (RR:AV→Prop) (B':BC):Prop:=
  ∀d (st:St) (k:Key) (v:Nat),k.1 < d→B st.bx st.ow k v→∃r st',Fn prog d f (.p k v 0 :: args) st r st'∧RR r∧B' st'.bx st'.ow k v∧Fr d k st.bx st.ow st'.bx st'.ow
def PuXK {β:Type} (prog:Prog) (f:Nat) (B:BC) (args:List AV) (KK:AV→β→Prop) (B':β→BC):Prop:=
  ∀d (st:St) (k:Key) (v:Nat),k.1 < d→B st.bx st.ow k v→∃r st' b,Fn prog d f (.p k v 0 :: args) st r st'∧KK r b∧B' b st'.bx st'.ow k v∧Fr d k st.bx st.ow st'.bx st'.ow
theorem PuXK.to {β:Type} {prog:Prog} {f:Nat} {B:BC} {args:List AV} {KK:AV→β→Prop} {B':β→BC} {RR:AV→Prop} {b:β} (h:PuXK prog f B args KK B') (hk :∀r b',KK r b'→RR r∧b' = b):PuX prog f B args RR (B' b):=by
  intro d st k v h1 h2
  obtain ⟨r,st',b',h3,h4,h5,h6⟩:=h d st k v h1 h2
  obtain ⟨h7,rfl⟩:=hk r b' h4
  exact ⟨r,st',h3,h7,h5,h6⟩
section
variable {prog:Prog} {d id base i:Nat} {σ:Sl} {st:St} {K:Sl→St→Prop} {r:List AI} {t:Option Nat} {x y:Opd}
theorem s_callX {f:Nat} {args:List Opd} {vs:List AV} {B B':BC} {F:AV} {k:Key} {v:Nat} (hs:evs σ args = .p k v 0 :: vs) (hp:PuX prog f B vs (fun r=>r = F) B') (hk:k.1 < d + 1) (hB:B st.bx st.ow k v)
    (h :∀st':St,B' st'.bx st'.ow k v→Fr (d + 1) k st.bx st.ow st'.bx st'.ow→WO prog d id base (i + 1) r (upO σ t F) st' K):WO prog d id base i (⟨t,.call true f args,none⟩ :: r) σ st K:=by
  refine s_one ?_
  obtain ⟨r',st',h1,rfl,h3,h4⟩:=hp (d + 1) st k v hk hB
  rw [WOp_callp,hs]
  exact ⟨_,_,h1,h st' h3 h4⟩
theorem s_callX1 {f:Nat} {args:List Opd} {vs:List AV} {B B':BC} {F:Own→AV} {k:Key} {v:Nat} (hs:evs σ args = .p k v 0 :: vs) (hp:PuX prog f B vs (fun r=>∃o,r = F o) B') (hk:k.1 < d + 1) (hB:B st.bx st.ow k v)
    (h :∀(o:Own) (st':St),B' st'.bx st'.ow k v→Fr (d + 1) k st.bx st.ow st'.bx st'.ow→WO prog d id base (i + 1) r (upO σ t (F o)) st' K):WO prog d id base i (⟨t,.call true f args,none⟩ :: r) σ st K:=by
  refine s_one ?_
  obtain ⟨r',st',h1,⟨o,rfl⟩,h3,h4⟩:=hp (d + 1) st k v hk hB
  rw [WOp_callp,hs]
  exact ⟨_,_,h1,h o st' h3 h4⟩
end
theorem ares_cell {σ:Sl} {st:St} {t n v:Nat} {agg:Bool} {k:Key} {cs:List AV} {r:AV} (h:σ t = .p k v 0) (hb:lk st.bx k = some (v,cs)) (hn:cs.length = n) (hr:ofCells agg cs = some r):ares1 σ st (.cell t n agg) = some r:=by
  subst hn
  simp only [ares1,h,aload,hb]
  rw [if_pos ⟨trivial,by omega⟩,List.drop_zero,List.take_length,hr]
theorem ares_cellA {σ:Sl} {st:St} {t n v:Nat} {k:Key} {cs:List AV} (h:σ t = .p k v 0) (hb:lk st.bx k = some (v,cs)) (hn:cs.length = n):ares1 σ st (.cell t n true) = some (.ag cs):=ares_cell h hb hn rfl
theorem ares_tmp {σ:Sl} {st:St} {t:Nat}:ares1 σ st (.tmp t) = some (σ t):=rfl
def gsW (prog:Prog) (d l:Nat) (b:AC) (Q:AE→Sl→St→Prop):AE→Sl→St→Prop
  | .normal,σ,st=>WG prog d l b σ st Q
  | _,_,_=>False
theorem W.gscope' {prog:Prog} {d:Nat} {σ:Sl} {st:St} {Q:AE→Sl→St→Prop} {l:Nat} {a b:AC} (h:W prog d a σ st (gsW prog d l b Q)):W prog d (.gscope l a b) σ st Q:=
  W.gscope (h.mono fun e σ st he=>by cases e <;> exact he)
end Go.AM

namespace Go.AM
open Go
abbrev oM (d s:Nat):AI:=⟨some d,.mv (.t s),none⟩
abbrev oC (d:Nat) (v:AV):AI:=⟨some d,.mv (.c v),none⟩
abbrev oL (d s:Nat):AI:=⟨some d,.load 1 false (.t s),none⟩
abbrev oF (d o s:Nat):AI:=⟨some d,.fad o (.t s),none⟩
abbrev oN (d s:Nat):AI:=⟨some d,.nilc (.t s),none⟩
abbrev oS (n a b:Nat):AI:=⟨none,.store n (.t a) (.t b),none⟩
abbrev oE (d k s:Nat):AI:=⟨some d,.ext k (.t s),none⟩
abbrev oB (d:Nat) (op:BinOp) (x y:Opd):AI:=⟨some d,.bin op x y,none⟩
abbrev oO (d:Nat) (op:AOp):AI:=⟨some d,op,none⟩
abbrev oG (d:Nat) (op:AOp) (g:Nat) (w:Bool):AI:=⟨some d,op,some (g,w)⟩
section
variable {prog:Prog} {d id base i:Nat} {σ:Sl} {st:St} {K:Sl→St→Prop} {r:List AI} {t:Option Nat} {x y:Opd} {Q:AE→Sl→St→Prop}
theorem m_ (h:WO prog d id base (i + 1) r (upO σ t (x.ev σ)) st K):WO prog d id base i (⟨t,.mv x,none⟩ :: r) σ st K:=s_mv rfl h
theorem q_ {ops:List AI} {b:AC} (hn:noAlloc ops = true) (h :∀{nx:Nat} {_:st.nx≤nx},WO prog d id st.nx 0 ops σ ⟨nx,st.bx,st.ow⟩ (fun σ st=>W prog d b σ st Q)):W prog d (.seq (.reg id ops) b) σ st Q:=W.seq (W.reg0 hn fun _ hx=>@h _ hx)
end
end Go.AM
namespace Go.AM
open Go
abbrev e_:=@s_nil
abbrev b_:=@s_bin
abbrev x_:=@s_ext
abbrev l_:=@s_loadP
abbrev f_:=@s_fadP
abbrev gn_:=@s_gn
abbrev gy_:=@s_gy
abbrev gt_:=@s_gt
abbrev pt_:=@s_pickTB
abbrev pf_:=@s_pickFB
abbrev cs_:=@c_split
abbrev cb_:=@c_bool
abbrev ct_:=@c_tt
abbrev cf_:=@c_ff
abbrev sk_:=@W.skip
abbrev rt_:=@W.ret
abbrev bk_:=@W.block
abbrev ex_:=@W.exit
abbrev sq_:=@W.seq
abbrev ca_:=@s_call
abbrev so_:=@s_storeP
abbrev ia_:=@s_iaL
abbrev lf_:=@s_loadF
abbrev ff_:=@s_fadF
abbrev eb_:=@s_emb
abbrev em_:=@s_em
abbrev nt_:=@s_not
abbrev np_:=@s_notp
abbrev ll_:=@s_lenL
abbrev ln_:=@s_lenS
abbrev cX_:=@s_callX
theorem lss_ {k:IntKind} {a b:Int}:abin .lss (.i k a) (.i k b) = some (.b (decide (a < b))):=abin_lss _ _ _
theorem leq_ {k:IntKind} {a b:Int}:abin .leq (.i k a) (.i k b) = some (.b (decide (a≤b))):=abin_leq _ _ _
theorem gtr_ {k:IntKind} {a b:Int}:abin .gtr (.i k a) (.i k b) = some (.b (decide (a > b))):=abin_gtr _ _ _
theorem geq_ {k:IntKind} {a b:Int}:abin .geq (.i k a) (.i k b) = some (.b (decide (a ≥ b))):=abin_geq _ _ _
theorem eql_ {k:IntKind} {a b:Int}:abin .eql (.i k a) (.i k b) = some (.b (decide (a = b))):=abin_eql _ _ _
theorem neq_ {k:IntKind} {a b:Int}:abin .neq (.i k a) (.i k b) = some (.b (decide (a≠b))):=abin_neq _ _ _
theorem add_ {k:IntKind} {a b:Int}:abin .add (.i k a) (.i k b) = some (.i k (k.wrap (a + b))):=abin_add _ _ _
theorem sub_ {k:IntKind} {a b:Int}:abin .sub (.i k a) (.i k b) = some (.i k (k.wrap (a - b))):=abin_sub _ _ _
theorem seq_ {a b:List UInt8}:abin .eql (.s a) (.s b) = some (.b (decide (a = b))):=abin_seq _ _
theorem sne_ {a b:List UInt8}:abin .neq (.s a) (.s b) = some (.b (decide (a≠b))):=abin_sne _ _
end Go.AM
namespace Go.AM
open Go
def PuN (prog:Prog) (f:Nat) (args:List AV) (RR:AV→Prop):Prop:=
  ∀d (st:St),∃r st',Fn prog d f args st r st'∧RR r∧Fr d (d,0) st.bx st.ow st'.bx st'.ow
theorem PuN.to {prog:Prog} {f:Nat} {args:List AV} {R1 R2:AV→Prop} (h:PuN prog f args R1) (hk :∀r,R1 r→R2 r):PuN prog f args R2:=by
  intro d st
  obtain ⟨r,st',h1,h2,h3⟩:=h d st
  exact ⟨r,st',h1,hk r h2,h3⟩
theorem PuN.of {prog:Prog} {f:Nat} {F:AF} {args:List AV} {RR:AV→Prop} (hf:prog.fn f = some F) (hn:Nat.ble args.length F.nt = true)
    (h :∀(d:Nat) (st:St),W prog d F.body (sl0 args) st fun e σ st'=>(e = .normal∨e = .ret)∧∃r,ares σ st' F.res = some r∧RR r∧Fr d (d,0) st.bx st.ow st'.bx st'.ow):PuN prog f args RR:=by
  intro d st
  obtain ⟨r,st',h1,h2⟩:=Fn.of' (prog:=prog) (K:=fun r st'=>RR r∧Fr d (d,0) st.bx st.ow st'.bx st'.ow) hf (Nat.le_of_ble_eq_true hn) ((h d st).mono fun e σ st' hq=>by
    obtain ⟨he,r,h1,h2,h3⟩:=hq
    rcases he with rfl | rfl
    · exact ⟨r,h1,h2,h3.out⟩
    · exact ⟨r,h1,h2,h3.out⟩)
  exact ⟨r,st',h1,h2⟩
section
variable {prog:Prog} {d id base i:Nat} {σ:Sl} {st:St} {K:Sl→St→Prop} {r:List AI} {t:Option Nat} {x y:Opd}
theorem s_mkfn {f:Nat} {args:List Opd} {vs:List AV} (hs:evs σ args = vs) (h:WO prog d id base (i + 1) r (upO σ t (.fn f vs)) st K):WO prog d id base i (⟨t,.mkfn f args,none⟩ :: r) σ st K:=
  s_pure (fun K=>by
    have e:args.map (·.ev σ) = vs:=by rw [← hs]; exact evs_map.symm
    simp only [WOp,aexec,apure,e,Option.map_some,onO_some]) h
end
end Go.AM
namespace Go.AM
open Go
theorem strips_map {α:Type} (f:α→AV) (hf :∀a,(f a).strip = some (f a)) :∀l:List α,AV.strips (l.map f) = some (l.map f)
  | []=>rfl
  | a :: l=>by simp only [List.map_cons,AV.strips,hf a,strips_map f hf l]
theorem strip_ag {α:Type} (f:α→AV) (hf :∀a,(f a).strip = some (f a)) (l:List α):(AV.ag (l.map f)).strip = some (.ag (l.map f)):=by
  simp only [AV.strip,strips_map f hf l]
end Go.AM
namespace Go.AM
open Go
theorem setAt_eq :∀(new cs:List AV) (off:Nat),off + new.length≤cs.length→setAt cs off new = cs.take off ++ (new ++ cs.drop (off + new.length))
  | [],cs,off,h=>by simp [setAt]
  | v :: r,cs,off,h=>by
    simp only [List.length_cons] at h
    rw [setAt,setAt_eq r (cs.set off v) (off + 1) (by simp; omega)]
    have h1:(cs.set off v).take (off + 1) = cs.take off ++ [v]:=by
      rw [List.take_set,List.take_succ_eq_append_getElem (by omega),List.set_append_right _ _ (by simp; omega)]
      congr 1
      simp [List.length_take,Nat.min_eq_left (show off≤cs.length by omega)]
    have h2:(cs.set off v).drop (off + 1 + r.length) = cs.drop (off + (r.length + 1)):=by
      rw [List.drop_set_of_lt (by omega)]
      congr 1
      omega
    rw [h1,h2]
    simp
section
variable {prog:Prog} {d id base i:Nat} {σ:Sl} {st:St} {K:Sl→St→Prop} {r:List AI} {t:Option Nat} {x y:Opd}
theorem s_storeArr {α:Type} {f:α→AV} {l l':List α} {n v:Nat} {k:Key} (hf :∀a,(f a).one = true) (hx:x.ev σ = .p k v 0) (hb:lk st.bx k = some (v,l.map f)) (hl:l.length = n) (hy:y.ev σ = .ag (l'.map f)) (hl':l'.length = n)
    (h:WO prog d id base (i + 1) r (upO σ t (.tup [])) { st with bx:=st_ st.bx k (v,l'.map f) } K) (hok:okSt k (.ag (l'.map f)) = true:=by first | rfl | exact okSt_r rfl):WO prog d id base i (⟨t,.store n x y,none⟩ :: r) σ st K:=by
  have e:setAt (l.map f) 0 (l'.map f) = l'.map f:=by
    rw [setAt_eq _ _ _ (by simp; omega)]
    simp [hl,hl']
  refine s_storeP hx hb hy ?_ e h hok
  simp [AV.cells,hl,hl',hf]
end
end Go.AM

namespace Go.AM
open Go
def Out (B:BC):Prop:=∀(d:Nat) (bx:Bxs) (ow:Ows) (k:Key) (v:Nat),k.1 < d→B bx ow k v→B (bx.filter fun x=>x.1.1 < d) ow k v
theorem lk_out {bx:Bxs} {d:Nat} {k:Key} (hk:k.1 < d):lk (bx.filter fun x=>x.1.1 < d) k = lk bx k:=by
  have:=lk_filter' bx (fun k=>decide (k.1 < d)) k
  rw [this,if_pos (by simpa using hk)]
theorem Bx.out {cs:List AV}:Out (Bx cs):=fun d bx ow k v hk h=>by
  show lk _ k = _
  rw [lk_out hk]
  exact h
theorem Bl.out {b:List UInt8}:Out (Bl b):=fun d bx ow k v hk ⟨c0,o,h1,h2⟩=>⟨c0,o,by rw [lk_out hk]; exact h1,h2⟩
theorem PuX.of {prog:Prog} {f:Nat} {F:AF} {B B':BC} {args:List AV} {RR:AV→Prop} (hf:prog.fn f = some F) (hn:Nat.ble (args.length + 1) F.nt = true) (ho:Out B')
    (h :∀(d:Nat) (st:St) (k:Key) (v:Nat),k.1 < d→B st.bx st.ow k v→W prog d F.body (sl0 (.p k v 0 :: args)) st fun e σ st'=>(e = .normal∨e = .ret)∧∃r,ares σ st' F.res = some r∧RR r∧B' st'.bx st'.ow k v∧Fr d k st.bx st.ow st'.bx st'.ow):PuX prog f B args RR B':=by
  intro d st k v hk hB
  obtain ⟨r,st',h1,h2⟩:=Fn.of' (prog:=prog) (K:=fun r st'=>RR r∧B' st'.bx st'.ow k v∧Fr d k st.bx st.ow st'.bx st'.ow) hf (by simpa using Nat.le_of_ble_eq_true hn) ((h d st k v hk hB).mono fun e σ st' hq=>by
    obtain ⟨he,r,h1,h2,h3,h4⟩:=hq
    rcases he with rfl | rfl
    · exact ⟨r,h1,h2,ho d _ _ k v hk h3,h4.out⟩
    · exact ⟨r,h1,h2,ho d _ _ k v hk h3,h4.out⟩)
  exact ⟨r,st',h1,h2⟩
theorem PuXK.of {β:Type} {prog:Prog} {f:Nat} {F:AF} {B:BC} {B':β→BC} {args:List AV} {KK:AV→β→Prop} (hf:prog.fn f = some F) (hn:Nat.ble (args.length + 1) F.nt = true) (ho :∀b,Out (B' b))
    (h :∀(d:Nat) (st:St) (k:Key) (v:Nat),k.1 < d→B st.bx st.ow k v→W prog d F.body (sl0 (.p k v 0 :: args)) st fun e σ st'=>(e = .normal∨e = .ret)∧∃r b,ares σ st' F.res = some r∧KK r b∧B' b st'.bx st'.ow k v∧Fr d k st.bx st.ow st'.bx st'.ow):PuXK prog f B args KK B':=by
  intro d st k v hk hB
  obtain ⟨r,st',h1,b,h2,h3,h4⟩:=Fn.of' (prog:=prog) (K:=fun r st'=>∃b,KK r b∧B' b st'.bx st'.ow k v∧Fr d k st.bx st.ow st'.bx st'.ow) hf (by simpa using Nat.le_of_ble_eq_true hn) ((h d st k v hk hB).mono fun e σ st' hq=>by
    obtain ⟨he,r,b,h1,h2,h3,h4⟩:=hq
    rcases he with rfl | rfl
    · exact ⟨r,h1,b,h2,ho b d _ _ k v hk h3,h4.out⟩
    · exact ⟨r,h1,b,h2,ho b d _ _ k v hk h3,h4.out⟩)
  exact ⟨r,st',b,h1,h2,h3,h4⟩
section
variable {prog:Prog} {d id base i:Nat} {σ:Sl} {st:St} {K:Sl→St→Prop} {r:List AI} {t:Option Nat} {x y:Opd}
theorem s_peq {neg:Bool} {a b v:AV} (hx:x.ev σ = a) (hy:y.ev σ = b) (hv:apeq neg a b = some v) (h:WO prog d id base (i + 1) r (upO σ t v) st K):WO prog d id base i (⟨t,.peq neg x y,none⟩ :: r) σ st K:=
  s_pure (fun K=>by simp only [WOp,aexec,apure,hx,hy,hv,Option.map_some,onO_some]) h
theorem s_cvp {n v:Nat} {k:Key} {cs:List AV} (hx:x.ev σ = .p k v 0) (hb:lk st.bx k = some (v,cs)) (hk:bigSite≤k.2) (hn:cs.length = n) (h:WO prog d id base (i + 1) r (upO σ t (.p k v 0)) st K):WO prog d id base i (⟨t,.cvp n x,none⟩ :: r) σ st K:=
  s_pure (fun K=>by
    simp only [WOp,aexec,acvp,hx,hb]
    rw [if_pos ⟨trivial,hk,hn⟩]
    simp only [Option.map_some,onO_some]) h
theorem s_callO {f:Nat} {args:List Opd} {vs:List AV} {v:AV} (hf:prog.fn f = none) (hs:evs σ args = vs) (ho:prog.orac f vs = some v) (h:WO prog d id base (i + 1) r (upO σ t v) st K):WO prog d id base i (⟨t,.call true f args,none⟩ :: r) σ st K:=by
  refine s_one ?_
  rw [WOp_callp,hs]
  exact ⟨_,_,⟨1,by simp only [acall,hf,ho]⟩,h⟩
end
theorem W.regB {prog:Prog} {d id t:Nat} {σ:Sl} {st:St} {Q:AE→Sl→St→Prop} (hid:Nat.ble 1000000 id = true)
    (h :∀(nx v:Nat) (bx':Bxs),Bl [] bx' st.ow (d,id * 4096 + 0) v→(∀k':Key,(d,id * 4096 + 0)≠k'→lk bx' k' = lk st.bx k')→Q .normal (upO σ (some t) (.p (d,id * 4096 + 0) v 0)) ⟨nx,bx',st.ow⟩):W prog d (.reg id [⟨some t,.alloc [.np,.sl .full []],none⟩]) σ st Q:=by
  refine W.reg (s_alloc (s_nil (h _ _ _ ?_ ?_)))
  · refine ⟨.np,.full,lk_here,.inl rfl,rfl,?_⟩
    have:=Nat.le_of_ble_eq_true hid
    show 4096000000≤id * 4096 + 0
    omega
  · intro k' hk
    exact lk_ne hk
theorem Fr.new {d s:Nat} {k:Key} {bx bx' bx2:Bxs} {ow ow':Ows} (hx :∀k':Key,(d,s)≠k'→lk bx2 k' = lk bx' k') (h:Fr d k bx ow bx' ow'):Fr d k bx ow bx2 ow':=
  ⟨fun k' h1 h2=>(hx k' (by rintro rfl; exact Nat.lt_irrefl _ h1)).trans (h.1 k' h1 h2),h.2⟩
def pf145:AF:={ nt:=20,res:=[],body:=
  (.seq (.reg 1000000 [⟨(some 2),.mv (.t 0),none⟩,
    ⟨(some 3),.nilc (.t 2),none⟩,
    ⟨(some 4),.fad 0 (.t 3),none⟩,
    ⟨(some 5),.load 1 false (.t 4),none⟩,
    ⟨(some 6),.peq false (.t 5) (.c (.np)),none⟩])
  (.cond (.t 6)
    (.reg 1000001 [⟨(some 7),.mv (.t 0),none⟩,
      ⟨(some 8),.mv (.t 0),none⟩,
      ⟨(some 9),.cvp 2 (.t 8),none⟩,
      ⟨(some 10),.call true 146 [(.t 9)],none⟩,
      ⟨(some 11),.cvp 2 (.t 10),none⟩,
      ⟨(some 12),.nilc (.t 7),none⟩,
      ⟨(some 13),.fad 0 (.t 12),none⟩,
      ⟨none,.store 1 (.t 13) (.t 11),none⟩])
    (.seq (.reg 1000002 [⟨(some 14),.mv (.t 0),none⟩,
      ⟨(some 15),.nilc (.t 14),none⟩,
      ⟨(some 16),.fad 0 (.t 15),none⟩,
      ⟨(some 17),.load 1 false (.t 16),none⟩,
      ⟨(some 18),.mv (.t 0),none⟩,
      ⟨(some 19),.peq true (.t 17) (.t 18),none⟩])
    (.cond (.t 19)
      (.cond (.c .u) .skip .skip)
      .skip)))) }
def pf126:AF:={ nt:=19,res:=[.tmp 4,.tmp 5],body:=
  (.seq (.reg 0 [⟨(some 4),.mv (.c (.i .i64 0)),none⟩,
    ⟨(some 5),.mv (.c (.ni)),none⟩])
  (.seq (.reg 1 [⟨(some 6),.mv (.t 0),none⟩,
    ⟨(some 7),.call true 145 [(.t 6)],none⟩])
  (.seq (.reg 1000002 [⟨(some 8),.mv (.t 0),none⟩,
    ⟨(some 9),.mv (.t 0),none⟩,
    ⟨(some 10),.nilc (.t 9),none⟩,
    ⟨(some 11),.fad 1 (.t 10),none⟩,
    ⟨(some 12),.load 1 false (.t 11),none⟩,
    ⟨(some 13),.mv (.t 1),none⟩,
    ⟨(some 14),.appS (.t 12) (.t 13),none⟩,
    ⟨(some 15),.nilc (.t 8),none⟩,
    ⟨(some 16),.fad 1 (.t 15),none⟩,
    ⟨none,.store 1 (.t 16) (.t 14),none⟩])
  (.seq (.reg 3 [⟨(some 17),.mv (.t 1),none⟩,
    ⟨(some 18),.len true (.t 17),none⟩,
    ⟨(some 4),.mv (.t 18),none⟩,
    ⟨(some 5),.mv (.c (.ni)),none⟩])
  .ret)))) }
theorem aapp_B {key:Key} {ver:Nat} {o:Own} {l m:List UInt8} {st:St} (ha:AppB st.ow o l.length) (hk:bigSite≤key.2) (hs:l.length + m.length≤maxBytes)
    {K:AV→St→Prop} (hK :∀o' ow',AppB ow' o' (l ++ m).length→(∀k':Key,k'.2 < bigSite→lk ow' k' = lk st.ow k')→K (.sl o' ((l ++ m).map row8)) ⟨st.nx,st.bx,ow'⟩):onO (aapp key ver 1 1 (.sl o (l.map row8)) (m.map row8) st) fun r=>K r.1 r.2:=by
  simp only [aapp]
  rw [if_pos ⟨by simpa using hs,by simpa using hs,Nat.one_pos,by simp [row8],by simp [row8]⟩]
  cases m with
  | nil=>
    rw [if_pos (show (List.map row8 []).isEmpty = true from rfl),onO_some]
    have:=hK o st.ow (by rw [List.append_nil]; exact ha) (fun _ _=>rfl)
    rwa [List.append_nil] at this
  | cons c m=>
    rw [if_neg (by simp)]
    have hpos:0 < (l ++ c :: m).length:=by simp; omega
    cases o with
    | ext=>exact ha.elim
    | full=>
      simp only [onO_some]
      rw [← List.map_append]
      refine hK (.id key ver) _ ⟨by rw [lk_st',if_pos rfl]; simp,hpos,hk⟩ (fun k' h=>?_)
      rw [lk_st',if_neg (by rintro rfl; exact absurd h (Nat.not_lt.2 hk))]
    | id k v=>
      obtain ⟨ha1,ha2,ha3⟩:=ha
      simp only [ha1]
      rw [if_pos ⟨trivial,by simp,by simpa using ha2,.inr ha3⟩]
      simp only [onO_some]
      rw [← List.map_append]
      refine hK (.id key ver) _ ⟨by rw [lk_st',if_pos rfl]; simp,hpos,hk⟩ (fun k' h=>?_)
      rw [lk_st',if_neg (by rintro rfl; exact absurd h (Nat.not_lt.2 hk)),lk_del',if_neg (by rintro rfl; exact absurd h (Nat.not_lt.2 ha3))]
theorem WOp_appB {prog:Prog} {d site ver:Nat} {σ:Sl} {st:St} {s x:Opd} {o:Own} {l m:List UInt8} (hs:s.ev σ = .sl o (l.map row8)) (hx:x.ev σ = .s m) (ha:AppB st.ow o l.length) (hb:bigSite≤site) (h2:l.length + m.length≤maxBytes)
    {K:AV→St→Prop} (hK :∀o' ow',AppB ow' o' (l ++ m).length→(∀k':Key,k'.2 < bigSite→lk ow' k' = lk st.ow k')→K (.sl o' ((l ++ m).map row8)) ⟨st.nx,st.bx,ow'⟩):WOp prog d site ver σ st K (.appS s x):=by
  rw [WOp_appS,hx,onS_s,hs]
  exact aapp_B ha hb h2 hK
theorem isF0_ne {o:Own} {l:List UInt8} (h:l≠[]):(AV.sl o (l.map row8)).isF0 = false:=by
  cases l with
  | nil=>exact absurd rfl h
  | cons c l=>cases o <;> rfl
structure HasB (prog:Prog):Prop where
  f145:prog.fn 145 = some pf145
  f126:prog.fn 126 = some pf126
  f146:prog.fn 146 = none
  f105:prog.fn 105 = none
  o146 :∀k v,prog.orac 146 [.p k v 0] = some (.p k v 0)
  o105 :∀args,prog.orac 105 args = none
  s105 :∀args st,prog.oracS 105 args st = bStr args st
def Bl1 (b:List UInt8):BC:=fun bx ow k v=>∃o,lk bx k = some (v,[.p k v 0,.sl o (b.map row8)])∧AppB ow o b.length∧bigSite≤k.2
theorem Bl1.out {b:List UInt8}:Out (Bl1 b):=fun d bx ow k v hk ⟨o,h1,h2⟩=>⟨o,by rw [lk_out hk]; exact h1,h2⟩
section
variable {prog:Prog} (H:HasB prog)
include H
theorem c145 (b:List UInt8):PuX prog 145 (Bl b) [] (fun r=>r = .tup []) (Bl1 b):=by
  refine PuX.of H.f145 rfl Bl1.out fun d st k v hk hB=>?_
  obtain ⟨c0,o,hb,hc0,hap,hbig⟩:=hB
  refine W.seq (W.reg0 rfl fun nx _=>?_)
  rcases hc0 with rfl | rfl
  · refine s_mv (v:=.p k v 0) rfl (s_nilP rfl (s_fadP rfl (s_loadP (w:=.np) rfl hb rfl rfl (s_peq (v:=.b true) rfl rfl rfl (s_nil (W.tt rfl (W.reg0 rfl fun nx2 _=>?_)))))))
    refine s_mv (v:=.p k v 0) rfl (s_mv (v:=.p k v 0) rfl (s_cvp rfl hb hbig rfl (s_callO H.f146 rfl (H.o146 k v) (s_cvp rfl hb hbig rfl (s_nilP rfl (s_fadP rfl (s_storeP rfl hb (w:=.p k v 0) rfl rfl rfl (s_nil ?_))))))))
    exact ⟨.inl rfl,_,rfl,rfl,⟨o,lk_here,hap,hbig⟩,Fr.refl.own⟩
  · refine s_mv (v:=.p k v 0) rfl (s_nilP rfl (s_fadP rfl (s_loadP (w:=.p k v 0) rfl hb rfl rfl (s_peq (v:=.b false) rfl rfl rfl (s_nil (W.ff rfl (W.seq (W.reg0 rfl fun nx2 _=>?_))))))))
    refine s_mv (v:=.p k v 0) rfl (s_nilP rfl (s_fadP rfl (s_loadP (w:=.p k v 0) rfl hb rfl rfl (s_mv (v:=.p k v 0) rfl (s_peq (a:=.p k v 0) (b:=.p k v 0) (v:=.b false) rfl rfl (by simp [apeq]) (s_nil (W.ff rfl (W.skip ?_))))))))
    exact ⟨.inl rfl,_,rfl,rfl,⟨o,hb,hap,hbig⟩,Fr.refl⟩
theorem c126 {b s:List UInt8} (hs:b.length + s.length≤maxBytes) (hne:s≠[]:=by first | exact List.cons_ne_nil _ _ | simp):PuX prog 126 (Bl b) [.s s] (fun r=>r = .tup [.i .i64 (s.length:Int),.ni]) (Bl (b ++ s)):=by
  refine PuX.of H.f126 rfl Bl.out fun d st k v hk hB=>?_
  refine W.seq (W.reg0 rfl fun nx _=>s_mv rfl (s_mv rfl (s_nil (W.seq (W.reg0 rfl fun nx2 _=>?_)))))
  refine s_mv (v:=.p k v 0) rfl (s_callX (F:=.tup []) (sec rfl sen) (c145 H b) (Nat.lt_succ_of_lt hk) hB fun st1 hB1 hF1=>s_nil (W.seq (W.reg0 rfl fun nx3 _=>?_)))
  obtain ⟨o,hb,hap,hbig⟩:=hB1
  refine s_mv (v:=.p k v 0) rfl (s_mv (v:=.p k v 0) rfl (s_nilP rfl (s_fadP rfl (s_loadP (w:=.sl o (b.map row8)) rfl hb rfl rfl (s_mv (v:=.s s) rfl (s_one ?_))))))
  refine WOp_appB (st:=⟨nx3,st1.bx,st1.ow⟩) (o:=o) (l:=b) (m:=s) ?_ ?_ hap ?_ hs fun o' ow' h1 h2=>?_
  · rfl
  · rfl
  · exact Nat.le_of_ble_eq_true rfl
  refine s_nilP rfl (s_fadP rfl (s_storeP rfl hb (w:=.sl o' ((b ++ s).map row8)) rfl rfl rfl (s_nil (W.seq (W.reg0 rfl fun nx4 _=>?_))) (okSt_r (by rw [show (AV.sl o' ((b ++ s).map row8)).cells = [AV.sl o' ((b ++ s).map row8)] from rfl,List.any_cons,isF0_ne (by simp [hne])]; rfl))))
  refine s_mv (v:=.s s) rfl (s_lenS rfl (s_mv rfl (s_mv rfl (s_nil (W.ret ?_)))))
  refine ⟨.inr rfl,_,rfl,rfl,⟨_,o',lk_here,.inr rfl,h1,hbig⟩,?_⟩
  refine (Fr.own ⟨fun k' q1 q2=>?_,fun k' q1 q2=>?_⟩)
  · exact hF1.1 k' (Nat.lt_succ_of_lt q1) q2
  · exact (h2 k' (Nat.lt_trans q2 (by decide))).trans (hF1.2 k' (Nat.lt_succ_of_lt q1) q2)
theorem c105 {b:List UInt8} (hs:b.length≤maxBytes):PuX prog 105 (Bl b) [] (fun r=>r = .s b) fun _ _ _ _=>True:=by
  intro d st k v hk ⟨c0,o,h1,h2,h3,h4⟩
  cases o with
  | ext=>exact h3.elim
  | full=>
    have hb:b = []:=List.length_eq_zero_iff.1 h3
    subst hb
    refine ⟨.s [],st,⟨1,?_⟩,rfl,trivial,fun _ _ _=>rfl,fun k' _ h8=>rfl⟩
    simp only [acall,H.f105,H.o105,H.s105,bStr,h1]
    exact if_pos ⟨rfl,h4⟩
  | id q w=>
    obtain ⟨h5,h6,h7⟩:=h3
    refine ⟨.s b,{ st with ow:=del st.ow q },⟨1,?_⟩,rfl,trivial,fun _ _ _=>rfl,fun k' _ h8=>?_⟩
    · simp only [acall,H.f105,H.o105,H.s105,bStr,h1,bytesOf_row8,h5]
      rw [if_pos ⟨trivial,h4,trivial,by simp,h6,h7,hs⟩]
    · show lk (del st.ow q) k' = _
      rw [lk_del',if_neg (by rintro rfl; exact absurd h8 (Nat.not_lt.2 (Nat.le_trans (by decide) h7)))]
end
end Go.AM

namespace Go.AM
open Go
inductive Val where
  | mk (kind int:Int) (text:List UInt8) (list:List Val) (cut:Bool)
def Val.kind:Val→Int | .mk k _ _ _ _=>k
def Val.int:Val→Int | .mk _ n _ _ _=>n
def Val.text:Val→List UInt8 | .mk _ _ s _ _=>s
def Val.list:Val→List Val | .mk _ _ _ l _=>l
def Val.cut:Val→Bool | .mk _ _ _ _ c=>c
def Val.zero:Val:=.mk 0 0 [] [] false
mutual
def Val.row:Val→List AV
  | .mk k n s l c=>[.i .u8 k,.i .i64 n,.s s,.sl .ext (Val.rows l),.b c]
def Val.rows:List Val→List (List AV)
  | []=>[]
  | v :: l=>Val.row v :: Val.rows l
end
theorem Val.rows_eq :∀l:List Val,Val.rows l = l.map Val.row
  | []=>rfl
  | v :: l=>by rw [Val.rows,Val.rows_eq l]; rfl
theorem Val.row_eq (v:Val):v.row = [.i .u8 v.kind,.i .i64 v.int,.s v.text,.sl .ext (v.list.map Val.row),.b v.cut]:=by
  cases v with
  | mk k n s l c=>rw [Val.row,Val.rows_eq]; rfl
theorem Val.row_len (v:Val):v.row.length = 5:=by rw [Val.row_eq]; rfl
abbrev Val.av (v:Val):AV:=.ag [.i .u8 v.kind,.i .i64 v.int,.s v.text,.sl .ext (List.map Val.row v.list),.b v.cut]
abbrev Val.avo (v:Val) (o:Own):AV:=.ag [.i .u8 v.kind,.i .i64 v.int,.s v.text,.sl o (List.map Val.row v.list),.b v.cut]
structure Sc where
  left:List UInt8
def Sc.row (x:Sc):List AV:=[.s x.left]
theorem Sc.row_eq (x:Sc):x.row = [.s x.left]:=rfl
theorem Sc.row_len (x:Sc):x.row.length = 1:=rfl
def Sc.zero:Sc:=⟨[]⟩
end Go.AM

namespace Go.AM
open Go
abbrev Bytes:=List UInt8
abbrev DIG:Bytes:=[48,49,50,51,52,53,54,55,56,57,97,98,99,100,101,102]
theorem maxStr_eq:maxStr = 1099511627776:=rfl
theorem maxBytes_eq:maxBytes = 70368744177664:=rfl
theorem loop_up {α:Type} {P:α→Int→Prop} (A:Nat→α) (n:Nat) (h1:P (A n) (n:Int)) (h2 :∀i:Nat,i < n→P (A (i + 1)) ((i + 1:Nat):Int)→P (A i) (i:Int)):P (A 0) 0:=by
  have key :∀m i:Nat,i + m = n→P (A i) (i:Int):=by
    intro m
    induction m with
    | zero=>intro i hi; simp only [Nat.add_zero] at hi; subst hi; exact h1
    | succ m ih=>intro i hi; exact h2 i (by omega) (ih (i + 1) (by omega))
  exact key n 0 (by omega)
theorem loop_up0 {P:Int→Prop} (n:Nat) (h1:P (n:Int)) (h2 :∀i:Nat,i < n→P ((i + 1:Nat):Int)→P (i:Int)):P 0:=
  loop_up (P:=fun _ i=>P i) (fun _=>()) n h1 h2
theorem wr_succ {i:Nat} (h:i < 4611686018427387904):IntKind.i64.wrap ((i:Int) + 1) = ((i + 1:Nat):Int):=by
  rw [wr_i64 (by omega) (by omega)]; omega
theorem toNat_cast (i:Nat):((i:Int)).toNat = i:=rfl
def hexd (n:Nat):UInt8:=DIG.getD n 0
theorem hexd_get {n:Nat} (h:n < 16):DIG[n]? = some (hexd n):=by
  unfold hexd
  rw [List.getD_eq_getElem?_getD,List.getElem?_eq_getElem (by simpa using h)]
  rfl
theorem hexd_take {n m:Nat} (h:n < 16) (hm:m = n + 1):(DIG.drop n).take (m - n) = [hexd n]:=by
  subst hm
  rw [show n + 1 - n = 1 by omega,List.drop_eq_getElem_cons (by simpa using h)]
  simp only [List.take_succ_cons,List.take_zero]
  have:=hexd_get h
  rw [List.getElem?_eq_getElem (by simpa using h)] at this
  injection this with this
  rw [this]
theorem DIG_len:DIG.length = 16:=rfl
def chr (c:UInt8):Bytes:=
  if c.toNat = 34∨c.toNat = 92 then [92,c] else if c.toNat = 10 then [92,110] else if c.toNat < 32∨126 < c.toNat then [92,120,hexd (c.toNat / 16),hexd (c.toNat % 16)] else [c]
def chrs (s:Bytes):Bytes:=s.flatMap chr
def quo (s:Bytes):Bytes:=34 :: (chrs s ++ [34])
theorem chr_len (c:UInt8):1≤(chr c).length∧(chr c).length≤4:=by
  unfold chr
  split
  · exact ⟨by simp,by simp⟩
  · split
    · exact ⟨by simp,by simp⟩
    · split <;> exact ⟨by simp,by simp⟩
theorem chrs_len (s:Bytes):(chrs s).length≤4 * s.length:=by
  induction s with
  | nil=>exact Nat.le_refl _
  | cons c s ih=>
    have h:chrs (c :: s) = chr c ++ chrs s:=rfl
    rw [h,List.length_append,List.length_cons]
    have:=chr_len c
    omega
theorem quo_len (s:Bytes):(quo s).length≤4 * s.length + 2:=by
  have:=chrs_len s
  simp only [quo,List.length_cons,List.length_append,List.length_nil]
  omega
theorem chrs_take {s:Bytes} {i:Nat} (h:i < s.length):chrs (s.take (i + 1)) = chrs (s.take i) ++ chr s[i]:=by
  rw [List.take_succ_eq_append_getElem h]
  simp only [chrs,List.flatMap_append,List.flatMap_cons,List.flatMap_nil,List.append_nil]
def tailQ (l:List Bytes):Bytes:=l.flatMap fun x=>44 :: 32 :: quo x
def innerQ:List Bytes→Bytes
  | []=>[]
  | x :: r=>quo x ++ tailQ r
def listed (l:List Bytes):Bytes:=91 :: (innerQ l ++ [93])
def ds (b:Nat):Nat→Nat→Bytes
  | 0,_=>[]
  | f + 1,n=>if n < b then [hexd n] else ds b f (n / b) ++ [hexd (n % b)]
theorem ds_len (b:Nat) :∀f n,(ds b f n).length≤f
  | 0,_=>Nat.le_refl _
  | f + 1,n=>by
    have:=ds_len b f (n / b)
    unfold ds
    split
    · simp
    · simp; omega
def digs (b n:Nat):Bytes:=ds b 64 n
def num (n:Int):Bytes:=if n < 0 then 45 :: digs 10 (-n).toNat else digs 10 n.toNat
def hex (n:Nat):Bytes:=48 :: 120 :: digs 16 n
def quoR (s:Bytes):Bytes × Int:=if 400 < s.length then ([],4) else (quo s,0)
theorem wr_u64_nat {n:Nat} (h:n < 18446744073709551616):IntKind.u64.wrap (n:Int) = (n:Int):=wr_u64 (by omega) (by omega)
end Go.AM

namespace Go.AM
open Go
def dv (b:Nat) (c:UInt8):Int:=Lib.indexByte (DIG.take b) c
theorem dv_lt {b:Nat} (hb:b≤16) (c:UInt8):-1≤dv b c∧dv b c < b:=by
  have key :∀(l:Bytes),-1≤Lib.indexByte l c∧(Lib.indexByte l c < l.length∨Lib.indexByte l c = -1):=by
    intro l
    induction l with
    | nil=>exact ⟨Int.le_refl _,.inr rfl⟩
    | cons x l ih=>
      unfold Lib.indexByte
      split
      · simp
      · split
        · exact ⟨Int.le_refl _,.inr rfl⟩
        · simp only [List.length_cons]
          omega
  have:=key (DIG.take b)
  unfold dv
  have hl:(DIG.take b).length = b:=by simp [hb]
  omega
theorem dv_hexd :∀k:Fin 16,dv 16 (hexd k) = (k.val:Int):=by decide
theorem idx_get (c:UInt8) :∀(l:Bytes),0≤Lib.indexByte l c→l[(Lib.indexByte l c).toNat]? = some c
  | [],h=>absurd h (show ¬ (0:Int)≤-1 by decide)
  | x :: l,h=>by
    have ih:=idx_get c l
    unfold Lib.indexByte at h ⊢
    split
    · rename_i hx
      have:x = c:=by simpa using hx
      subst this
      rfl
    · rename_i hx
      rw [if_neg hx] at h
      split
      · rename_i h1
        rw [if_pos h1] at h
        exact absurd h (by decide)
      · rename_i h1
        rw [if_neg h1] at h
        have h2:=Lib.indexByte_ge l c
        have h3:Lib.indexByte l c≠-1:=by simpa using h1
        have h4:0≤Lib.indexByte l c:=by omega
        have h5:(Lib.indexByte l c + 1).toNat = (Lib.indexByte l c).toNat + 1:=by omega
        rw [h5,List.getElem?_cons_succ]
        exact ih h4
theorem dv_inv {b:Nat} (c:UInt8) (h:0≤dv b c):c = hexd (dv b c).toNat:=by
  have h1:=idx_get c (DIG.take b) h
  have h2:DIG[(dv b c).toNat]? = some c:=by
    have:=(List.getElem?_eq_some_iff.1 h1)
    obtain ⟨h3,h4⟩:=this
    rw [List.getElem_take] at h4
    exact List.getElem?_eq_some_iff.2 ⟨by rw [List.length_take] at h3; exact Nat.lt_of_lt_of_le h3 (Nat.min_le_right _ _),h4⟩
  unfold hexd
  rw [List.getD_eq_getElem?_getD,h2]
  rfl
def vals (b:Nat) (s:Bytes):Nat:=s.foldl (fun n c=>n * b + (dv b c).toNat) 0
def okd (b:Nat) (s:Bytes):Bool:=s.all fun c=>decide (0≤dv b c)
def badn (b:Nat) (s:Bytes):Bool:=decide (s = []) || !okd b s || (decide (1 < s.length) && decide (s.head? = some 48))
def rd (b most:Nat) (s:Bytes):Nat × Int:=if badn b s = true then (0,12) else if most < vals b s then (0,16) else (vals b s,0)
theorem vals_take {b:Nat} {s:Bytes} {i:Nat} (h:i < s.length):vals b (s.take (i + 1)) = vals b (s.take i) * b + (dv b s[i]).toNat:=by
  unfold vals
  rw [List.take_succ_eq_append_getElem h,List.foldl_append]
  rfl
theorem okd_take {b:Nat} {s:Bytes} {i:Nat} (h:i < s.length):okd b (s.take (i + 1)) = (okd b (s.take i) && decide (0≤dv b s[i])):=by
  unfold okd
  rw [List.take_succ_eq_append_getElem h,List.all_append]
  simp
theorem okd_of {b:Nat} {s:Bytes} {i:Nat} (h:i < s.length) (hd:dv b s[i] < 0):okd b s = false:=by
  unfold okd
  rw [List.all_eq_false]
  exact ⟨s[i],List.getElem_mem h,by simpa using hd⟩
theorem far_iff {b most n d:Nat} (hb:0 < b) (hd:d≤most):(most - d) / b < n ↔ most < n * b + d:=by
  rw [Nat.div_lt_iff_lt_mul hb]
  omega
def esx:Bytes→Option (UInt8 × Bytes)
  | a :: b :: r=>if 0≤dv 16 a∧0≤dv 16 b∧(16 * dv 16 a + dv 16 b).toNat≠10∧((16 * dv 16 a + dv 16 b).toNat < 32∨126 < (16 * dv 16 a + dv 16 b).toNat) then some (UInt8.ofNat (16 * dv 16 a + dv 16 b).toNat,r) else none
  | _=>none
def esc:Bytes→Option (UInt8 × Bytes)
  | []=>none
  | c :: r=>if c.toNat = 34∨c.toNat = 92 then some (c,r) else if c.toNat = 110 then some (10,r) else if c.toNat = 120 then esx r else none
def one:Bytes→Option (UInt8 × Bytes)
  | []=>none
  | c :: r=>if c.toNat = 34∨c.toNat < 32∨126 < c.toNat then none else if c.toNat = 92 then esc r else some (c,r)
theorem u8_eq {a b:UInt8} (h:a.toNat = b.toNat):a = b:=UInt8.toNat_inj.1 h
theorem dv_hex {k:Nat} (h:k < 16):dv 16 (hexd k) = (k:Int):=dv_hexd ⟨k,h⟩
theorem one_chr (c:UInt8) (r:Bytes) (h:(chr c ++ r).head?≠some 34):one (chr c ++ r) = some (c,r):=by
  have hc:=c.toNat_lt
  unfold chr at h ⊢
  split
  · rename_i h1
    simp [one,esc,h1]
  · split
    · rename_i h1 h2
      have:c = 10:=u8_eq h2
      subst this
      rfl
    · split
      · rename_i h1 h2 h3
        have e1:=dv_hex (k:=c.toNat / 16) (by omega)
        have e2:=dv_hex (k:=c.toNat % 16) (by omega)
        have e3:(16 * ((c.toNat / 16:Nat):Int) + ((c.toNat % 16:Nat):Int)).toNat = c.toNat:=by omega
        simp only [List.cons_append,List.nil_append,one,esc,esx,e1,e2,e3]
        rw [if_neg (by decide),if_pos (by decide),if_neg (by decide),if_neg (by decide),if_pos (by decide),if_pos ⟨by omega,by omega,h2,h3⟩]
        simp
      · rename_i h1 h2 h3
        simp only [List.cons_append,List.nil_append,one]
        rw [if_neg (by omega),if_neg (by omega)]
theorem one_inv {s:Bytes} {c:UInt8} {r:Bytes} (h:one s = some (c,r)):s = chr c ++ r:=by
  cases s with
  | nil=>cases h
  | cons x s=>
    simp only [one] at h
    split at h
    · cases h
    rename_i h1
    split at h
    · rename_i h2
      have hx:x = 92:=u8_eq h2
      subst hx
      cases s with
      | nil=>cases h
      | cons y s=>
        simp only [esc] at h
        split at h
        · rename_i h3
          cases h
          unfold chr
          rw [if_pos h3]
          rfl
        · split at h
          · rename_i h3 h4
            cases h
            have hy:y = 110:=u8_eq h4
            subst hy
            rfl
          · split at h
            · rename_i h3 h4 h5
              have hy:y = 120:=u8_eq h5
              subst hy
              match s,h with
              | a :: b :: r',h=>
                simp only [esx] at h
                split at h
                · rename_i h6
                  obtain ⟨ha,hb,hv,hw⟩:=h6
                  cases h
                  have la:=dv_lt (b:=16) (by omega) a
                  have lb:=dv_lt (b:=16) (by omega) b
                  have hv256:(16 * dv 16 a + dv 16 b).toNat < 256:=by omega
                  have en:(UInt8.ofNat (16 * dv 16 a + dv 16 b).toNat).toNat = (16 * dv 16 a + dv 16 b).toNat:=by
                    simp; omega
                  unfold chr
                  rw [en,if_neg (by omega),if_neg hv,if_pos hw]
                  have e1:(16 * dv 16 a + dv 16 b).toNat / 16 = (dv 16 a).toNat:=by omega
                  have e2:(16 * dv 16 a + dv 16 b).toNat % 16 = (dv 16 b).toNat:=by omega
                  rw [e1,e2,← dv_inv a ha,← dv_inv b hb]
                  rfl
                · cases h
            · cases h
    · rename_i h2
      cases h
      unfold chr
      rw [if_neg (by omega),if_neg (by omega),if_neg (by omega)]
      rfl
theorem chr_head (c:UInt8):(chr c).head?≠some 34:=by
  unfold chr
  split
  · simp
  · split
    · simp
    · split
      · simp
      · rename_i h _ _
        simp
        intro he
        subst he
        exact h (.inl rfl)
theorem chr_ne (c:UInt8):chr c≠[]:=by
  intro h
  have:=(chr_len c).1
  rw [h] at this
  simp at this
theorem chr_app_head (c:UInt8) (r:Bytes):(chr c ++ r).head?≠some 34:=by
  cases hc:chr c with
  | nil=>exact absurd hc (chr_ne c)
  | cons x l=>have:=chr_head c; rw [hc] at this; simpa using this
theorem one_iff {s:Bytes} {c:UInt8} {r:Bytes}:one s = some (c,r) ↔ s = chr c ++ r:=
  ⟨one_inv,fun h=>by subst h; exact one_chr c r (chr_app_head c r)⟩
def nxtB:Nat→Bytes→Bytes→Option (Bytes × Bytes)
  | 0,_,_=>none
  | n + 1,out,s=>match s with
    | []=>none
    | c :: r=>if c.toNat = 34 then some (out,r) else match one (c :: r) with
      | none=>none
      | some (x,r')=>nxtB n (out ++ [x]) r'
def nxt:Bytes→Option (Bytes × Bytes)
  | []=>none
  | c :: r=>if c.toNat = 34 then nxtB (r.length + 1) [] r else none
theorem one_len {s:Bytes} {c:UInt8} {r:Bytes} (h:one s = some (c,r)):r.length < s.length:=by
  have h1:=one_inv h
  have h2:=(chr_len c).1
  rw [h1,List.length_append]
  omega
theorem nxtB_iff :∀(n:Nat) (out s x r:Bytes),s.length < n→(nxtB n out s = some (x,r) ↔∃y,x = out ++ y∧s = chrs y ++ 34 :: r)
  | 0,_,_,_,_,h=>absurd h (Nat.not_lt_zero _)
  | n + 1,out,[],x,r,h=>by
    refine ⟨fun h=>(by cases h),fun ⟨y,_,h2⟩=>?_⟩
    have:=congrArg List.length h2
    simp at this
  | n + 1,out,c :: s,x,r,h=>by
    unfold nxtB
    simp only
    by_cases hc:c.toNat = 34
    · rw [if_pos hc]
      have hc':c = 34:=u8_eq hc
      subst hc'
      refine ⟨fun h=>?_,fun ⟨y,h1,h2⟩=>?_⟩
      · cases h
        exact ⟨[],by simp,rfl⟩
      · cases y with
        | nil=>
          have h2:(34:UInt8) :: s = 34 :: r:=h2
          injection h2 with _ h2
          rw [h1,h2,List.append_nil]
        | cons a y=>
          have h2:(34:UInt8) :: s = chr a ++ chrs y ++ 34 :: r:=h2
          rw [List.append_assoc] at h2
          have:=chr_app_head a (chrs y ++ 34 :: r)
          rw [← h2] at this
          exact absurd rfl this
    · rw [if_neg hc]
      cases ho:one (c :: s) with
      | none=>
        refine ⟨fun h=>(by cases h),fun ⟨y,h1,h2⟩=>?_⟩
        cases y with
        | nil=>
          have h2:c :: s = 34 :: r:=h2
          injection h2 with h2
          subst h2
          exact absurd rfl hc
        | cons a y=>
          have h2:c :: s = chr a ++ chrs y ++ 34 :: r:=h2
          rw [List.append_assoc] at h2
          have:=one_iff.2 h2
          rw [ho] at this
          cases this
      | some p=>
        obtain ⟨a,r'⟩:=p
        simp only
        have hl:=one_len ho
        have ih:=nxtB_iff n (out ++ [a]) r' x r (by simp at h hl; omega)
        rw [ih]
        have hs:=one_inv ho
        refine ⟨fun ⟨y,h1,h2⟩=>⟨a :: y,by rw [h1]; simp,?_⟩,fun ⟨y,h1,h2⟩=>?_⟩
        · rw [hs,h2]
          show _ = chr a ++ chrs y ++ 34 :: r
          rw [List.append_assoc]
        · cases y with
          | nil=>
            have h2:c :: s = 34 :: r:=h2
            injection h2 with h2
            subst h2
            exact absurd rfl hc
          | cons b y=>
            have h2:c :: s = chr b ++ chrs y ++ 34 :: r:=h2
            rw [List.append_assoc] at h2
            have:=one_iff.2 h2
            rw [ho] at this
            cases this
            exact ⟨y,by rw [h1]; simp,rfl⟩
theorem nxt_iff {s x r:Bytes}:nxt s = some (x,r) ↔ s = quo x ++ r:=by
  cases s with
  | nil=>
    refine ⟨fun h=>(by cases h),fun h=>?_⟩
    have:=congrArg List.length h
    simp [quo] at this
  | cons c s=>
    simp only [nxt,quo]
    by_cases hc:c.toNat = 34
    · have hc':c = 34:=u8_eq hc
      subst hc'
      rw [if_pos hc,nxtB_iff _ _ _ _ _ (Nat.lt_succ_self _)]
      refine ⟨fun ⟨y,h1,h2⟩=>?_,fun h=>⟨x,by simp,?_⟩⟩
      · simp only [List.nil_append] at h1
        subst h1
        rw [h2]
        simp
      · simp only [List.cons_append,List.append_assoc,List.nil_append,List.cons.injEq,true_and] at h
        exact h
    · rw [if_neg hc]
      refine ⟨fun h=>(by cases h),fun h=>?_⟩
      injection h with h
      subst h
      exact absurd rfl hc
def unnum (s:Bytes):Int × Int:=
  if 2000 < s.length then (0,4) else
  if s.take 1 = [45] then
    if (rd 10 9223372036854775808 (s.drop 1)).2 = 0∧(rd 10 9223372036854775808 (s.drop 1)).1 = 0 then (0,12) else (-((rd 10 9223372036854775808 (s.drop 1)).1:Int),(rd 10 9223372036854775808 (s.drop 1)).2)
  else (((rd 10 9223372036854775807 s).1:Int),(rd 10 9223372036854775807 s).2)
theorem rd_le (b most:Nat) (s:Bytes):(rd b most s).1≤most:=by
  unfold rd
  split
  · exact Nat.zero_le _
  · split
    · exact Nat.zero_le _
    · simp only; omega
theorem rd_err {b most:Nat} {s:Bytes} (h:(rd b most s).2≠0):(rd b most s).1 = 0:=by
  unfold rd at h ⊢
  split
  · rfl
  · rename_i h1
    rw [if_neg h1] at h
    split
    · rfl
    · rename_i h2
      rw [if_neg h2] at h
      exact absurd rfl h
theorem vals_mono {b:Nat} (hb:0 < b) {s:Bytes} {i:Nat} :∀k,i + k≤s.length→vals b (s.take i)≤vals b (s.take (i + k))
  | 0,_=>Nat.le_refl _
  | k + 1,h=>by
    have:=vals_mono hb (s:=s) (i:=i) k (by omega)
    rw [show i + (k + 1) = (i + k) + 1 by omega,vals_take (by omega)]
    have h3:vals b (s.take (i + k))≤vals b (s.take (i + k)) * b:=Nat.le_mul_of_pos_right _ hb
    omega
theorem rd_zero {b most:Nat} (hb:0 < b) {s:Bytes} (h:(rd b most s).2 = 0) (h0:(rd b most s).1 = 0):s = [48]:=by
  unfold rd at h h0
  split at h
  · exact absurd h (by decide)
  rename_i hbad
  rw [if_neg hbad] at h0
  split at h
  · exact absurd h (by decide)
  rename_i hm
  rw [if_neg hm] at h0
  simp only at h0
  have hbad:badn b s = false:=by simpa using hbad
  unfold badn at hbad
  simp only [Bool.or_eq_false_iff,decide_eq_false_iff_not,Bool.not_eq_false',Bool.and_eq_false_iff] at hbad
  obtain ⟨⟨hne,hok⟩,h48⟩:=hbad
  have hpos:0 < s.length:=List.length_pos_iff.2 hne
  have hz:(dv b s[0]).toNat = 0:=by
    have h1:=vals_mono hb (s:=s) (i:=0 + 1) (s.length - 1) (by omega)
    rw [vals_take hpos,show 0 + 1 + (s.length - 1) = s.length by omega,List.take_length] at h1
    omega
  have hd:0≤dv b s[0]:=by
    unfold okd at hok
    rw [List.all_eq_true] at hok
    simpa using hok s[0] (List.getElem_mem hpos)
  have hs0:s[0] = 48:=by
    have:=dv_inv s[0] hd
    rw [hz] at this
    exact this
  have hh:s.head? = some 48:=by rw [List.head?_eq_getElem?,List.getElem?_eq_getElem hpos,hs0]
  have hl:s.length = 1:=by
    rcases h48 with h | h
    · omega
    · exact absurd hh h
  match s,hl with
  | [c],_=>simp at hs0; rw [hs0]
def unquo (s:Bytes):Bytes × Int:=
  if 2000 < s.length then ([],4) else
  match nxt s with
  | some (x,[])=>if 400 < x.length then ([],4) else (x,0)
  | _=>([],12)
def nxtR (s:Bytes):Bytes × Bytes × Bool:=match nxt s with | some (x,r)=>(x,r,true) | none=>([],[],false)
theorem take_chr {s:Bytes} {c:UInt8}:s.take (chr c).length = chr c ↔ one s = some (c,s.drop (chr c).length):=by
  rw [one_iff]
  refine ⟨fun h=>?_,fun h=>?_⟩
  · have:=List.take_append_drop (chr c).length s
    rw [h] at this
    exact this.symm
  · rw [h]
    simp
end Go.AM

namespace Go.AM
open Go
theorem dv_hexd_b :∀b:Fin 17,∀k:Fin 16,k.val < b.val→dv b.val (hexd k.val) = (k.val:Int):=by decide
theorem dv_of {b k:Nat} (hb:b≤16) (hk:k < b):dv b (hexd k) = (k:Int):=dv_hexd_b ⟨b,by omega⟩ ⟨k,by omega⟩ hk
theorem hexd_48 {k:Nat} (hk:k < 16) (h:hexd k = 48):k = 0:=by
  have h1:=dv_of (b:=16) (Nat.le_refl _) hk
  rw [h] at h1
  have h2:dv 16 48 = 0:=rfl
  omega
theorem vals_snoc (b:Nat) (s:Bytes) (c:UInt8):vals b (s ++ [c]) = vals b s * b + (dv b c).toNat:=by
  unfold vals
  rw [List.foldl_append]
  rfl
theorem okd_snoc (b:Nat) (s:Bytes) (c:UInt8):okd b (s ++ [c]) = (okd b s && decide (0≤dv b c)):=by
  unfold okd
  rw [List.all_append]
  simp
theorem ds_read {b:Nat} (hb:2≤b) (hb':b≤16) :∀f n,n < b ^ f→0 < f→vals b (ds b f n) = n∧okd b (ds b f n) = true∧ds b f n≠[]∧((ds b f n).head? = some 48→n = 0)∧(n = 0→ds b f n = [48])
  | 0,_,_,h=>absurd h (Nat.lt_irrefl _)
  | f + 1,n,h,_=>by
    unfold ds
    by_cases hn:n < b
    · rw [if_pos hn]
      have hd:=dv_of hb' hn
      refine ⟨?_,?_,by simp,fun h1=>?_,fun h1=>by subst h1; rfl⟩
      · show 0 * b + (dv b (hexd n)).toNat = n
        omega
      · show (decide (0≤dv b (hexd n)) && true) = true
        rw [hd]
        simp
      · simp at h1
        exact hexd_48 (by omega) h1
    · rw [if_neg hn]
      have h1:n / b < b ^ f:=by
        rw [Nat.div_lt_iff_lt_mul (by omega)]
        rw [Nat.pow_succ] at h
        exact h
      have h2:0 < f:=by
        rcases Nat.eq_zero_or_pos f with rfl | h
        · simp at h1
          have:=Nat.div_pos (show b≤n by omega) (by omega)
          omega
        · exact h
      obtain ⟨i1,i2,i3,i4,i5⟩:=ds_read hb hb' f (n / b) h1 h2
      have hr:n % b < b:=Nat.mod_lt _ (by omega)
      have hd:=dv_of hb' hr
      have hq:=Nat.div_pos (show b≤n by omega) (show 0 < b by omega)
      refine ⟨?_,?_,by simp,fun h3=>?_,fun h3=>absurd h3 (by omega)⟩
      · rw [vals_snoc,i1,hd]
        have:=Nat.div_add_mod n b
        rw [Nat.mul_comm] at this
        omega
      · rw [okd_snoc,i2,hd,Bool.true_and]
        exact decide_eq_true (Int.natCast_nonneg _)
      · rw [List.head?_append] at h3
        cases hh:(ds b f (n / b)).head? with
        | none=>exact absurd (List.head?_eq_none_iff.1 hh) i3
        | some c=>
          rw [hh] at h3
          simp at h3
          subst h3
          have:=i4 hh
          omega
theorem pow64 {b n:Nat} (hb:2≤b) (hn:n < 18446744073709551616):n < b ^ 64:=
  Nat.lt_of_lt_of_le hn (Nat.pow_le_pow_left hb 64)
theorem rd_digs {b most n:Nat} (hb:2≤b) (hb':b≤16) (hn:n < 18446744073709551616) (hm:n≤most):rd b most (digs b n) = (n,0):=by
  obtain ⟨h1,h2,h3,h4,h5⟩:=ds_read hb hb' 64 n (pow64 hb hn) (by omega)
  have hbad:badn b (digs b n) = false:=by
    unfold badn digs
    rw [decide_eq_false h3,h2]
    simp only [Bool.false_or,Bool.not_true]
    by_cases h6:(ds b 64 n).head? = some 48
    · rw [h5 (h4 h6)]
      rfl
    · rw [decide_eq_false h6,Bool.and_false]
  unfold rd
  rw [if_neg (by rw [hbad]; decide)]
  unfold digs
  rw [h1,if_neg (by omega)]
theorem unnum_num {n:Int} (h1:-9223372036854775808≤n) (h2:n < 9223372036854775808):unnum (num n) = (n,0):=by
  have hl:(num n).length≤65:=by
    unfold num
    split
    · have:=ds_len 10 64 (-n).toNat
      simp only [digs,List.length_cons]; omega
    · have:=ds_len 10 64 n.toNat
      simp only [digs]; omega
  unfold unnum
  rw [if_neg (by omega)]
  by_cases hn:n < 0
  · have e:num n = 45 :: digs 10 (-n).toNat:=by unfold num; rw [if_pos hn]
    have hr:=rd_digs (b:=10) (most:=9223372036854775808) (n:=(-n).toNat) (by omega) (by omega) (by omega) (by omega)
    rw [e,if_pos (show List.take 1 (45 :: digs 10 (-n).toNat) = [45] from rfl),List.drop_succ_cons,List.drop_zero,hr,if_neg (by simp only; omega)]
    simp only [Prod.mk.injEq,and_true]
    omega
  · have e:num n = digs 10 n.toNat:=by unfold num; rw [if_neg hn]
    have hr:=rd_digs (b:=10) (most:=9223372036854775807) (n:=n.toNat) (by omega) (by omega) (by omega) (by omega)
    have h45:¬ (digs 10 n.toNat).take 1 = [45]:=by
      intro h
      obtain ⟨_,k2,k3,_⟩:=ds_read (b:=10) (by omega) (by omega) 64 n.toNat (pow64 (by omega) (by omega)) (by omega)
      unfold digs at h
      cases hd:ds 10 64 n.toNat with
      | nil=>exact k3 hd
      | cons c r=>
        rw [hd] at h k2
        simp at h
        subst h
        unfold okd at k2
        simp only [List.all_cons,Bool.and_eq_true,decide_eq_true_eq] at k2
        exact absurd k2.1 (by decide)
    rw [e,if_neg h45,hr]
    simp only [Prod.mk.injEq,and_true]
    omega
theorem unquo_quo {s:Bytes} (hs:s.length≤400):unquo (quo s) = (s,0):=by
  have hl:=quo_len s
  unfold unquo
  rw [if_neg (by omega),nxt_iff.2 (show quo s = quo s ++ [] by simp)]
  simp only
  rw [if_neg (by omega)]
end Go.AM

namespace Go.AM
open Go
theorem loop_inv {α:Type} {P:α→Int→Prop} (A:Nat→α) (n:Nat) (I:Nat→Prop) (h0:I 0) (h1:I n→P (A n) (n:Int)) (h2 :∀i:Nat,i < n→I i→(I (i + 1)→P (A (i + 1)) ((i + 1:Nat):Int))→P (A i) (i:Int)):P (A 0) 0:=by
  have key :∀m i:Nat,i + m = n→I i→P (A i) (i:Int):=by
    intro m
    induction m with
    | zero=>intro i hi h; simp only [Nat.add_zero] at hi; subst hi; exact h1 h
    | succ m ih=>intro i hi h; exact h2 i (by omega) h fun h'=>ih (i + 1) (by omega) h'
  exact key n 0 (by omega) h0
theorem loop_inv0 {P:Int→Prop} (n:Nat) (I:Nat→Prop) (h0:I 0) (h1:I n→P (n:Int)) (h2 :∀i:Nat,i < n→I i→(I (i + 1)→P ((i + 1:Nat):Int))→P (i:Int)):P 0:=
  loop_inv (P:=fun _ i=>P i) (fun _=>()) n I h0 h1 h2
theorem get_at {α:Type} {l:List α} {i:Nat} (h:i < l.length):l[((i:Int)).toNat]? = some l[i]:=by rw [toNat_cast,List.getElem?_eq_getElem h]
abbrev vz:Val:=Val.mk 0 0 [] [] false
theorem Val.eta (v:Val):v = Val.mk v.kind v.int v.text v.list v.cut:=by cases v; rfl
@[simp] theorem Val.kind_mk (k n:Int) (s:Bytes) (l:List Val) (c:Bool):(Val.mk k n s l c).kind = k:=rfl
@[simp] theorem Val.int_mk (k n:Int) (s:Bytes) (l:List Val) (c:Bool):(Val.mk k n s l c).int = n:=rfl
@[simp] theorem Val.text_mk (k n:Int) (s:Bytes) (l:List Val) (c:Bool):(Val.mk k n s l c).text = s:=rfl
@[simp] theorem Val.list_mk (k n:Int) (s:Bytes) (l:List Val) (c:Bool):(Val.mk k n s l c).list = l:=rfl
@[simp] theorem Val.cut_mk (k n:Int) (s:Bytes) (l:List Val) (c:Bool):(Val.mk k n s l c).cut = c:=rfl
inductive Wf:Val→Prop
  | mk {k n:Int} {s:Bytes} {l:List Val} {c:Bool} (hk:0≤k∧k < 256) (hn:-9223372036854775808≤n∧n < 9223372036854775808) (hl:l.length≤9223372036854775807) (h :∀x ∈ l,Wf x):Wf (.mk k n s l c)
theorem Wf.k {v:Val} (h:Wf v):0≤v.kind∧v.kind < 256:=by cases h; assumption
theorem Wf.n {v:Val} (h:Wf v):-9223372036854775808≤v.int∧v.int < 9223372036854775808:=by cases h; assumption
theorem Wf.l {v:Val} (h:Wf v):v.list.length≤9223372036854775807:=by cases h; assumption
theorem Wf.e {v:Val} (h:Wf v) :∀x ∈ v.list,Wf x:=by cases h; assumption
theorem Wf.zero:Wf vz:=.mk (by decide) (by decide) (by decide) (by simp)
mutual
def Val.nodes:Val→Nat
  | .mk _ _ _ l _=>1 + Val.nodesL l
def Val.nodesL:List Val→Nat
  | []=>0
  | v :: l=>Val.nodes v + Val.nodesL l
end
theorem nodes_eq (v:Val):v.nodes = 1 + Val.nodesL v.list:=by cases v; rw [Val.nodes]; rfl
theorem nodesL_app :∀l m:List Val,Val.nodesL (l ++ m) = Val.nodesL l + Val.nodesL m
  | [],m=>by simp [Val.nodesL]
  | v :: l,m=>by rw [List.cons_append,Val.nodesL,Val.nodesL,nodesL_app l m]; omega
theorem nodesL_take {l:List Val} {i:Nat} (h:i < l.length):Val.nodesL (l.take (i + 1)) = Val.nodesL (l.take i) + l[i].nodes:=by
  rw [List.take_succ_eq_append_getElem h,nodesL_app,Val.nodesL,Val.nodesL]; rfl
theorem nodesL_le {l:List Val} (i:Nat):Val.nodesL (l.take i)≤Val.nodesL l:=by
  have:=nodesL_app (l.take i) (l.drop i)
  rw [List.take_append_drop] at this
  omega
theorem nodes_pos (v:Val):1≤v.nodes:=by rw [nodes_eq]; omega
theorem nodes_mem {l:List Val} {v:Val} (h:v ∈ l):v.nodes≤Val.nodesL l:=by
  obtain ⟨i,hi,rfl⟩:=List.getElem_of_mem h
  have h1:=nodesL_take hi
  have h2:=nodesL_le (l:=l) (i + 1)
  omega
mutual
/-- The number that the reference counts. -/
def rN:Val→Nat
  | .mk _ _ _ l _=>rNs l 1
def rNs:List Val→Nat→Nat
  | [],n=>n
  | v :: l,n=>if n≤5000 then rNs l (n + rN v) else n
end
theorem rN_eq (v:Val):rN v = rNs v.list 1:=by cases v; rw [rN]; rfl
def Sm:Nat→Val→Prop
  | 0,_=>False
  | d + 1,v=>v.list.length≤400∧∀x ∈ v.list,Sm d x
theorem rNs_le {B:Nat} :∀(l:List Val) (n:Nat),n≤5000 + B→(∀x ∈ l,rN x≤B)→rNs l n≤5000 + B
  | [],n,hn,_=>by rw [rNs]; exact hn
  | v :: l,n,hn,h=>by
    rw [rNs]
    split
    · exact rNs_le l _ (by have:=h v List.mem_cons_self; omega) fun x hx=>h x (List.mem_cons_of_mem _ hx)
    · exact hn
theorem rN_le :∀{d:Nat} {v:Val},Sm d v→rN v≤5001 * d
  | 0,v,h=>h.elim
  | d + 1,v,h=>by
    rw [rN_eq]
    have:=rNs_le (B:=5001 * d) v.list 1 (by omega) fun x hx=>rN_le (h.2 x hx)
    omega
mutual
theorem rN_spec :∀v:Val,(v.nodes≤5000→rN v = v.nodes)∧(5000 < v.nodes→5000 < rN v)
  | .mk k n s l c=>by
    rw [rN,Val.nodes]
    have:=rNs_spec l 1 (by omega)
    exact this
theorem rNs_spec :∀(l:List Val) (n:Nat),n≤5000→(n + Val.nodesL l≤5000→rNs l n = n + Val.nodesL l)∧(5000 < n + Val.nodesL l→5000 < rNs l n)
  | [],n,hn=>by rw [rNs,Val.nodesL]; omega
  | v :: l,n,hn=>by
    rw [rNs,Val.nodesL,if_pos hn]
    obtain ⟨h1,h2⟩:=rN_spec v
    by_cases h:n + rN v≤5000
    · obtain ⟨h3,h4⟩:=rNs_spec l (n + rN v) h
      have hv:v.nodes≤5000:=by
        rcases Nat.lt_or_ge 5000 v.nodes with h5 | h5
        · have:=h2 h5; omega
        · exact h5
      have:=h1 hv
      omega
    · have h5:rNs l (n + rN v) = n + rN v:=by
        cases l with
        | nil=>rw [rNs]
        | cons w l=>rw [rNs,if_neg h]
      rw [h5]
      have:=nodes_pos v
      rcases Nat.lt_or_ge 5000 v.nodes with h6 | h6
      · have:=h2 h6
        omega
      · have:=h1 h6
        omega
end
def deepv:Nat→Val→Bool
  | 0,_=>true
  | d + 1,v=>decide (100 < v.text.length) || decide (400 < v.list.length) || v.list.any (deepv d)
def greatv (v:Val):Bool:=deepv 14 v || decide (400 < rN v)
theorem deepv_sm :∀{d:Nat} {v:Val},deepv d v = false→Sm d v
  | 0,v,h=>by cases h
  | d + 1,v,h=>by
    simp only [deepv,Bool.or_eq_false_iff,decide_eq_false_iff_not,List.any_eq_false] at h
    exact ⟨by omega,fun x hx=>deepv_sm (by simpa using h.2 x hx)⟩
def Okh (k n:Int) (tl ll c:Nat):Prop:=
  (k = 1∧ll = 0∧c = 0∧tl = 0∧(n = 0∨n = 1))∨(k = 2∧ll = 0∧c = 0∧tl = 0)∨(k = 3∧ll = 0∧c = 0∧n = 0∧tl≤64)∨
  (k = 4∧n = 0∧tl = 0∧ll≤1∧(c = 0∨ll = 0))∨(k = 5∧n = 0∧tl = 0∧ll≤8∧c = 0)∨(k = 6∧n = 0∧tl = 0∧ll≤16∧1≤ll∧c = 0)∨(k = 7∧n = 0∧tl = 0∧ll≤16∧(c = 0∨ll = 0))
instance (k n:Int) (tl ll c:Nat):Decidable (Okh k n tl ll c):=by unfold Okh; infer_instance
abbrev Val.okh (v:Val):Prop:=Okh v.kind v.int v.text.length v.list.length v.cut.toNat
def okv:Nat→Val→Bool
  | 0,_=>false
  | d + 1,v=>decide v.okh && v.list.all (okv d)
theorem okv_head {d:Nat} {v:Val} (h:okv d v = true):v.okh:=by
  cases d with
  | zero=>cases h
  | succ d=>simp only [okv,Bool.and_eq_true,decide_eq_true_eq] at h; exact h.1
theorem okv_sub {d:Nat} {v:Val} (h:okv (d + 1) v = true) :∀x ∈ v.list,okv d x = true:=by
  simp only [okv,Bool.and_eq_true,List.all_eq_true] at h
  exact h.2
theorem okv_sm :∀{d:Nat} {v:Val},okv d v = true→Sm d v
  | 0,v,h=>by cases h
  | d + 1,v,h=>by
    have h1:=okv_head h
    refine ⟨?_,fun x hx=>okv_sm (okv_sub h x hx)⟩
    unfold Val.okh Okh at h1
    omega
def fine (v:Val):Bool:=okv 130 v && decide (v.nodes≤5000)
def cntR (d:Nat) (v:Val):Int × Bool:=if okv d v = true∧v.nodes≤5000 then ((v.nodes:Int),true) else (0,false)
def chkR (v:Val):Int:=if fine v = true then 0 else 8
def tTrue:Bytes:=[116,114,117,101]
def tFalse:Bytes:=[102,97,108,115,101]
def tNil:Bytes:=[110,105,108]
def tCutP:Bytes:=[38,46,46,46]
def tCutS:Bytes:=[60,46,46,46,62]
mutual
def txt:Val→Bytes
  | .mk k n s l c=>if k = 1 then (if n = 1 then tTrue else tFalse) else if k = 2 then num n else if k = 3 then quo s else
      if k = 5 then 123 :: (txts l ++ [125]) else if k = 6 then 91 :: (txts l ++ [93]) else if k = 7 then (if c = true then tCutS else 60 :: (txts l ++ [62])) else
      if c = true then tCutP else if l.length = 0 then tNil else 38 :: txts l
def txts:List Val→Bytes
  | []=>[]
  | v :: l=>txt v ++ txtl l
def txtl:List Val→Bytes
  | []=>[]
  | v :: l=>44 :: 32 :: (txt v ++ txtl l)
end
theorem txt_eq (v:Val):txt v = if v.kind = 1 then (if v.int = 1 then tTrue else tFalse) else if v.kind = 2 then num v.int else if v.kind = 3 then quo v.text else
      if v.kind = 5 then 123 :: (txts v.list ++ [125]) else if v.kind = 6 then 91 :: (txts v.list ++ [93]) else if v.kind = 7 then (if v.cut = true then tCutS else 60 :: (txts v.list ++ [62])) else
      if v.cut = true then tCutP else if v.list.length = 0 then tNil else 38 :: txts v.list:=by cases v; rw [txt]; rfl
theorem txtl_app :∀l m:List Val,txtl (l ++ m) = txtl l ++ txtl m
  | [],m=>by simp [txtl]
  | v :: l,m=>by rw [List.cons_append,txtl,txtl,txtl_app l m]; simp
theorem txts_snoc (l:List Val) (v:Val):txts (l ++ [v]) = txts l ++ (if l.length > 0 then [44,32] else []) ++ txt v:=by
  cases l with
  | nil=>simp [txts,txtl]
  | cons a l=>simp [txts,txtl_app,txtl]
theorem txts_take {l:List Val} {i:Nat} (h:i < l.length):txts (l.take (i + 1)) = txts (l.take i) ++ (if i > 0 then [44,32] else []) ++ txt l[i]:=by
  rw [List.take_succ_eq_append_getElem h,txts_snoc]
  congr 2
  rw [List.length_take]
  congr 1
  rw [eq_iff_iff]
  omega
theorem txts_one (v:Val):txts [v] = txt v:=by simp [txts,txtl]
theorem num_len (n:Int):(num n).length≤65:=by
  unfold num
  split
  · have:=ds_len 10 64 (-n).toNat; simp only [List.length_cons,digs]; omega
  · have:=ds_len 10 64 n.toNat; simp only [digs]; omega
theorem txt_len :∀{d:Nat} {v:Val},okv d v = true→(txt v).length + 2≤260 * v.nodes
  | 0,v,h=>by cases h
  | d + 1,v,h=>by
    have h1:=okv_head h
    have h2:=okv_sub h
    have hl :∀l:List Val,(∀x ∈ l,okv d x = true)→(txtl l).length≤260 * Val.nodesL l:=by
      intro l
      induction l with
      | nil=>intro _; simp [txtl]
      | cons x l ih=>
        intro hx
        have h3:=txt_len (hx x List.mem_cons_self)
        have h4:=ih fun y hy=>hx y (List.mem_cons_of_mem _ hy)
        rw [txtl,Val.nodesL]
        simp only [List.length_cons,List.length_append]
        omega
    have hs:(txts v.list).length≤260 * Val.nodesL v.list:=by
      revert h2
      cases v.list with
      | nil=>intro _; simp [txts]
      | cons x l=>
        intro hx
        have h3:=txt_len (hx x List.mem_cons_self)
        have h4:=hl l fun y hy=>hx y (List.mem_cons_of_mem _ hy)
        rw [txts,Val.nodesL]
        simp only [List.length_append]
        omega
    have h5:=num_len v.int
    have h6:=quo_len v.text
    rw [nodes_eq,txt_eq]
    unfold Val.okh Okh at h1
    repeat' split
    all_goals try simp only [tTrue,tFalse,tNil,tCutP,tCutS,List.length_cons,List.length_append,List.length_nil]
    all_goals omega
theorem fine_len {v:Val} (h:fine v = true):(txt v).length + 2≤1300000:=by
  simp only [fine,Bool.and_eq_true,decide_eq_true_eq] at h
  have:=txt_len h.1
  omega
theorem digs_ne (b n:Nat):digs b n≠[]:=by
  unfold digs
  rw [show 64 = 63 + 1 from rfl,ds]
  split <;> simp
theorem num_ne (n:Int):num n≠[]:=by
  unfold num
  split
  · simp
  · exact digs_ne _ _
theorem txt_ne (v:Val):txt v≠[]:=by
  rw [txt_eq]
  repeat' split
  all_goals first | exact num_ne _ | simp [tTrue,tFalse,tNil,tCutP,tCutS,quo]
end Go.AM

namespace Go.AM
open Go Go.RowKit
section
variable {T:TTab}
theorem rows_mapP {α:Type} {f:α→List AV} {p:α→Prop} :∀{rows:List (List AV)},(∀r ∈ rows,∃x,r = f x∧p x)→∃l:List α,rows = l.map f∧∀x ∈ l,p x
  | [],_=>⟨[],rfl,by simp⟩
  | r :: rows,h=>by
    obtain ⟨x,rfl,hx⟩:=h r List.mem_cons_self
    obtain ⟨l,rfl,hl⟩:=rows_mapP fun r hr=>h r (List.mem_cons_of_mem _ hr)
    exact ⟨x :: l,rfl,fun y hy=>by rcases List.mem_cons.1 hy with rfl | hy; exact hx; exact hl y hy⟩
theorem fld_of {f t t' off:Nat} {xs:List AV} {fs:List (Nat × Nat)} {i j:TI} (hi:T t = some i) (hk:i.kind = .st fs) (h:HasC T f t xs) (hf:((t',off):Nat × Nat) ∈ fs) (hj:T t' = some j) :∃g,f = g + 1∧HasC T g t' ((xs.drop off).take j.size):=by
  obtain ⟨g,h1,h2⟩:=h.st hi hk
  obtain ⟨j',h3,h4⟩:=h2 _ hf
  rw [hj] at h3
  cases h3
  exact ⟨g,h1,h4⟩
structure ValT (T:TTab) (t a b c d e:Nat):Prop where
  ht :∃i,T t = some i∧i.kind = .st [(a,0),(b,1),(c,2),(d,3),(e,4)]∧i.size = 5
  ha :∃i,T a = some i∧i.kind = .int .u8∧i.size = 1
  hb :∃i,T b = some i∧i.kind = .int .i64∧i.size = 1
  hc :∃i,T c = some i∧i.kind = .str∧i.size = 1
  hd :∃i,T d = some i∧i.kind = .sl t∧i.size = 1
  he :∃i,T e = some i∧i.kind = .bool∧i.size = 1
theorem HasC.val {t a b c d e:Nat} (V:ValT T t a b c d e) :∀(f:Nat) (xs:List AV),xs.length = 5→HasC T f t xs→∃v:Val,xs = v.row∧Wf v:=by
  obtain ⟨it,ht,kt,st⟩:=V.ht
  obtain ⟨ia,ha,ka,sa⟩:=V.ha
  obtain ⟨ib,hb,kb,sb⟩:=V.hb
  obtain ⟨ic,hc,kc,sc⟩:=V.hc
  obtain ⟨id,hd,kd,sd⟩:=V.hd
  obtain ⟨ie,he,ke,se⟩:=V.he
  intro f
  induction f using Nat.strongRecOn with
  | _ f ih=>
  intro xs hl h
  obtain ⟨g,rfl,h1⟩:=fld_of ht kt h (t':=a) (off:=0) (by simp) ha
  obtain ⟨g',e',h2⟩:=fld_of ht kt h (t':=b) (off:=1) (by simp) hb; cases e'
  obtain ⟨g',e',h3⟩:=fld_of ht kt h (t':=c) (off:=2) (by simp) hc; cases e'
  obtain ⟨g',e',h4⟩:=fld_of ht kt h (t':=d) (off:=3) (by simp) hd; cases e'
  obtain ⟨g',e',h5⟩:=fld_of ht kt h (t':=e) (off:=4) (by simp) he; cases e'
  rw [sa] at h1; rw [sb] at h2; rw [sc] at h3; rw [sd] at h4; rw [se] at h5
  match xs,hl with
  | [x0,x1,x2,x3,x4],_=>
    obtain ⟨n,e1,q1⟩:=h1.int ha ka
    obtain ⟨m,e2,q2⟩:=h2.int hb kb
    obtain ⟨s,e3,q3⟩:=h3.str hc kc
    obtain ⟨g2,rows,e4,e5,q4,q5,q6⟩:=h4.sl hd kd
    obtain ⟨z,e6⟩:=h5.bool he ke
    simp at e1 e2 e3 e5 e6
    subst e1; subst e2; subst e3; subst e5; subst e6
    have hr :∀r ∈ rows,∃v:Val,r = v.row∧Wf v:=fun r hr=>ih g2 (by omega) r (by rw [q6 _ ht r hr,st]) (q5 r hr)
    obtain ⟨l,rfl,hl⟩:=rows_mapP hr
    refine ⟨Val.mk n m s l z,?_,.mk (u8_bd q1) (i64_bd q2) (by simpa [maxLen] using q4) hl⟩
    rw [Val.row_eq]
    rfl
theorem ArgOk.val {t a b c d e:Nat} {x:AV} (V:ValT T t a b c d e) (h:ArgOk T t x) :∃v:Val,x = .ag [.i .u8 v.kind,.i .i64 v.int,.s v.text,.sl .ext (List.map Val.row v.list),.b v.cut]∧Wf v:=by
  obtain ⟨i,hi,hk,hs⟩:=V.ht
  unfold ArgOk at h
  rw [hi] at h
  simp only [hk] at h
  obtain ⟨f,xs,rfl,h1,h2⟩:=h
  obtain ⟨v,rfl,hv⟩:=HasC.val V f xs (by rw [h1,hs]) h2
  exact ⟨v,by rw [Val.row_eq],hv⟩
end
end Go.AM

namespace Go.AM
open Go
structure Fld where
  name:List UInt8
  type:Int
def Fld.row (x:Fld):List AV:=[.s x.name,.i .i64 x.type]
theorem Fld.row_eq (x:Fld):x.row = [.s x.name,.i .i64 x.type]:=rfl
theorem Fld.row_len (x:Fld):x.row.length = 2:=rfl
def Fld.zero:Fld:=⟨[],0⟩
abbrev Fld.av (x:Fld):AV:=.ag [.s x.name,.i .i64 x.type]
structure Ins where
  op:Int
  a:Int
  b:Int
  c:Int
def Ins.row (x:Ins):List AV:=[.i .u8 x.op,.i .i64 x.a,.i .i64 x.b,.i .i64 x.c]
theorem Ins.row_eq (x:Ins):x.row = [.i .u8 x.op,.i .i64 x.a,.i .i64 x.b,.i .i64 x.c]:=rfl
theorem Ins.row_len (x:Ins):x.row.length = 4:=rfl
def Ins.zero:Ins:=⟨0,0,0,0⟩
abbrev Ins.av (x:Ins):AV:=.ag [.i .u8 x.op,.i .i64 x.a,.i .i64 x.b,.i .i64 x.c]
structure Rnn where
  start:Int
  value:Int
def Rnn.row (x:Rnn):List AV:=[.i .i64 x.start,.i .u64 x.value]
theorem Rnn.row_eq (x:Rnn):x.row = [.i .i64 x.start,.i .u64 x.value]:=rfl
theorem Rnn.row_len (x:Rnn):x.row.length = 2:=rfl
def Rnn.zero:Rnn:=⟨0,0⟩
abbrev Rnn.av (x:Rnn):AV:=.ag [.i .i64 x.start,.i .u64 x.value]
structure Typ where
  kind:Int
  elem:Int
  len:Int
  fields:List Fld
def Typ.row (x:Typ):List AV:=[.i .u8 x.kind,.i .i64 x.elem,.i .i64 x.len,.sl .ext (List.map Fld.row x.fields)]
theorem Typ.row_eq (x:Typ):x.row = [.i .u8 x.kind,.i .i64 x.elem,.i .i64 x.len,.sl .ext (List.map Fld.row x.fields)]:=rfl
theorem Typ.row_len (x:Typ):x.row.length = 4:=rfl
def Typ.zero:Typ:=⟨0,0,0,[]⟩
abbrev Typ.av (x:Typ):AV:=.ag [.i .u8 x.kind,.i .i64 x.elem,.i .i64 x.len,.sl .ext (List.map Fld.row x.fields)]
abbrev Typ.avo (x:Typ) (o:Own):AV:=.ag [.i .u8 x.kind,.i .i64 x.elem,.i .i64 x.len,.sl o (List.map Fld.row x.fields)]
structure Fun where
  name:List UInt8
  params:Int
  result:Int
  slots:List Fld
  code:List Ins
  sizes:List Rnn
  lives:List Rnn
def Fun.row (x:Fun):List AV:=[.s x.name,.i .i64 x.params,.i .i64 x.result,.sl .ext (List.map Fld.row x.slots),.sl .ext (List.map Ins.row x.code),.sl .ext (List.map Rnn.row x.sizes),.sl .ext (List.map Rnn.row x.lives)]
theorem Fun.row_eq (x:Fun):x.row = [.s x.name,.i .i64 x.params,.i .i64 x.result,.sl .ext (List.map Fld.row x.slots),.sl .ext (List.map Ins.row x.code),.sl .ext (List.map Rnn.row x.sizes),.sl .ext (List.map Rnn.row x.lives)]:=rfl
theorem Fun.row_len (x:Fun):x.row.length = 7:=rfl
def Fun.zero:Fun:=⟨[],0,0,[],[],[],[]⟩
abbrev Fun.av (x:Fun):AV:=.ag [.s x.name,.i .i64 x.params,.i .i64 x.result,.sl .ext (List.map Fld.row x.slots),.sl .ext (List.map Ins.row x.code),.sl .ext (List.map Rnn.row x.sizes),.sl .ext (List.map Rnn.row x.lives)]
structure Img where
  types:List Typ
  texts:List (List UInt8)
  funcs:List Fun
def Img.row (x:Img):List AV:=[.sl .ext (List.map Typ.row x.types),.sl .ext (List.map rowS x.texts),.sl .ext (List.map Fun.row x.funcs)]
theorem Img.row_eq (x:Img):x.row = [.sl .ext (List.map Typ.row x.types),.sl .ext (List.map rowS x.texts),.sl .ext (List.map Fun.row x.funcs)]:=rfl
theorem Img.row_len (x:Img):x.row.length = 3:=rfl
def Img.zero:Img:=⟨[],[],[]⟩
abbrev Img.av (x:Img):AV:=.ag [.sl .ext (List.map Typ.row x.types),.sl .ext (List.map rowS x.texts),.sl .ext (List.map Fun.row x.funcs)]
structure Loc where
  slot:Int
  value:Val
def Loc.row (x:Loc):List AV:=[.i .i64 x.slot,.i .u8 x.value.kind,.i .i64 x.value.int,.s x.value.text,.sl .ext (List.map Val.row x.value.list),.b x.value.cut]
theorem Loc.row_eq (x:Loc):x.row = [.i .i64 x.slot,.i .u8 x.value.kind,.i .i64 x.value.int,.s x.value.text,.sl .ext (List.map Val.row x.value.list),.b x.value.cut]:=rfl
theorem Loc.row_len (x:Loc):x.row.length = 6:=rfl
def Loc.zero:Loc:=⟨0,Val.zero⟩
abbrev Loc.av (x:Loc):AV:=.ag [.i .i64 x.slot,.i .u8 x.value.kind,.i .i64 x.value.int,.s x.value.text,.sl .ext (List.map Val.row x.value.list),.b x.value.cut]
abbrev Loc.avo (x:Loc) (o:Own):AV:=.ag [.i .i64 x.slot,.i .u8 x.value.kind,.i .i64 x.value.int,.s x.value.text,.sl o (List.map Val.row x.value.list),.b x.value.cut]
structure Frm where
  func:Int
  pos:Int
  mode:Int
  locals:List Loc
def Frm.row (x:Frm):List AV:=[.i .i64 x.func,.i .i64 x.pos,.i .u64 x.mode,.sl .ext (List.map Loc.row x.locals)]
theorem Frm.row_eq (x:Frm):x.row = [.i .i64 x.func,.i .i64 x.pos,.i .u64 x.mode,.sl .ext (List.map Loc.row x.locals)]:=rfl
theorem Frm.row_len (x:Frm):x.row.length = 4:=rfl
def Frm.zero:Frm:=⟨0,0,0,[]⟩
abbrev Frm.av (x:Frm):AV:=.ag [.i .i64 x.func,.i .i64 x.pos,.i .u64 x.mode,.sl .ext (List.map Loc.row x.locals)]
abbrev Frm.avo (x:Frm) (o:Own):AV:=.ag [.i .i64 x.func,.i .i64 x.pos,.i .u64 x.mode,.sl o (List.map Loc.row x.locals)]
structure Pan where
  tag:Int
  value:Val
  flags:Int
def Pan.row (x:Pan):List AV:=[.i .u64 x.tag,.i .u8 x.value.kind,.i .i64 x.value.int,.s x.value.text,.sl .ext (List.map Val.row x.value.list),.b x.value.cut,.i .u64 x.flags]
theorem Pan.row_eq (x:Pan):x.row = [.i .u64 x.tag,.i .u8 x.value.kind,.i .i64 x.value.int,.s x.value.text,.sl .ext (List.map Val.row x.value.list),.b x.value.cut,.i .u64 x.flags]:=rfl
theorem Pan.row_len (x:Pan):x.row.length = 7:=rfl
def Pan.zero:Pan:=⟨0,Val.zero,0⟩
abbrev Pan.av (x:Pan):AV:=.ag [.i .u64 x.tag,.i .u8 x.value.kind,.i .i64 x.value.int,.s x.value.text,.sl .ext (List.map Val.row x.value.list),.b x.value.cut,.i .u64 x.flags]
abbrev Pan.avo (x:Pan) (o:Own):AV:=.ag [.i .u64 x.tag,.i .u8 x.value.kind,.i .i64 x.value.int,.s x.value.text,.sl o (List.map Val.row x.value.list),.b x.value.cut,.i .u64 x.flags]
structure Dfr where
  frame:Int
  func:Int
  hasArg:Bool
  arg:Val
def Dfr.row (x:Dfr):List AV:=[.i .i64 x.frame,.i .i64 x.func,.b x.hasArg,.i .u8 x.arg.kind,.i .i64 x.arg.int,.s x.arg.text,.sl .ext (List.map Val.row x.arg.list),.b x.arg.cut]
theorem Dfr.row_eq (x:Dfr):x.row = [.i .i64 x.frame,.i .i64 x.func,.b x.hasArg,.i .u8 x.arg.kind,.i .i64 x.arg.int,.s x.arg.text,.sl .ext (List.map Val.row x.arg.list),.b x.arg.cut]:=rfl
theorem Dfr.row_len (x:Dfr):x.row.length = 8:=rfl
def Dfr.zero:Dfr:=⟨0,0,false,Val.zero⟩
abbrev Dfr.av (x:Dfr):AV:=.ag [.i .i64 x.frame,.i .i64 x.func,.b x.hasArg,.i .u8 x.arg.kind,.i .i64 x.arg.int,.s x.arg.text,.sl .ext (List.map Val.row x.arg.list),.b x.arg.cut]
abbrev Dfr.avo (x:Dfr) (o:Own):AV:=.ag [.i .i64 x.frame,.i .i64 x.func,.b x.hasArg,.i .u8 x.arg.kind,.i .i64 x.arg.int,.s x.arg.text,.sl o (List.map Val.row x.arg.list),.b x.arg.cut]
structure Rou where
  status:Int
  key:Int
  frames:List Frm
  defers:List Dfr
  panics:List Pan
def Rou.row (x:Rou):List AV:=[.i .u8 x.status,.i .i64 x.key,.sl .ext (List.map Frm.row x.frames),.sl .ext (List.map Dfr.row x.defers),.sl .ext (List.map Pan.row x.panics)]
theorem Rou.row_eq (x:Rou):x.row = [.i .u8 x.status,.i .i64 x.key,.sl .ext (List.map Frm.row x.frames),.sl .ext (List.map Dfr.row x.defers),.sl .ext (List.map Pan.row x.panics)]:=rfl
theorem Rou.row_len (x:Rou):x.row.length = 5:=rfl
def Rou.zero:Rou:=⟨0,0,[],[],[]⟩
abbrev Rou.av (x:Rou):AV:=.ag [.i .u8 x.status,.i .i64 x.key,.sl .ext (List.map Frm.row x.frames),.sl .ext (List.map Dfr.row x.defers),.sl .ext (List.map Pan.row x.panics)]
structure Sta where
  outcome:Int
  failing:Int
  steps:Int
  routines:List Rou
def Sta.row (x:Sta):List AV:=[.i .u8 x.outcome,.i .i64 x.failing,.i .i64 x.steps,.sl .ext (List.map Rou.row x.routines)]
theorem Sta.row_eq (x:Sta):x.row = [.i .u8 x.outcome,.i .i64 x.failing,.i .i64 x.steps,.sl .ext (List.map Rou.row x.routines)]:=rfl
theorem Sta.row_len (x:Sta):x.row.length = 4:=rfl
def Sta.zero:Sta:=⟨0,0,0,[]⟩
abbrev Sta.av (x:Sta):AV:=.ag [.i .u8 x.outcome,.i .i64 x.failing,.i .i64 x.steps,.sl .ext (List.map Rou.row x.routines)]
abbrev Sta.avo (x:Sta) (o:Own):AV:=.ag [.i .u8 x.outcome,.i .i64 x.failing,.i .i64 x.steps,.sl o (List.map Rou.row x.routines)]
structure Qry where
  kind:Int
  g:Int
  k:Int
  key:Int
  name:List UInt8
def Qry.row (x:Qry):List AV:=[.i .u8 x.kind,.i .i64 x.g,.i .i64 x.k,.i .i64 x.key,.s x.name]
theorem Qry.row_eq (x:Qry):x.row = [.i .u8 x.kind,.i .i64 x.g,.i .i64 x.k,.i .i64 x.key,.s x.name]:=rfl
theorem Qry.row_len (x:Qry):x.row.length = 5:=rfl
def Qry.zero:Qry:=⟨0,0,0,0,[]⟩
abbrev Qry.av (x:Qry):AV:=.ag [.i .u8 x.kind,.i .i64 x.g,.i .i64 x.k,.i .i64 x.key,.s x.name]
end Go.AM

namespace Go.AM
open Go Go.RowKit
theorem u64_bd2 {n:Int} (h:IntKind.u64.min≤n∧n≤IntKind.u64.max):0≤n∧n < 18446744073709551616:=by
  have h1:IntKind.u64.min = 0:=rfl
  have h2:IntKind.u64.max = 18446744073709551615:=rfl
  omega
def IsI (T:TTab) (k:IntKind) (t:Nat):Prop:=∃i,T t = some i∧i.kind = .int k∧i.size = 1
def IsS (T:TTab) (t:Nat):Prop:=∃i,T t = some i∧i.kind = .str∧i.size = 1
def IsL (T:TTab) (t e:Nat):Prop:=∃i,T t = some i∧i.kind = .sl e∧i.size = 1
def TyVal (T:TTab) (t:Nat):Prop:=∃a b c d e,ValT T t a b c d e
def IsT (T:TTab) (t:Nat) (fs:List (Nat × Nat)) (n:Nat):Prop:=∃i,T t = some i∧i.kind = .st fs∧i.size = n
section
variable {T:TTab} {f t:Nat} {xs:List AV}
theorem HasC.isI {k:IntKind} (V:IsI T k t) (h:HasC T f t xs) :∃n,xs = [.i k n]∧k.min≤n∧n≤k.max:=by
  obtain ⟨i,h1,h2,_⟩:=V
  exact h.int h1 h2
theorem HasC.isS (V:IsS T t) (h:HasC T f t xs) :∃s,xs = [.s s]∧s.length≤maxLen:=by
  obtain ⟨i,h1,h2,_⟩:=V
  exact h.str h1 h2
theorem HasC.isL {e:Nat} (V:IsL T t e) {α:Type} {row:α→List AV} {p:α→Prop} {n:Nat} (ht :∃i,T e = some i∧i.size = n) (hp :∀g r,r.length = n→HasC T g e r→∃x,r = row x∧p x) (h:HasC T f t xs) :∃l:List α,xs = [.sl .ext (l.map row)]∧l.length≤maxLen∧∀x ∈ l,p x:=by
  obtain ⟨i,h1,h2,_⟩:=V
  obtain ⟨j,h3,h4⟩:=ht
  obtain ⟨g,rows,rfl,h5,h6,h7,h8⟩:=h.sl h1 h2
  obtain ⟨l,rfl,hl⟩:=rows_mapP (f:=row) (p:=p) fun r hr=>hp g r (by rw [h8 _ h3 r hr,h4]) (h7 r hr)
  exact ⟨l,h5,by simpa using h6,hl⟩
theorem HasC.isT {fs:List (Nat × Nat)} {n:Nat} (V:IsT T t fs n) (h:HasC T f t xs) :∃g,f = g + 1∧∀x ∈ fs,∀m,(∃j,T x.1 = some j∧j.size = m)→HasC T g x.1 ((xs.drop x.2).take m):=by
  obtain ⟨i,h1,h2,_⟩:=V
  obtain ⟨g,h3,h4⟩:=h.st h1 h2
  refine ⟨g,h3,fun x hx m ⟨j,h5,h6⟩=>?_⟩
  obtain ⟨j',h7,h8⟩:=h4 x hx
  rw [h5] at h7
  cases h7
  rw [← h6]; exact h8
theorem szI {k:IntKind} (V:IsI T k t) :∃j,T t = some j∧j.size = 1:=⟨V.choose,V.choose_spec.1,V.choose_spec.2.2⟩
theorem szT {fs:List (Nat × Nat)} {n:Nat} (V:IsT T t fs n) :∃j,T t = some j∧j.size = n:=⟨V.choose,V.choose_spec.1,V.choose_spec.2.2⟩
theorem szVal (V:TyVal T t) :∃j,T t = some j∧j.size = 5:=by
  obtain ⟨_,_,_,_,_,⟨i,h1,_,h2⟩,_⟩:=V
  exact ⟨i,h1,h2⟩
theorem HasC.isVal (V:TyVal T t) (f:Nat) (xs:List AV) (hl:xs.length = 5) (h:HasC T f t xs) :∃v:Val,xs = v.row∧Wf v:=by
  obtain ⟨_,_,_,_,_,V⟩:=V
  exact HasC.val V f xs hl h
theorem ArgOk.isT {α:Type} {row:α→List AV} {p:α→Prop} {fs:List (Nat × Nat)} {n:Nat} {x:AV} (V:IsT T t fs n) (hp :∀g r,r.length = n→HasC T g t r→∃x,r = row x∧p x) (h:ArgOk T t x) :∃v:α,x = .ag (row v)∧p v:=by
  obtain ⟨i,hi,hk,hs⟩:=V
  unfold ArgOk at h
  rw [hi] at h
  simp only [hk] at h
  obtain ⟨f,xs,rfl,h1,h2⟩:=h
  obtain ⟨v,rfl,hv⟩:=hp f xs (by rw [h1,hs]) h2
  exact ⟨v,rfl,hv⟩
end
structure WPan (x:Pan):Prop where
  tag:0≤x.tag∧x.tag < 18446744073709551616
  value:Wf x.value
  flags:0≤x.flags∧x.flags < 18446744073709551616
def TyPan (T:TTab) (t:Nat):Prop:=∃t0 t1 t2,IsT T t [(t0,0),(t1,1),(t2,6)] 7∧IsI T .u64 t0∧TyVal T t1∧IsI T .u64 t2
theorem szPan {T:TTab} {t:Nat} (V:TyPan T t) :∃j,T t = some j∧j.size = 7:=by
  obtain ⟨t0,t1,t2,V,v0,v1,v2⟩:=V
  exact szT V
theorem HasC.isPan {T:TTab} {t:Nat} (V:TyPan T t) (f:Nat) (xs:List AV) (hl:xs.length = 7) (h:HasC T f t xs) :∃x:Pan,xs = x.row∧WPan x:=by
  obtain ⟨t0,t1,t2,V,v0,v1,v2⟩:=V
  obtain ⟨g,rfl,hh⟩:=h.isT V
  have h0:=hh (t0,0) (by simp) 1 (szI v0)
  have h1:=hh (t1,1) (by simp) 5 (szVal v1)
  have h2:=hh (t2,6) (by simp) 1 (szI v2)
  match xs,hl with
  | [x0,x1,x2,x3,x4,x5,x6],_=>
    have h0:HasC T g t0 [x0]:=h0
    obtain ⟨a0,e,q0⟩:=h0.isI v0; cases e
    have h1:HasC T g t1 [x1,x2,x3,x4,x5]:=h1
    obtain ⟨a1,e,q1⟩:=HasC.isVal v1 g _ rfl h1; rw [Val.row_eq] at e; cases e
    have h2:HasC T g t2 [x6]:=h2
    obtain ⟨a2,e,q2⟩:=h2.isI v2; cases e
    exact ⟨⟨a0,a1,a2⟩,rfl,⟨u64_bd2 q0,q1,u64_bd2 q2⟩⟩
theorem ArgOk.isPan {T:TTab} {t:Nat} {x:AV} (V:TyPan T t) (h:ArgOk T t x) :∃v:Pan,x = v.av∧WPan v:=by
  have V0:=V
  obtain ⟨t0,t1,t2,V,v0,v1,v2⟩:=V0
  exact ArgOk.isT V (HasC.isPan ‹TyPan T t›) h
theorem ArgOk.isLs {T:TTab} {α:Type} {row:α→List AV} {p:α→Prop} {t e n:Nat} {x:AV} (V:IsL T t e) (ht :∃i,T e = some i∧i.size = n) (hp :∀g r,r.length = n→HasC T g e r→∃x,r = row x∧p x) (h:ArgOk T t x) :∃l:List α,x = .sl .ext (l.map row)∧l.length≤maxLen∧∀y ∈ l,p y:=by
  obtain ⟨f,h⟩:=h.plain V.choose_spec.1 (by rw [V.choose_spec.2.1]; intro fs h; cases h)
  obtain ⟨l,h1,h2⟩:=h.isL V ht hp
  injection h1 with h1
  exact ⟨l,h1,h2⟩
end Go.AM
