/- Parts of the proof: Am13, Am14, Am15, Am16, AmL, Am17, Am18, R0, Aw0, Aw1, S0, R1, R2. -/
import Derived.Test.YtbcdfamilcmjnaaGreatG0
import Derived.Orders
import Derived.Lib.SmallJoins
import Derived.Lib.SlBytesConst
import Derived.LoopN
import Derived.ScopeJumps
import Derived.Carry
import Derived.DataReads
import Derived.WalkKit
import Derived.ProofKit
import Derived.OpenShut
import Derived.Laws.Externs
import Derived.Lib.Bytealg
set_option linter.all false
/- Parts of the proof. -/
namespace Go.AM
open Go Go.RowKit
def Opd.rd:Opd→List Nat
 | .t n=>[n]
 | .c _=>[]
def rdO:Option Opd→List Nat
 | some x=>x.rd
 | none=>[]
def rds:List Opd→List Nat
 | []=>[]
 | x::r=>x.rd++rds r
def rdP {α:Type}:List (α × Opd)→List Nat
 | []=>[]
 | (_,x)::r=>x.rd++rdP r
def AOp.rd:AOp→List Nat
 | .mv x=>x.rd
 | .pick c a b=>c.rd++a.rd++b.rd
 | .alloc _=>[]
 | .box _ x=>x.rd
 | .boxf _ x=>x.rd
 | .build _ ps=>rdP (ps.map fun p=>(p.1,p.2.2))
 | .bslice _ _ ps=>rdP ps
 | .load _ _ a=>a.rd
 | .ldf _ _ a=>a.rd
 | .store _ a x=>a.rd++x.rd
 | .nilc x=>x.rd
 | .bin _ x y=>x.rd++y.rd
 | .beq _ x y=>x.rd++y.rd
 | .un _ x=>x.rd
 | .cvi _ x=>x.rd
 | .b2s x=>x.rd
 | .mkfn _ l=>rds l
 | .mkbf _ l=>rds l
 | .mkfz _ a x b=>rds a++x.rd++rds b
 | .mks _ _ l c=>l.rd++c.rd
 | .slS x lo hi=>x.rd++rdO lo++rdO hi
 | .slL _ x lo hi=>x.rd++rdO lo++rdO hi
 | .slA _ _ x lo hi=>x.rd++rdO lo++rdO hi
 | .fad _ x=>x.rd
 | .fld _ _ _ x=>x.rd
 | .iaL _ x i=>x.rd++i.rd
 | .iaA _ _ x i=>x.rd++i.rd
 | .ixA _ _ _ x i=>x.rd++i.rd
 | .ixS x i=>x.rd++i.rd
 | .ext _ x=>x.rd
 | .call _ _ l=>rds l
 | .callv f l=>f.rd++rds l
 | .len _ x=>x.rd
 | .app _ _ s x=>s.rd++x.rd
 | .appS s x=>s.rd++x.rd
 | .max x y=>x.rd++y.rd
 | .peq _ x y=>x.rd++y.rd
 | .cvp _ x=>x.rd
 | .aeq _ _ x y=>x.rd++y.rd
 | .lkp x i=>x.rd++i.rd
 | .bad=>[]
theorem ev_congr {σ τ:Sl} {x:Opd} (h :∀t∈x.rd,σ t=τ t):x.ev σ=x.ev τ:=by
 cases x with
 | t n=>exact h n (by simp [Opd.rd])
 | c v=>rfl
theorem bnds_congr {σ τ:Sl} {len cap:Nat} {lo hi:Option Opd} (h1 :∀t∈rdO lo,σ t=τ t) (h2 :∀t∈rdO hi,σ t=τ t):bnds σ len cap lo hi=bnds τ len cap lo hi:=by
 unfold bnds
 cases lo with
 | none=>
  cases hi with
  | none=>rfl
  | some y=>simp only [ev_congr (x:=y) h2]
 | some x=>
  cases hi with
  | none=>simp only [ev_congr (x:=x) h1]
  | some y=>simp only [ev_congr (x:=x) h1,ev_congr (x:=y) h2]
theorem evs_congr {σ τ:Sl} :∀{l:List Opd},(∀t∈rds l,σ t=τ t)→l.map (·.ev σ)=l.map (·.ev τ)
 | [],_=>rfl
 | x::r,h=>by
  simp only [List.map_cons]
  rw [ev_congr (x:=x) (fun t ht=>h t (by simp [rds,ht])),evs_congr (l:=r) (fun t ht=>h t (by simp [rds,ht]))]
theorem fillRows_congr {σ τ:Sl} {z:List AV} :∀{l:List (Nat × Opd)} {rows:List (List AV)},(∀t∈rdP l,σ t=τ t)→fillRows z σ rows l=fillRows z τ rows l
 | [],_,_=>rfl
 | (i,x)::r,rows,h=>by
  unfold fillRows
  rw [ev_congr (x:=x) (fun t ht=>h t (by simp [rdP,ht]))]
  split
  ·split
   ·exact fillRows_congr (fun t ht=>h t (by simp [rdP,ht]))
   ·rfl
  ·rfl
theorem fillCells_congr {σ τ:Sl} :∀{l:List (Nat × Nat × Opd)} {cs:List AV},(∀t∈rdP (l.map fun p=>(p.1,p.2.2)),σ t=τ t)→fillCells σ cs l=fillCells τ cs l
 | [],_,_=>rfl
 | (o,n,x)::r,cs,h=>by
  unfold fillCells
  rw [ev_congr (x:=x) (fun t ht=>h t (by simp [rdP,ht]))]
  dsimp only
  split
  ·exact fillCells_congr (fun t ht=>h t (by simp only [List.map_cons,rdP,List.mem_append];exact .inr ht))
  ·rfl
theorem apure_congr {key:Key} {ver:Nat} {σ τ:Sl} {op:AOp} (h :∀t∈op.rd,σ t=τ t):apure key ver σ op=apure key ver τ op:=by
 have l1 :∀{a b:List Nat},(∀t∈a++b,σ t=τ t)→(∀t∈a,σ t=τ t)∧(∀t∈b,σ t=τ t):=fun h=>⟨fun t ht=>h t (List.mem_append.2 (.inl ht)),fun t ht=>h t (List.mem_append.2 (.inr ht))⟩
 cases op with
 | mv x=>simp only [apure,ev_congr h]
 | pick c x y=>
  obtain ⟨h1,h2⟩:=l1 h
  obtain ⟨h3,h4⟩:=l1 h1
  simp only [apure,ev_congr h2,ev_congr h3,ev_congr h4]
 | build z ps=>simp only [apure,fillCells_congr h]
 | bslice z n ps=>simp only [apure];split<;>(try rfl);simp only [fillRows_congr h]
 | boxf n x=>simp only [apure,ev_congr h]
 | nilc x=>simp only [apure,ev_congr h]
 | bin op x y=>obtain ⟨h1,h2⟩:=l1 h;simp only [apure,ev_congr h1,ev_congr h2]
 | beq n x y=>obtain ⟨h1,h2⟩:=l1 h;simp only [apure,ev_congr h1,ev_congr h2]
 | un op x=>simp only [apure,ev_congr h]
 | cvi k x=>simp only [apure,ev_congr h]
 | b2s x=>simp only [apure,ev_congr h]
 | mkfn f l=>simp only [apure,evs_congr h]
 | mkbf f l=>simp only [apure,evs_congr h]
 | slS x lo hi=>
  obtain ⟨h1,h2⟩:=l1 h
  obtain ⟨h3,h4⟩:=l1 h1
  simp only [apure,ev_congr h3]
  split
  ·rw [bnds_congr h4 h2]
  ·rfl
 | slL n x lo hi=>
  obtain ⟨h1,h2⟩:=l1 h
  obtain ⟨h3,h4⟩:=l1 h1
  simp only [apure,ev_congr h3]
  split
  ·rw [bnds_congr h4 h2]
  ·rfl
 | fad o x=>simp only [apure,ev_congr h]
 | fld o n g x=>simp only [apure,ev_congr h]
 | iaL n x i=>obtain ⟨h1,h2⟩:=l1 h;simp only [apure,ev_congr h1,ev_congr h2]
 | iaA n m x i=>obtain ⟨h1,h2⟩:=l1 h;simp only [apure,ev_congr h1,ev_congr h2]
 | ixA n m g x i=>obtain ⟨h1,h2⟩:=l1 h;simp only [apure,ev_congr h1,ev_congr h2]
 | ixS x i=>obtain ⟨h1,h2⟩:=l1 h;simp only [apure,ev_congr h1,ev_congr h2]
 | ext k x=>simp only [apure,ev_congr h]
 | len s x=>cases s<;>simp only [apure,ev_congr h]
 | max x y=>obtain ⟨h1,h2⟩:=l1 h;simp only [apure,ev_congr h1,ev_congr h2]
 | peq n x y=>obtain ⟨h1,h2⟩:=l1 h;simp only [apure,ev_congr h1,ev_congr h2]
 | ldf n g x=>simp only [apure,ev_congr h]
 | aeq n ks x y=>obtain ⟨h1,h2⟩:=l1 h;simp only [apure,ev_congr h1,ev_congr h2]
 | lkp x i=>obtain ⟨h1,h2⟩:=l1 h;simp only [apure,ev_congr h1,ev_congr h2]
 | _=>rfl
theorem aexec_congr {C:CallF} {d site ver:Nat} {st:St} {σ τ:Sl} {op:AOp} (h :∀t∈op.rd,σ t=τ t):aexec C d site ver σ st op=aexec C d site ver τ st op:=by
 have l1 :∀{a b:List Nat},(∀t∈a++b,σ t=τ t)→(∀t∈a,σ t=τ t)∧(∀t∈b,σ t=τ t):=fun h=>⟨fun t ht=>h t (List.mem_append.2 (.inl ht)),fun t ht=>h t (List.mem_append.2 (.inr ht))⟩
 cases op with
 | load n g x=>simp only [aexec,ev_congr h]
 | store n x y=>obtain ⟨h1,h2⟩:=l1 h;simp only [aexec,ev_congr h1,ev_congr h2]
 | box n x=>simp only [aexec,ev_congr h]
 | mks z b x y=>obtain ⟨h1,h2⟩:=l1 h;simp only [aexec,ev_congr h1,ev_congr h2]
 | mkfz f a x b=>
  obtain ⟨h1,h2⟩:=l1 h
  obtain ⟨h3,h4⟩:=l1 h1
  simp only [aexec,ev_congr h4,evs_congr h3,evs_congr h2]
 | slA n m x lo hi=>
  obtain ⟨h1,h2⟩:=l1 h
  obtain ⟨h3,h4⟩:=l1 h1
  simp only [aexec,ev_congr h3,bnds_congr h4 h2]
 | app n b x y=>obtain ⟨h1,h2⟩:=l1 h;simp only [aexec,ev_congr h1,ev_congr h2]
 | appS x y=>obtain ⟨h1,h2⟩:=l1 h;simp only [aexec,ev_congr h1,ev_congr h2]
 | call p f l=>cases p<;>simp only [aexec,evs_congr h]
 | callv f l=>obtain ⟨h1,h2⟩:=l1 h;simp only [aexec,ev_congr h1,evs_congr h2]
 | cvp n x=>simp only [aexec,ev_congr h]
 | _=>simp only [aexec,apure_congr h]
inductive Cls where
 | none | ld | box | frz | own | all
 deriving DecidableEq
def AOp.cls:AOp→Cls
 | .load _ _ _=>.ld
 | .store _ _ _ | .box _ _=>.box
 | .slA _ _ _ _ _=>.frz
 | .mkfz _ _ _ _=>.all
 | .app _ _ _ _ | .appS _ _=>.own
 | .call true _ _ | .callv _ _ | .cvp _ _=>.all
 | _=>.none
def AI.rd (o:AI):List Nat:=o.op.rd++(match o.guard with | some (t,_)=>[t] | none=>[])
def clsOk:Cls→Cls→Bool
 | .none,_ | _,.none=>true
 | .ld,.ld=>true
 | .frz,.ld=>true
 | .own,.ld | .own,.box | .own,.frz | .ld,.own | .box,.own | .frz,.own=>true
 | _,_=>false
def slotsOk (x y:AI):Bool:=
 (match x.dst with | some d=>!y.rd.contains d&&y.dst != some d | none=>true)&&(match y.dst with | some d=>!x.rd.contains d | none=>true)
def commOk (x y:AI):Bool:=clsOk x.op.cls y.op.cls&&slotsOk x y
theorem aexec_none {C:CallF} {d site ver:Nat} {σ:Sl} {st:St} {op:AOp} (hc:op.cls=.none) {v:AV} {st1:St} (h:aexec C d site ver σ st op=some (v,st1)):st1=st∧∀st2,aexec C d site ver σ st2 op=some (v,st2):=by
 have pure :∀{op:AOp},(∀st,aexec C d site ver σ st op=(apure (d,site) ver σ op).map (·,st))→aexec C d site ver σ st op=some (v,st1)→st1=st∧∀st2,aexec C d site ver σ st2 op=some (v,st2):=by
  intro op he h
  rw [he] at h
  simp only [Option.map_eq_some_iff,Prod.mk.injEq] at h
  obtain ⟨x,h1,rfl,rfl⟩:=h
  exact ⟨rfl,fun st2=>by rw [he,h1];rfl⟩
 cases op with
 | load=>cases hc
 | store=>cases hc
 | box=>cases hc
 | slA=>cases hc
 | mkfz=>cases hc
 | app=>cases hc
 | appS=>cases hc
 | callv=>cases hc
 | cvp=>cases hc
 | call p f l=>
  cases p with
  | true=>cases hc
  | false=>
   simp only [aexec] at h ⊢
   split at h
   ·split at h
    ·simp only [Option.map_eq_some_iff,Prod.mk.injEq] at h
     obtain ⟨x,h1,rfl,rfl⟩:=h
     exact ⟨rfl,fun st2=>by simp [h1]⟩
    ·cases h
   ·cases h
 | mks z b l c=>
  simp only [aexec] at h ⊢
  split at h
  ·split at h
   ·split at h
    ·rename_i hcond;cases h;exact ⟨rfl,fun st2=>by rw [if_pos hcond]⟩
    ·cases h
   ·cases h
  ·cases h
 | _=>exact pure (fun st=>rfl) h
theorem aexec_ld {C:CallF} {d site ver:Nat} {σ:Sl} {st:St} {op:AOp} (hc:op.cls=.ld) {v:AV} {st1:St} (h:aexec C d site ver σ st op=some (v,st1)):st1=st∧∀st2,st2.bx=st.bx→aexec C d site ver σ st2 op=some (v,st2):=by
 cases op with
 | load n g x=>
  simp only [aexec,Option.map_eq_some_iff,Prod.mk.injEq] at h ⊢
  obtain ⟨x',h1,rfl,rfl⟩:=h
  refine ⟨rfl,fun st2 hb=>⟨x',?_,rfl,trivial⟩⟩
  unfold aload at h1 ⊢
  rw [hb]
  exact h1
 | call p=>cases p<;>cases hc
 | _=>cases hc
theorem aexec_box {C:CallF} {d site ver:Nat} {σ:Sl} {st:St} {op:AOp} (hc:op.cls=.box∨op.cls=.frz) {v:AV} {st1:St} (h:aexec C d site ver σ st op=some (v,st1)) :
  ∃bx',st1={ st with bx:=bx' }∧∀st2,st2.bx=st.bx→aexec C d site ver σ st2 op=some (v,{ st2 with bx:=bx' }):=by
 cases op with
 | store n x y=>
  simp only [aexec,Option.map_eq_some_iff,Prod.mk.injEq] at h ⊢
  obtain ⟨s',h1,rfl,rfl⟩:=h
  unfold astore at h1
  split at h1
  ·rename_i k v o hx
   split at h1
   ·rename_i v' cs hlk
    split at h1
    ·rename_i hcond
     cases h1
     refine ⟨_,rfl,fun st2 hb=>⟨_,?_,rfl,rfl⟩⟩
     unfold astore
     simp only [hx,hb,hlk]
     rw [if_pos hcond]
    ·cases h1
   ·cases h1
  ·cases h1
 | box n x=>
  simp only [aexec] at h ⊢
  split at h
  ·rename_i hcond
   cases h
   exact ⟨_,rfl,fun st2 hb=>by rw [if_pos hcond,hb]⟩
  ·cases h
 | slA n m x lo hi=>
  simp only [aexec] at h ⊢
  split at h
  ·rename_i k v o hx
   split at h
   ·rename_i v' cs hlk
    split at h
    ·rename_i hcond
     split at h
     ·rename_i cs' hs
      simp only [Option.map_eq_some_iff,Prod.exists,Prod.mk.injEq] at h
      obtain ⟨a,b,hb,rfl,rfl⟩:=h
      exact ⟨_,rfl,fun st2 hb2=>by simp only [hb2,hlk,hs,hb];rw [if_pos hcond];rfl⟩
     ·cases h
    ·cases h
   ·cases h
  ·cases h
 | call p=>cases p<;>rcases hc with hc | hc<;>cases hc
 | _=>rcases hc with hc | hc<;>cases hc
theorem aexec_own {C:CallF} {d site ver:Nat} {σ:Sl} {st:St} {op:AOp} (hc:op.cls=.own) {v:AV} {st1:St} (h:aexec C d site ver σ st op=some (v,st1)) :
  ∃ow',st1={ st with ow:=ow' }∧∀st2,st2.ow=st.ow→aexec C d site ver σ st2 op=some (v,{ st2 with ow:=ow' }):=by
 have key :∀{size bytes:Nat} {s:AV} {news:List (List AV)},aapp (d,site) ver size bytes s news st=some (v,st1)→∃ow',st1={ st with ow:=ow' }∧∀st2,st2.ow=st.ow→aapp (d,site) ver size bytes s news st2=some (v,{ st2 with ow:=ow' }):=by
  intro size bytes s news h
  unfold aapp at h
  split at h
  ·rename_i o rows
   split at h
   ·rename_i hcond
    split at h
    ·rename_i hem
     cases h
     refine ⟨st.ow,rfl,fun st2 hb=>?_⟩
     unfold aapp
     simp only []
     rw [if_pos hcond,if_pos hem,← hb]
    ·rename_i hem
     split at h
     ·cases h
     ·cases h
      refine ⟨_,rfl,fun st2 hb=>?_⟩
      unfold aapp
      simp only []
      rw [if_pos hcond,if_neg hem,hb]
     ·rename_i k v'
      split at h
      ·rename_i v2 n hlk
       split at h
       ·rename_i hc2
        cases h
        refine ⟨_,rfl,fun st2 hb=>?_⟩
        unfold aapp
        simp only [hb,hlk]
        rw [if_pos hcond,if_neg hem,if_pos hc2]
       ·cases h
      ·cases h
   ·cases h
  ·cases h
 cases op with
 | app n b x y=>
  simp only [aexec] at h ⊢
  split at h
  ·exact key h
  ·cases h
 | appS x y=>
  simp only [aexec] at h ⊢
  split at h
  ·exact key h
  ·cases h
 | call p=>cases p<;>cases hc
 | _=>cases hc
theorem updO_comm {σ:Sl} {d e:Option Nat} (v y:AV) (h :∀t,d=some t→e≠some t):updO (updO σ d v) e y=updO (updO σ e y) d v:=by
 cases d with
 | none=>rfl
 | some d=>
  cases e with
  | none=>rfl
  | some e=>
   have hne:d≠e:=fun he=>h d rfl (by rw [he])
   funext t
   simp only [updO,upd]
   by_cases h1:t=d
   ·subst h1;rw [if_neg (fun he=>hne he),if_pos rfl];simp
   ·by_cases h2:t=e
    ·subst h2;simp [h1]
    ·simp [h1,h2]
theorem updO_other {σ:Sl} {d:Option Nat} {v:AV} {t:Nat} (h:d≠some t):updO σ d v t=σ t:=by
 cases d with
 | none=>rfl
 | some d=>simp only [updO,upd];rw [if_neg (fun he=>h (by rw [he]))]
theorem aai_inv {C:CallF} {d site ver:Nat} {o:AI} {σ σ1:Sl} {st st1:St} (h:aai C d site ver o σ st=some (σ1,st1)) :
  ∃v,σ1=updO σ o.dst v∧((aexec C d site ver σ st o.op=some (v,st1)∧∀τ st2 v2 st3,(∀t∈o.rd,σ t=τ t)→aexec C d site ver τ st2 o.op=some (v2,st3)→aai C d site ver o τ st2=some (updO τ o.dst v2,st3))∨
   (st1=st∧∀τ st2,(∀t∈o.rd,σ t=τ t)→aai C d site ver o τ st2=some (updO τ o.dst v,st2))):=by
 unfold aai at h
 split at h
 ·rename_i hg
  simp only [Option.map_eq_some_iff,Prod.exists,Prod.mk.injEq] at h
  obtain ⟨v,st',h1,rfl,rfl⟩:=h
  refine ⟨v,rfl,.inl ⟨h1,fun τ st2 v2 st3 _ he=>?_⟩⟩
  unfold aai
  rw [hg]
  simp only [he,Option.map_some]
 ·rename_i t w hg
  have ht:t∈o.rd:=by unfold AI.rd;rw [hg];simp
  split at h
  ·rename_i x hx
   split at h
   ·rename_i hxw
    simp only [Option.map_eq_some_iff,Prod.exists,Prod.mk.injEq] at h
    obtain ⟨v,st',h1,rfl,rfl⟩:=h
    refine ⟨v,rfl,.inl ⟨h1,fun τ st2 v2 st3 hτ he=>?_⟩⟩
    unfold aai
    rw [hg]
    have:τ t=.b x:=by rw [← hτ t ht];exact hx
    simp only [this,if_pos hxw,he,Option.map_some]
   ·rename_i hxw
    cases h
    refine ⟨.tup [],rfl,.inr ⟨rfl,fun τ st2 hτ=>?_⟩⟩
    unfold aai
    rw [hg]
    have:τ t=.b x:=by rw [← hτ t ht];exact hx
    simp only [this,if_neg hxw]
  ·rename_i hx
   cases h
   refine ⟨.tup [],rfl,.inr ⟨rfl,fun τ st2 hτ=>?_⟩⟩
   unfold aai
   rw [hg]
   have:τ t=.tup []:=by rw [← hτ t ht];exact hx
   simp only [this]
  ·cases h
theorem slots_inv {x y:AI} (h:slotsOk x y=true):(∀t,x.dst=some t→t ∉ y.rd∧y.dst≠some t)∧(∀t,y.dst=some t→t ∉ x.rd):=by
 unfold slotsOk at h
 rw [Bool.and_eq_true] at h
 constructor
 ·intro t ht
  have h1:=h.1
  rw [ht] at h1
  simp only [Bool.and_eq_true,Bool.not_eq_true',bne_iff_ne,ne_eq] at h1
  exact ⟨fun hm=>(by have:=List.contains_iff_mem.2 hm;rw [h1.1] at this;cases this),h1.2⟩
 ·intro t ht
  have h1:=h.2
  rw [ht] at h1
  simp only [Bool.not_eq_true'] at h1
  intro hm
  have:=List.contains_iff_mem.2 hm
  rw [h1] at this
  cases this
theorem swap {C:CallF} {d s1 v1 s2 v2:Nat} {x y:AI} (hk:commOk x y=true) {σ σ1 σ2:Sl} {st st1 st2:St} (h1:aai C d s1 v1 x σ st=some (σ1,st1)) (h2:aai C d s2 v2 y σ1 st1=some (σ2,st2)) :
  ∃τ1 tt1,aai C d s2 v2 y σ st=some (τ1,tt1)∧aai C d s1 v1 x τ1 tt1=some (σ2,st2):=by
 unfold commOk at hk
 rw [Bool.and_eq_true] at hk
 obtain ⟨hcls,hsl⟩:=hk
 obtain ⟨hx,hy⟩:=slots_inv hsl
 obtain ⟨vx,rfl,ax⟩:=aai_inv h1
 obtain ⟨vy,rfl,ay⟩:=aai_inv h2
 have cy :∀t∈y.rd,updO σ x.dst vx t=σ t:=fun t ht=>updO_other (fun he=>(hx t he).1 ht)
 have cx :∀u:AV,∀t∈x.rd,σ t=updO σ y.dst u t:=fun u t ht=>(updO_other (fun he=>hy t he ht)).symm
 have cyop :∀t∈y.op.rd,updO σ x.dst vx t=σ t:=fun t ht=>cy t (by unfold AI.rd;simp [ht])
 have cxop :∀u:AV,∀t∈x.op.rd,σ t=updO σ y.dst u t:=fun u t ht=>cx u t (by unfold AI.rd;simp [ht])
 have hcomm:updO (updO σ x.dst vx) y.dst vy=updO (updO σ y.dst vy) x.dst vx:=updO_comm _ _ (fun t ht=>(hx t ht).2)
 rw [hcomm]
 -- each of the two steps,at another state
 rcases ax with ⟨ax,ax'⟩ | ⟨rfl,ax'⟩
 ·rcases ay with ⟨ay,ay'⟩ | ⟨rfl,ay'⟩
  ·rw [aexec_congr cyop] at ay
   have goY :∀{sta stb:St},aexec C d s2 v2 σ sta y.op=some (vy,stb)→aai C d s2 v2 y σ sta=some (updO σ y.dst vy,stb):=fun he=>ay' σ _ vy _ cy he
   have goX :∀{sta stb:St},aexec C d s1 v1 σ sta x.op=some (vx,stb)→aai C d s1 v1 x (updO σ y.dst vy) sta=some (updO (updO σ y.dst vy) x.dst vx,stb):=fun he=>ax' _ _ vx _ (cx vy) (by rw [← aexec_congr (cxop vy)];exact he)
   cases hcx:x.op.cls with
   | none=>
    obtain ⟨rfl,e1⟩:=aexec_none hcx ax
    exact ⟨_,_,goY ay,goX (e1 _)⟩
   | ld=>
    obtain ⟨rfl,e1⟩:=aexec_ld hcx ax
    cases hcy:y.op.cls with
    | none=>obtain ⟨rfl,_⟩:=aexec_none hcy ay;exact ⟨_,_,goY ay,goX ax⟩
    | ld=>obtain ⟨rfl,_⟩:=aexec_ld hcy ay;exact ⟨_,_,goY ay,goX ax⟩
    | own=>obtain ⟨ow',rfl,_⟩:=aexec_own hcy ay;exact ⟨_,_,goY ay,goX (e1 _ rfl)⟩
    | box=>rw [hcx,hcy] at hcls;cases hcls
    | frz=>rw [hcx,hcy] at hcls;cases hcls
    | all=>rw [hcx,hcy] at hcls;cases hcls
   | box=>
    obtain ⟨bx',rfl,e1⟩:=aexec_box (.inl hcx) ax
    cases hcy:y.op.cls with
    | none=>obtain ⟨rfl,e2⟩:=aexec_none hcy ay;exact ⟨_,_,goY (e2 _),goX ax⟩
    | own=>
     obtain ⟨ow',rfl,e2⟩:=aexec_own hcy ay
     exact ⟨_,_,goY (e2 st rfl),goX (e1 { st with ow:=ow' } rfl)⟩
    | ld=>rw [hcx,hcy] at hcls;cases hcls
    | box=>rw [hcx,hcy] at hcls;cases hcls
    | frz=>rw [hcx,hcy] at hcls;cases hcls
    | all=>rw [hcx,hcy] at hcls;cases hcls
   | frz=>
    obtain ⟨bx',rfl,e1⟩:=aexec_box (.inr hcx) ax
    cases hcy:y.op.cls with
    | none=>obtain ⟨rfl,e2⟩:=aexec_none hcy ay;exact ⟨_,_,goY (e2 _),goX ax⟩
    | own=>
     obtain ⟨ow',rfl,e2⟩:=aexec_own hcy ay
     exact ⟨_,_,goY (e2 st rfl),goX (e1 { st with ow:=ow' } rfl)⟩
    | ld=>
     -- a box less: what is read there is read before too
     cases hop:y.op with
     | load n g a=>
      rw [hop] at ay
      simp only [aexec,Option.map_eq_some_iff,Prod.mk.injEq] at ay
      obtain ⟨v',ay,rfl,rfl⟩:=ay
      have hload:aload st n g (a.ev σ)=some v':=by
       unfold aload at ay ⊢
       split at ay
       ·exact ay
       ·rename_i k ver o hp
        cases hxo:x.op with
        | slA n1 m1 x1 lo hi=>
         rw [hxo] at ax
         simp only [aexec] at ax
         split at ax
         ·rename_i k1 ver1 o1 hp1
          split at ax
          ·rename_i ver2 cs1 hlk
           split at ax
           ·split at ax
            ·simp only [Option.map_eq_some_iff,Prod.exists,Prod.mk.injEq] at ax
             obtain ⟨_,_,_,_,hst⟩:=ax
             have hbx:bx'=del st.bx k1:=by injection hst with _ h2 _;exact h2.symm
             subst hbx
             simp only [] at ay
             by_cases hkk:k=k1
             ·subst hkk
              have:lk (del st.bx k) k=none:=by
               unfold del
               have hf :∀l:List (Key × Nat × List AV),lk (l.filter fun x=>decide (x.1≠k)) k=none:=by
                intro l
                induction l with
                | nil=>rfl
                | cons z r ih=>
                 obtain ⟨k2,z⟩:=z
                 simp only [List.filter_cons]
                 split
                 ·rename_i hne
                  simp only [decide_eq_true_eq] at hne
                  simp only [lk,if_neg hne,ih]
                 ·exact ih
               exact hf _
              rw [this] at ay
              cases ay
             ·have:lk (del st.bx k1) k=lk st.bx k:=by
               unfold del
               have hf :∀l:List (Key × Nat × List AV),lk (l.filter fun x=>decide (x.1≠k1)) k=lk l k:=by
                intro l
                induction l with
                | nil=>rfl
                | cons z r ih=>
                 obtain ⟨k2,z⟩:=z
                 simp only [List.filter_cons]
                 split
                 ·simp only [lk,ih]
                 ·rename_i hne
                  simp only [decide_eq_true_eq,ne_eq,Decidable.not_not] at hne
                  subst hne
                  rw [ih]
                  simp only [lk]
                  rw [if_neg (fun e=>hkk e.symm)]
               exact hf _
              rw [this] at ay
              exact ay
            ·cases ax
           ·cases ax
          ·cases ax
         ·cases ax
        | call p f l=>rw [hxo] at hcx;cases p<;>cases hcx
        | _=>rw [hxo] at hcx;cases hcx
       ·cases ay
      have:aexec C d s2 v2 σ st y.op=some (v',st):=by rw [hop];simp only [aexec,hload,Option.map_some]
      exact ⟨_,_,goY this,goX (e1 _ rfl)⟩
     | call p f l=>rw [hop] at hcy;cases p<;>cases hcy
     | _=>rw [hop] at hcy;cases hcy
    | box=>rw [hcx,hcy] at hcls;cases hcls
    | frz=>rw [hcx,hcy] at hcls;cases hcls
    | all=>rw [hcx,hcy] at hcls;cases hcls
   | own=>
    obtain ⟨ow',rfl,e1⟩:=aexec_own hcx ax
    cases hcy:y.op.cls with
    | none=>obtain ⟨rfl,e2⟩:=aexec_none hcy ay;exact ⟨_,_,goY (e2 _),goX ax⟩
    | ld=>
     obtain ⟨rfl,e2⟩:=aexec_ld hcy ay
     exact ⟨_,_,goY (e2 st rfl),goX ax⟩
    | box=>
     obtain ⟨bx',rfl,e2⟩:=aexec_box (.inl hcy) ay
     exact ⟨_,_,goY (e2 st rfl),goX (e1 { st with bx:=bx' } rfl)⟩
    | frz=>
     obtain ⟨bx',rfl,e2⟩:=aexec_box (.inr hcy) ay
     exact ⟨_,_,goY (e2 st rfl),goX (e1 { st with bx:=bx' } rfl)⟩
    | own=>rw [hcx,hcy] at hcls;cases hcls
    | all=>rw [hcx,hcy] at hcls;cases hcls
   | all=>
    cases hcy:y.op.cls with
    | none=>obtain ⟨rfl,e2⟩:=aexec_none hcy ay;exact ⟨_,_,goY (e2 _),goX ax⟩
    | ld=>rw [hcx,hcy] at hcls;cases hcls
    | own=>rw [hcx,hcy] at hcls;cases hcls
    | box=>rw [hcx,hcy] at hcls;cases hcls
    | frz=>rw [hcx,hcy] at hcls;cases hcls
    | all=>rw [hcx,hcy] at hcls;cases hcls
  ·exact ⟨_,_,ay' σ st cy,ax' _ _ vx _ (cx vy) (by rw [← aexec_congr (cxop vy)];exact ax)⟩
 ·rcases ay with ⟨ay,ay'⟩ | ⟨rfl,ay'⟩
  ·rw [aexec_congr cyop] at ay
   exact ⟨_,_,ay' σ _ vy _ cy ay,ax' _ _ (cx vy)⟩
  ·exact ⟨_,_,ay' σ _ cy,ax' _ _ (cx vy)⟩
theorem ahead {C:CallF} {d id base:Nat} {ops:List AI} {i:Nat} {y:AI} (hi:ops[i]?=some y) {post:List Nat} :∀(pre:List Nat) (_ :∀j∈pre,∀x,ops[j]?=some x→commOk x y=true) {σ σ2:Sl} {st st2:St},
  aregO C d id base ops (pre++i::post) σ st=some (σ2,st2)→aregO C d id base ops (i::(pre++post)) σ st=some (σ2,st2)
 | [],_,σ,σ2,st,st2,h=>h
 | j::pre,hp,σ,σ2,st,st2,h=>by
  simp only [List.cons_append,aregO] at h ⊢
  cases hj:ops[j]? with
  | none=>
   simp only [hj] at h ⊢
   have:=ahead hi pre (fun j' hj'=>hp j' (by simp [hj'])) h
   simpa only [aregO,hj] using this
  | some x=>
   simp only [hj] at h
   split at h
   ·rename_i σ1 st1 h1
    have h3:=ahead hi pre (fun j' hj'=>hp j' (by simp [hj'])) h
    simp only [aregO,hi] at h3
    split at h3
    ·rename_i σ3 st3 h4
     obtain ⟨τ1,tt1,h5,h6⟩:=swap (hp j (by simp) x hj) h1 h4
     simp only [hi,h5,hj,h6]
     exact h3
    ·cases h3
   ·cases h
end Go.AM

/- Parts of the proof. -/
namespace Go.AM
open Go Go.RowKit Go.BigFrame
structure Run (G G':Gh) (w0:World) (st st':St) (w':World) (d:Nat):Prop where
 le:G.Le G'
 rel:Rel G' w0 st' w'
 nx:st.nx≤st'.nx
 old :∀k v,v<st.nx→G'.ρ k v=G.ρ k v∧G'.ω k v=G.ω k v
 pend :∀k v cs,k.1<d→v<st.nx→G.ρ k v=none→lk st.bx k=some (v,cs)→lk st'.bx k=some (v,cs)
 newH :∀g o v,G'.H g o=some v→G.H g o=some v∨w0.heap.size≤g
section
variable {G G1 G2:Gh} {w0 w w1 w2:World} {st st1 st2:St} {d:Nat}
theorem Run.refl (hR:Rel G w0 st w):Run G G w0 st st w d:=
 ⟨.refl G,hR,Nat.le_refl _,fun _ _ _=>⟨rfl,rfl⟩,fun _ _ _ _ _ _ h=>h,fun _ _ _ h=>.inl h⟩
theorem Run.trans (h:Run G G1 w0 st st1 w1 d) (k:Run G1 G2 w0 st1 st2 w2 d):Run G G2 w0 st st2 w2 d:=by
 refine ⟨h.le.trans k.le,k.rel,Nat.le_trans h.nx k.nx,fun q v hv=>?_,fun q v cs hq hv hn hl=>?_,fun g o v hv=>?_⟩
 ·have h1:=h.old q v hv
  have h2:=k.old q v (Nat.lt_of_lt_of_le hv h.nx)
  exact ⟨h2.1.trans h1.1,h2.2.trans h1.2⟩
 ·exact k.pend q v cs hq (Nat.lt_of_lt_of_le hv h.nx) (by rw [(h.old q v hv).1];exact hn) (h.pend q v cs hq hv hn hl)
 ·rcases k.newH g o v hv with h' | h'
  ·exact h.newH g o v h'
  ·exact .inr h'
theorem Run.step {site ver:Nat} (h:Run G G1 w0 st st1 w1 d) (k:Step G1 G2 w0 st1 st2 w2 d site ver) (hv:st.nx≤ver):Run G G2 w0 st st2 w2 d:=by
 refine ⟨h.le.trans k.le,k.rel,Nat.le_trans h.nx k.nx,fun q v hv'=>?_,fun q v cs hq hv' hn hl=>?_,fun g o v hv'=>?_⟩
 ·have h1:=h.old q v hv'
  have h2:=k.old q v (Nat.lt_of_lt_of_le hv' h.nx) (fun he=>by injection he with _ he;omega)
  exact ⟨h2.1.trans h1.1,h2.2.trans h1.2⟩
 ·exact k.pend q v cs (Nat.le_of_lt hq) (Nat.lt_of_lt_of_le hv' h.nx) (fun he=>by rw [he] at hq;exact Nat.lt_irrefl _ hq) (by rw [(h.old q v hv').1];exact hn) (h.pend q v cs hq hv' hn hl)
 ·rcases k.newH g o v hv' with h' | h'
  ·exact h.newH g o v h'
  ·exact .inr h'
theorem Step.of_run {site ver:Nat} (h:Run G G1 w0 st st1 w1 (d+1)):Step G G1 w0 st st1 w1 d site ver:=
 ⟨h.le,h.rel,h.nx,fun k v hv _=>h.old k v hv,fun k v cs hk hv _ hn hl=>h.pend k v cs (by omega) hv hn hl,h.newH⟩
end
def Goes (P:Program) (f:FuncId) (vals:Array Value) (w:World) (K:Value→World→Prop):Prop:=
 ((callFunc f vals).run P w=.ok (.enter f vals) w∧Calls P f vals w fun e w'=>match e with | .returned v=>K v w' | _=>False)∨
 ∃v w',(callFunc f vals).run P w=.ok (.value v) w'∧K v w'
theorem Goes.mono {P:Program} {f:FuncId} {vals:Array Value} {w:World} {K K':Value→World→Prop} (h:Goes P f vals w K) (hk :∀v w',K v w'→K' v w'):Goes P f vals w K':=by
 rcases h with ⟨h1,h2⟩ | ⟨v,w',h1,h2⟩
 ·refine .inl ⟨h1,h2.mono fun e w' he=>?_⟩
  cases e with
  | returned v=>exact hk _ _ he
  | panicked c=>exact he
  | outgrown=>exact he
 ·exact .inr ⟨v,w',h1,hk _ _ h2⟩
def CallOk (P:Program) (fm:FM) (C:CallF):Prop:=
 ∀d c args st r st',C d c args st=some (r,st')→∀f,fm f=some c→∀G w0 w vals,G.fm=fm→Rel G w0 st w→Rs G args vals→
  Goes P f vals.toArray w fun v w'=>∃G',R G' r v∧Run G G' w0 st st' w' d
def dstOk (nt:Nat):Option Nat→Bool
 | some t=>decide (t<nt)
 | none=>true
def splitFz (fz:List Nat):List Opd→Option (List Opd × Opd × List Opd)
 | []=>none
 | .t n::r=>if fz.contains (1000000+n)=true then some ([],.t n,r) else (splitFz fz r).map fun y=>(.t n::y.1,y.2)
 | .c v::r=>(splitFz fz r).map fun y=>(.c v::y.1,y.2)
theorem splitFz_eq {fz:List Nat} :∀{l:List Opd} {y:List Opd × Opd × List Opd},splitFz fz l=some y→l=y.1++y.2.1::y.2.2
 | [],y,h=>by cases h
 | .t n::r,y,h=>by
  unfold splitFz at h
  split at h
  ·cases h;rfl
  ·rw [Option.map_eq_some_iff] at h
   obtain ⟨z,h1,rfl⟩:=h
   rw [splitFz_eq h1];rfl
 | .c v::r,y,h=>by
  unfold splitFz at h
  rw [Option.map_eq_some_iff] at h
  obtain ⟨z,h1,rfl⟩:=h
  rw [splitFz_eq h1];rfl
def cOpZ (X:Cx) (o:Oper):Option AOp:=
 match cOp X o.op with
 | some (.box n x)=>(match o.dst with
  | some t=>if X.fz.contains t=true then some (.boxf n x) else some (.box n x)
  | none=>some (.box n x))
 | some (.mkfn f l)=>(match splitFz X.fz l with
  | some (a,x,b)=>some (.mkfz f a x b)
  | none=>some (.mkfn f l))
 | none=>some .bad
 | r=>r
theorem cOpZ_inv {X:Cx} {o:Oper} {op:AOp} (h:cOpZ X o=some op):cOp X o.op=some op∨(∃n x,op=.boxf n x∧cOp X o.op=some (.box n x))∨(∃f a x b,op=.mkfz f a x b∧cOp X o.op=some (.mkfn f (a++x::b)))∨op=.bad:=by
 unfold cOpZ at h
 split at h
 ·rename_i n x hx
  split at h
  ·split at h
   ·cases h;exact .inr (.inl ⟨_,_,rfl,hx⟩)
   ·cases h;exact .inl hx
  ·cases h;exact .inl hx
 ·rename_i f l hx
  split at h
  ·rename_i a x b hs
   cases h
   exact .inr (.inr (.inl ⟨_,_,_,_,rfl,by rw [hx,splitFz_eq hs]⟩))
  ·cases h;exact .inl hx
 ·cases h;exact .inr (.inr (.inr rfl))
 ·exact .inl h
def cOper (X:Cx) (nt:Nat) (ops:Array Oper) (o:Oper):Option AI:=
 match cOpZ X o with
 | none=>none
 | some op=>
  if dstOk nt o.dst=true then
   match o.guard with
   | none=>some ⟨o.dst,op,none⟩
   | some (j,w)=>match (ops[j]?).bind (·.dst) with | some t=>some ⟨o.dst,op,some (t,w)⟩ | none=>none
  else none
section
variable {P:Program} {G:Gh} {w0 w:World} {st:St} {X:Cx}
theorem strip_ok {H:Hp} {ρ:Key→Nat→Option Nat} {ω:Key→Nat→Option (Nat × Nat × Nat)} {G:Gh} {M:Nat→Option (List (List UInt8 × Int))} (hH:HLe G.H H) (hM :∀b l,G.M b=some l→M b=some l) :∀{a:AV} {v:Value} {b:AV},R G a v→a.strip=some b→∀fm,R ⟨H,ρ,ω,fm,M⟩ b v:=by
 intro a v b h
 revert b
 have lists :∀{cs:List AV} {us:List Value},cs.length=us.length→(∀(j:Nat) a u,cs[j]?=some a→us[j]?=some u→∀{b:AV},a.strip=some b→∀fm,R ⟨H,ρ,ω,fm,M⟩ b u)→∀{l:List AV},AV.strips cs=some l→∀fm,Rs ⟨H,ρ,ω,fm,M⟩ l us:=by
  intro cs
  induction cs with
  | nil=>
   intro us hl _ l h fm
   cases us with
   | nil=>cases h;exact ⟨rfl,by simp⟩
   | cons=>simp at hl
  | cons a cs ih=>
   intro us hl hj l h fm
   cases us with
   | nil=>simp at hl
   | cons x us=>
    rw [AV.strips] at h
    split at h
    ·rename_i w1 l1 h1 h2
     cases h
     have hr:=ih (by simpa using hl) (fun j a u h1 h2=>hj (j+1) a u (by simpa using h1) (by simpa using h2)) h2 fm
     refine ⟨by simp [hr.1],fun j a' u' ha hu=>?_⟩
     cases j with
     | zero=>
      simp at ha hu
      subst ha;subst hu
      exact hj 0 a x rfl rfl h1 fm
     | succ j=>exact hr.2 j a' u' (by simpa using ha) (by simpa using hu)
    ·cases h
 induction h with
 | fz a v h=>
  intro b hb fm
  have h':=h.mono hH
  cases h with
  | sl rows A cap size g off us hA hcap hs hH' hF=>simp only [AV.strip] at hb;cases hb;exact .fz _ _ h'
  | _=>simp only [AV.strip] at hb;cases hb;exact .fz _ _ h'
 | sl o rows A n cap h ho=>intro b hb fm;simp only [AV.strip] at hb;cases hb;exact .fz _ _ (h.mono hH)
 | p k ver off g h=>intro b hb;simp only [AV.strip] at hb;cases hb
 | bf c f hf cs us hl _ _=>intro b hb;simp only [AV.strip] at hb;cases hb
 | mp l b h=>intro b' hb fm;simp only [AV.strip] at hb;cases hb;exact .mp l b (hM _ _ h)
 | fp cs us g off h1 h2=>intro b hb fm;simp only [AV.strip] at hb;cases hb;exact .fp cs us g off (fun j a h=>hH _ _ _ (h1 j a h)) (fun j a h=>(h2 j a h).mono hH)
 | ag cs us hl _ ih=>
  intro b hb fm
  rw [AV.strip] at hb
  split at hb
  ·rename_i l h1
   cases hb
   have:=lists hl (fun j a u h1 h2=>ih j a u h1 h2) h1 fm
   exact .ag l us this.1 this.2
  ·cases hb
 | tup cs us hl _ ih=>
  intro b hb fm
  rw [AV.strip] at hb
  split at hb
  ·rename_i l h1
   cases hb
   have:=lists hl (fun j a u h1 h2=>ih j a u h1 h2) h1 fm
   exact .tup l us this.1 this.2
  ·cases hb
 | fn c f hf cs us hl _ ih=>intro b hb;simp only [AV.strip] at hb;cases hb
theorem strips_ok {H:Hp} {ρ:Key→Nat→Option Nat} {ω:Key→Nat→Option (Nat × Nat × Nat)} {G:Gh} {M:Nat→Option (List (List UInt8 × Int))} (hH:HLe G.H H) (hM :∀b l,G.M b=some l→M b=some l) :∀{cs:List AV} {us:List Value},Rs G cs us→∀{l:List AV},AV.strips cs=some l→∀fm,Rs ⟨H,ρ,ω,fm,M⟩ l us:=by
 intro cs
 induction cs with
 | nil=>
  intro us h l hl fm
  cases us with
  | nil=>cases hl;exact ⟨rfl,by simp⟩
  | cons=>have:=h.1;simp at this
 | cons a cs ih=>
  intro us h l hl fm
  cases us with
  | nil=>have:=h.1;simp at this
  | cons x us=>
   rw [AV.strips] at hl
   split at hl
   ·rename_i w1 l1 h1 h2
    cases hl
    have hr:=ih (us:=us) ⟨by simpa using h.1,fun j a u h1 h2=>h.2 (j+1) a u (by simpa using h1) (by simpa using h2)⟩ h2 fm
    refine ⟨by simp [hr.1],fun j a' u' ha hu=>?_⟩
    cases j with
    | zero=>
     simp at ha hu
     subst ha;subst hu
     exact strip_ok hH hM (h.2 0 a x rfl rfl) h1 fm
    | succ j=>exact hr.2 j a' u' (by simpa using ha) (by simpa using hu)
   ·cases hl
theorem pure_call {C:CallF} (hC:CallOk P G.fm C) (hR:Rel G w0 st w) {c f:Nat} (hf:G.fm f=some c) {args vs:List AV} {vals:List Value} (hv:Rs G args vals) (hs:AV.strips args=some vs) {r r':AV} {st':St} (h:C 0 c vs st0=some (r,st')) (hr:r.strip=some r') {d site ver:Nat} :
  Goes P f vals.toArray w fun v w'=>∃G',R G' r' v∧Step G G' w0 st st w' d site ver:=by
 have hR0:Rel ⟨G.H,fun _ _=>none,fun _ _=>none,G.fm,G.M⟩ w st0 w:=by
  refine ⟨Below.refl _ _,hR.ext,?_,?_,?_,?_,fun _ _ _=>⟨rfl,rfl⟩,fun k ver cs g _ h1=>?_,fun k ver n _ h1=>?_,hR.mp⟩
  rotate_left 4
  ·simp [st0,lk] at h1
  ·simp [st0,lk] at h1
  ·intro k ver cs g h1;simp [st0,lk] at h1
  ·intro k k' ver ver' cs cs' g h1;simp [st0,lk] at h1
  ·intro k ver n h1;simp [st0,lk] at h1
  ·intro k k' ver ver' n n' g cap size cap' size' h1;simp [st0,lk] at h1
 refine (hC 0 c vs st0 r st' h f hf ⟨G.H,fun _ _=>none,fun _ _=>none,G.fm,G.M⟩ w w vals rfl hR0 (strips_ok (fun _ _ _ h=>h) (fun _ _ h=>h) hv hs G.fm)).mono ?_
 rintro v w' ⟨G',h1,h2⟩
 have hle:HLe G.H G'.H:=h2.le.H
 refine ⟨⟨G'.H,G.ρ,G.ω,G.fm,G'.M⟩,strip_ok (G:=G') (fun _ _ _ h=>h) (fun _ _ h=>h) h1 hr G.fm,(Step.grow hR h2.rel.bel hle fun g o v hg=>?_).setM h2.le.M h2.rel.mp⟩
 rcases h2.newH g o v hg with h' | h'
 ·exact .inl h'
 ·exact .inr ⟨h',h2.rel.ext g o v hg⟩
theorem Rs.append {cs cs':List AV} {us us':List Value} (h:Rs G cs us) (h':Rs G cs' us'):Rs G (cs++cs') (us++us'):=by
 refine ⟨by simp [h.1,h'.1],fun j a u ha hu=>?_⟩
 rcases Nat.lt_or_ge j cs.length with hj | hj
 ·rw [List.getElem?_append_left hj] at ha
  rw [List.getElem?_append_left (by rw [← h.1];exact hj)] at hu
  exact h.2 j a u ha hu
 ·rw [List.getElem?_append_right hj] at ha
  rw [List.getElem?_append_right (by rw [← h.1];exact hj)] at hu
  rw [← h.1] at hu
  exact h'.2 _ a u ha hu
end
end Go.AM

/- Parts of the proof. -/
namespace Go.AM
open Go Go.RowKit Go.BigFrame
section
variable {P:Program} {G:Gh} {w0 w:World} {st:St} {X:Cx}
theorem call_ok {C:CallF} (hfm:X.fm=G.fm) (hC:CallOk P X.fm C) {nt:Nat} {σ:Sl} {a:Act} (hA:RelA G nt σ a) (hR:Rel G w0 st w) {o:Oper} {aop:AOp} (hc:cOp X o.op=some aop) (hn:aop.isCall=true) {d site ver:Nat} {r:AV} {st':St} (h:aexec C d site ver σ st aop=some (r,st')) :
  ∃f vals,(execOp a.eval o).run P w=(callFunc f vals).run P w∧Goes P f vals w fun v w'=>∃G',R G' r v∧Step G G' w0 st st' w' d site ver:=by
 rw [hfm] at hC
 obtain ⟨dst,op,type,pos,after,guard⟩:=o
 simp only at hc
 cases op with
 | call k=>
  obtain ⟨callee,args,tys⟩:=k
  cases callee with
  | builtin b=>
   exfalso
   simp only [cOp,cCall] at hc
   unfold cBuiltin at hc
   repeat' split at hc
   all_goals first | (cases hc;done) | (cases hc;simp [AOp.isCall] at hn)
  | invoke=>simp [cOp,cCall] at hc
  | value x=>
   simp only [cOp,cCall] at hc
   split at hc
   ·rename_i c l hx hl
    cases hc
    rw [hfm] at hx hl
    have h1:=cOpd_ok hA hx
    obtain ⟨f,us,hf,hv,hus⟩:=R.fn_inv h1
    have hus':us=[]:=by
     have:=hus.1
     cases us with
     | nil=>rfl
     | cons=>simp at this
    subst hus'
    have h2:=cOpds_ok hA hl
    refine ⟨f,(args.toList.map a.eval).toArray,?_,?_⟩
    ·simp only [execOp,resolve,hv,Deferred.ofValue,invoke,Sem.run_bind,Sem.run_pure,Result.andThen_ok]
     congr 2
     apply Array.ext'
     simp
    ·cases hp:X.ptr c with
     | true=>
      rw [hp] at h
      simp only [aexec] at h
      refine (hC (d+1) c _ st r st' h f hf G w0 w _ rfl hR h2).mono ?_
      rintro v w' ⟨G',hr,hrun⟩
      exact ⟨G',hr,.of_run hrun⟩
     | false=>
      rw [hp] at h
      simp only [aexec] at h
      split at h
      ·rename_i vs hs
       split at h
       ·rename_i r0 s0 h0
        simp only [Option.map_eq_some_iff,Prod.mk.injEq] at h
        obtain ⟨r',hr',rfl,rfl⟩:=h
        exact pure_call hC hR hf h2 hs h0 hr'
       ·cases h
      ·cases h
   ·rename_i n l hx hl
    cases hc
    rw [hfm] at hx hl
    have h1:R G ((Opd.t n).ev σ) (a.eval x):=cOpd_ok hA hx
    have h2:=cOpds_ok hA hl
    simp only [aexec] at h
    generalize (Opd.t n).ev σ=fv at h h1
    revert h1
    split at h
    ·rename_i g cap
     intro h1
     obtain ⟨f,us,hf,hv,hus⟩:=R.fn_inv h1
     refine ⟨f,(args.toList.map a.eval++us).toArray,?_,?_⟩
     ·simp only [execOp,resolve,hv,Deferred.ofValue,invoke,Sem.run_bind,Sem.run_pure,Result.andThen_ok]
      congr 2
      apply Array.ext'
      simp
     ·refine (hC (d+1) g _ st r st' h f hf G w0 w _ rfl hR (h2.append hus)).mono ?_
      rintro v w' ⟨G',hr,hrun⟩
      exact ⟨G',hr,.of_run hrun⟩
    ·rename_i g cs
     intro h1
     obtain ⟨f,us,hf,hv,hus⟩:=R.bf_inv h1
     refine ⟨f,(us++args.toList.map a.eval).toArray,?_,?_⟩
     ·simp only [execOp,resolve,hv,Deferred.ofValue,invoke,Sem.run_bind,Sem.run_pure,Result.andThen_ok]
      congr 2
      apply Array.ext'
      simp
     ·refine (hC (d+1) g _ st r st' h f hf G w0 w _ rfl hR (hus.append h2)).mono ?_
      rintro v w' ⟨G',hr,hrun⟩
      exact ⟨G',hr,.of_run hrun⟩
    ·cases h
   ·cases hc
 | _=>
  exfalso
  simp only [cOp] at hc
  repeat' split at hc
  all_goals first | (cases hc;done) | (cases hc;simp [AOp.isCall] at hn;done) | (rename_i hq;cases hq)
theorem boxf_ok (hR:Rel G w0 st w) {t:TypeId} {x:AV} {vx:Value} (hx:R G x vx) {cs:List AV} (hs:softs x.cells=some cs) {d site ver:Nat} :
  ∃v w' G',(Instr.box t vx).run P w=.ok v w'∧R G' (.fp cs) v∧Step G G' w0 st st w' d site ver:=by
 obtain ⟨us,hus,hr,_,h1⟩:=hx.cells (softs_one hs)
 have hle:HLe G.H (fun g o=>if g=w.heap.size then us[o]? else G.H g o):=fun g o v h=>by
  show (if g=w.heap.size then _ else G.H g o)=some v
  rw [if_neg (by have:=hR.Hlt h;omega)]
  exact h
 have hst:Step G ⟨fun g o=>if g=w.heap.size then us[o]? else G.H g o,G.ρ,G.ω,G.fm,G.M⟩ w0 st st (w.alloc (.cells us.toArray t)) d site ver:=by
  refine Step.grow hR ((Below.refl _ _).alloc (Nat.le_refl _) _) hle fun g o v h=>?_
  have h':(if g=w.heap.size then us[o]? else G.H g o)=some v:=h
  split at h'
  ·rename_i hg
   subst hg
   refine .inr ⟨Nat.le_refl _,?_,h1 _ (List.mem_of_getElem? h')⟩
   have:=heap_alloc_new w (.cells us.toArray t)
   simp only [World.cell?,this]
   simpa using h'
  ·exact .inl h'
 have hlen:cs.length=us.length:=by rw [softs_len hs];exact hr.1
 have hget :∀(j:Nat) a,cs[j]?=some a→us[j]?=some (us.getD j undef):=fun j a h=>by
  have hj:j<us.length:=by
   rcases Nat.lt_or_ge j cs.length with h' | h'
   ·omega
   ·rw [List.getElem?_eq_none h'] at h;cases h
  rw [List.getD_eq_getElem?_getD,List.getElem?_eq_getElem hj];rfl
 refine ⟨_,_,_,?_,.fp cs (fun j=>us.getD j undef) w.heap.size 0 (fun j a h=>?_) (fun j a h=>?_),hst⟩
 ·simp only [Instr.box,newVar,newRow,Sem.run_bind,run_newObj,Result.andThen_ok,Sem.run_pure,hus]
  rfl
 ·show (if w.heap.size=w.heap.size then us[0+j]? else _)=_
  rw [if_pos rfl,Nat.zero_add]
  exact hget j a h
 ·exact (softs_ok hs hr j a _ h (hget j a h)).mono hle
theorem boxf_op (hfm:X.fm=G.fm) {nt:Nat} {σ:Sl} {a:Act} (hA:RelA G nt σ a) {o:Oper} {n:Nat} {x:Opd} (hc:cOp X o.op=some (.box n x)) :∃t vx,execOp a.eval o=(do return Next.value (← Instr.box t vx))∧R G (x.ev σ) vx:=by
 generalize hop:o.op=op at hc
 cases op with
 | box t y=>
  simp only [cOp] at hc
  split at hc
  ·rename_i i z hi hy
   cases hc
   exact ⟨t,a.eval y,by simp only [execOp,hop],cOpd_ok hA (by rw [← hfm];exact hy)⟩
  ·cases hc
 | _=>
  exfalso
  simp only [cOp] at hc
  try unfold cCall at hc
  try unfold cBuiltin at hc
  repeat' split at hc
  all_goals first | contradiction | (cases hc;done) | (simp at hc;done)
theorem mkfz_op (hfm:X.fm=G.fm) {nt:Nat} {σ:Sl} {a:Act} (hA:RelA G nt σ a) {o:Oper} {c:Nat} {l:List Opd} (hc:cOp X o.op=some (.mkfn c l)) :∃(f:Nat) (us:List Value),G.fm f=some c∧(execOp a.eval o).run P w=.ok (.value (.func (.func f) #[] us.toArray)) w∧Rs G (l.map (·.ev σ)) us:=by
 generalize hop:o.op=op at hc
 cases op with
 | makeFunc fn first cap=>
  cases fn with
  | func f=>
   simp only [cOp] at hc
   split at hc
   ·rename_i c l hf hfi hl
    cases hc
    have hr:=cOpds_ok hA (show cOpds G.fm cap.toList=some l by rw [← hfm];exact hl)
    have hfe:first=#[]:=by apply Array.ext';simpa using hfi
    refine ⟨f,cap.toList.map a.eval,by rw [← hfm];exact hf,?_,hr⟩
    simp only [execOp,hop]
    refine run_val ?_
    have he:cap.map a.eval=(cap.toList.map a.eval).toArray:=by apply Array.ext';simp
    simp [Instr.makeFunc,hfe,he]
   ·split at hc<;>cases hc
   ·cases hc
  | _=>simp only [cOp] at hc;cases hc
 | _=>
  exfalso
  simp only [cOp] at hc
  try unfold cCall at hc
  try unfold cBuiltin at hc
  repeat' split at hc
  all_goals first | contradiction | (cases hc;done) | (simp at hc;done)
theorem freeze_cap (hR:Rel G w0 st w) {k:Key} {v:Nat} {cs cs':List AV} (hk:lk st.bx k=some (v,cs)) (hs:softs cs=some cs') {c f:Nat} (hf:G.fm f=some c) {A B:List AV} {us:List Value} (hr:Rs G (A++.p k v 0::B) us) {d site ver:Nat} :
  ∃G',R G' (.fn c (A++.fp cs'::B)) (.func (.func f) #[] us.toArray)∧Step G G' w0 st { st with bx:=del st.bx k } w d site ver:=by
 have hp :∃u,us[A.length]?=some u∧R G (.p k v 0) u:=by
  have hl:=hr.1
  have:A.length<us.length:=by rw [← hl];simp
  exact ⟨_,List.getElem?_eq_getElem this,hr.2 A.length _ _ (by simp) (List.getElem?_eq_getElem this)⟩
 obtain ⟨u,hu,hpu⟩:=hp
 obtain ⟨g,rfl,hρ⟩:=hpu.p_inv
 obtain ⟨xs,e,hge,hheap,hrx,h1,hnone⟩:=hR.bx k v cs g hk hρ
 have hle:G.Le ⟨fun g' o=>if g'=g then xs[o]? else G.H g' o,G.ρ,G.ω,G.fm,G.M⟩:=⟨fun g' o v h=>by
  show (if g'=g then xs[o]? else G.H g' o)=some v
  rw [if_neg (by rintro rfl;rw [hnone o] at h;cases h)]
  exact h,fun _ _ _ h=>h,fun _ _ _ h=>h,rfl,fun _ _ h=>h⟩
 have hlen:cs'.length=xs.length:=by rw [softs_len hs];exact hrx.1
 have hget :∀(j:Nat) a,cs'[j]?=some a→xs[j]?=some (xs.getD j undef):=fun j a h=>by
  have hj:j<xs.length:=by
   rcases Nat.lt_or_ge j cs'.length with h' | h'
   ·omega
   ·rw [List.getElem?_eq_none h'] at h;cases h
  rw [List.getD_eq_getElem?_getD,List.getElem?_eq_getElem hj];rfl
 refine ⟨⟨fun g' o=>if g'=g then xs[o]? else G.H g' o,G.ρ,G.ω,G.fm,G.M⟩,.fn (G:=⟨fun g' o=>if g'=g then xs[o]? else G.H g' o,G.ρ,G.ω,G.fm,G.M⟩) c f hf _ us (by rw [← hr.1];simp) fun j a u' ha hu'=>?_,⟨hle,hR.freezeBox hk hρ hheap h1,Nat.le_refl _,fun _ _ _ _=>⟨rfl,rfl⟩,?_,?_⟩⟩
 ·by_cases hj:j=A.length
  ·subst hj
   rw [hu] at hu'
   cases hu'
   have:a=.fp cs':=by simpa using ha.symm
   subst this
   refine .fp cs' (fun j=>xs.getD j undef) g 0 (fun j a h=>?_) (fun j a h=>?_)
   ·show (if g=g then xs[0+j]? else _)=_
    rw [if_pos rfl,Nat.zero_add]
    exact hget j a h
   ·exact (softs_ok hs hrx j a _ h (hget j a h)).mono hle.H
  ·refine (hr.2 j a u' ?_ hu').mono hle
   rw [List.getElem?_append] at ha ⊢
   split at ha
   ·rename_i h;rw [if_pos h];exact ha
   ·rename_i h
    rw [if_neg h]
    have :∃i,j-A.length=i+1:=⟨j-A.length-1,by omega⟩
    obtain ⟨i,hi⟩:=this
    rw [hi,List.getElem?_cons_succ] at ha ⊢
    exact ha
 ·intro k' v' c1 _ _ _ hn hl
  show lk (del st.bx k) k'=_
  rw [lk_del,if_neg]
  ·exact hl
  ·rintro rfl
   rw [hk] at hl
   cases hl
   rw [hρ] at hn
   cases hn
 ·intro g' o v h
  have h':(if g'=g then xs[o]? else G.H g' o)=some v:=h
  split at h'
  ·rename_i hg;subst hg;exact .inr hge
  ·exact .inl h'
theorem op_step {C:CallF} (hT:TTok P X.T) (hfm:X.fm=G.fm) (hC:CallOk P X.fm C) {nt:Nat} {σ:Sl} {a:Act} (hA:RelA G nt σ a) (hR:Rel G w0 st w) {ops:Array Oper} {i:Nat} {o:Oper} (ho:ops[i]?=some o) {ai:AI} (hc:cOper X nt ops o=some ai) {d site ver:Nat} {σ':Sl} {st':St} (h:aai C d site ver ai σ st=some (σ',st'))
  (hρ:G.ρ (d,site) ver=none) (hω:G.ω (d,site) ver=none) (hv:ver<st.nx) (hpre :∀zero,ai.op=.alloc zero→lk st.bx (d,site)=some (ver,zero)) (hB:bigSite≤site→flagOp X o.op=true) {K:Act→World→Prop} {Q:Exit→Act→World→Prop}
  (hK :∀a' w' G',RelA G' nt σ' a'→Step G G' w0 st st' w' d site ver→K a' w'):wpOp P ops Q i K a w:=by
 unfold cOper at hc
 split at hc
 ·cases hc
 rename_i op hop
 split at hc
 case isFalse=>cases hc
 rename_i hdst
 have hd :∀t,o.dst=some t→t<nt:=by
  intro t ht
  rw [ht] at hdst
  simpa [dstOk] using hdst
 -- the operation is run
 have main :∀{v:AV} {s:St},aexec C d site ver σ st op=some (v,s)→σ'=updO σ o.dst v→st'=s→(∀zero,op=.alloc zero→lk st.bx (d,site)=some (ver,zero))→o.wp P a w K Q:=by
  intro v s h1 h2 h3 hpre
  subst h3
  unfold Oper.wp
  rcases cOpZ_inv hop with hop | ⟨bn,bx,rfl,hop2⟩ | ⟨bf,ba,bx,bb,rfl,hop2⟩ | rfl
  case inr.inr.inr=>cases h1
  case inr.inr.inl=>
   simp only [aexec] at h1
   split at h1
   case h_2=>cases h1
   rename_i k vv hx
   split at h1
   case h_2=>cases h1
   rename_i v' cs hlk
   split at h1
   case isFalse=>cases h1
   rename_i hvv
   subst hvv
   split at h1
   case h_2=>cases h1
   rename_i cs' hs
   cases h1
   obtain ⟨f,us,hf,hrun,hr⟩:=mkfz_op (P:=P) (w:=w) hfm hA hop2
   rw [List.map_append,List.map_cons,hx] at hr
   obtain ⟨G',h6,h7⟩:=freeze_cap hR hlk hs hf hr (d:=d) (site:=site) (ver:=ver)
   rw [hrun]
   exact hK _ _ G' (by rw [h2];exact (hA.mono h7.le).put hd h6) h7
  case inr.inl=>
   simp only [aexec,apure,Option.map_eq_some_iff,Prod.mk.injEq] at h1
   obtain ⟨y,hy,rfl,rfl⟩:=h1
   split at hy
   case isFalse=>cases hy
   simp only [Option.map_eq_some_iff] at hy
   obtain ⟨cs,hcs,rfl⟩:=hy
   obtain ⟨t,vx,e,hS⟩ :∃t vx,execOp a.eval o=(do return .value (← Instr.box t vx))∧R G (bx.ev σ) vx:=boxf_op hfm hA hop2
   obtain ⟨u,w',G',h4,h6,h7⟩:=boxf_ok (P:=P) (t:=t) hR hS hcs (d:=d) (site:=site) (ver:=ver)
   rw [e,show (do return Next.value (← Instr.box t vx):Sem Next).run P w=.ok (.value u) w' from run_val h4]
   exact hK _ _ G' (by rw [h2];exact (hA.mono h7.le).put hd h6) h7
  cases hn:op.isCall with
  | false=>
   obtain ⟨nx,u,w',G',h4,h5,h6,h7⟩:=exec_ok hT hfm hA hR hop hn h1 hρ hω hv hpre hB
   rw [h4]
   have:K (a.put o.dst u) w':=hK _ _ G' (by rw [h2];exact (hA.mono h7.le).put hd h6) h7
   rcases h5 with rfl | ⟨rfl,rfl⟩
   ·exact this
   ·exact this
  | true=>
   obtain ⟨f,vals,h4,h5⟩:=call_ok hfm hC hA hR hop hn h1
   rw [h4]
   rcases h5 with ⟨h5,h6⟩ | ⟨u,w',h5,G',h6,h7⟩
   ·rw [h5]
    refine h6.mono fun e w' he=>?_
    cases e with
    | returned u=>
     obtain ⟨G',h7,h8⟩:=he
     exact hK _ _ G' (by rw [h2];exact (hA.mono h8.le).put hd h7) h8
    | panicked c=>exact he.elim
    | outgrown=>exact he.elim
   ·rw [h5]
    exact hK _ _ G' (by rw [h2];exact (hA.mono h7.le).put hd h6) h7
 have skip:σ'=updO σ o.dst (.tup [])→st'=st→K (a.put o.dst undef) w:=by
  intro h1 h2
  subst h2
  exact hK _ _ G (by rw [h1];exact hA.put hd R.und) (Step.same hR)
 unfold wpOp
 rw [ho]
 simp only
 cases hg:o.guard with
 | none=>
  rw [hg] at hc
  cases hc
  rw [if_pos (by simp [Region.wanted,hg])]
  simp only [aai,Option.map_eq_some_iff,Prod.mk.injEq] at h
  obtain ⟨⟨v,s⟩,h1,h2,h3⟩:=h
  exact .inl (main h1 h2.symm h3.symm hpre)
 | some jw=>
  obtain ⟨j,want⟩:=jw
  rw [hg] at hc
  simp only at hc
  split at hc
  case h_2=>cases hc
  rename_i t ht
  cases hc
  simp only [aai] at h
  have hσ:=hA.2.2 t
  have hy :∀x,σ t=.b x→yielded ops a.tmps j=some x:=by
   intro x hx
   rw [hx] at hσ
   have hσ:=hσ.bool_inv
   unfold yielded
   rw [ht]
   simp only [Option.bind_some]
   have:a.tmps[t]?=some (.bool x):=by
    rw [Array.getD_eq_getD_getElem?] at hσ
    cases h:a.tmps[t]? with
    | none=>rw [h] at hσ;cases hσ
    | some y=>rw [h] at hσ;simp at hσ;rw [hσ]
   rw [this]
  have hn:σ t=.tup []→yielded ops a.tmps j=none:=by
   intro hx
   rw [hx] at hσ
   have hσ:=hσ.tup0_inv
   unfold yielded
   rw [ht]
   simp only [Option.bind_some]
   rw [Array.getD_eq_getD_getElem?] at hσ
   cases h:a.tmps[t]? with
   | none=>rfl
   | some y=>rw [h] at hσ;simp at hσ;rw [hσ];rfl
  split at h
  ·rename_i x hx
   split at h
   ·rename_i hw
    simp only [Option.map_eq_some_iff,Prod.mk.injEq] at h
    obtain ⟨⟨v,s⟩,h1,h2,h3⟩:=h
    rw [if_pos (by simp [Region.wanted,hg,hy x hx,hw])]
    exact .inl (main h1 h2.symm h3.symm hpre)
   ·rename_i hw
    cases h
    rw [if_neg (by simp [Region.wanted,hg,hy x hx,hw])]
    exact skip rfl rfl
  ·rename_i hx
   cases h
   rw [if_neg (by simp [Region.wanted,hg,hn hx])]
   exact skip rfl rfl
  ·cases h
def cOpers (X:Cx) (nt:Nat) (ops:Array Oper):List Oper→Option (List AI)
 | []=>some []
 | o::r=>match cOper X nt ops o,cOpers X nt ops r with | some x,some l=>some (x::l) | _,_=>none
theorem cOpers_get {nt:Nat} {ops:Array Oper} :∀{l:List Oper} {xs:List AI},cOpers X nt ops l=some xs→l.length=xs.length∧∀(i:Nat) o,l[i]?=some o→∃x,xs[i]?=some x∧cOper X nt ops o=some x
 | [],xs,h=>by cases h;exact ⟨rfl,by simp⟩
 | o::r,xs,h=>by
  unfold cOpers at h
  split at h
  ·rename_i x l hx hl
   cases h
   obtain ⟨h1,h2⟩:=cOpers_get hl
   refine ⟨by simp [h1],fun i o' hi=>?_⟩
   cases i with
   | zero=>simp at hi;subst hi;exact ⟨x,rfl,hx⟩
   | succ i=>exact h2 i o' (by simpa using hi)
  ·cases h
def Left (G:Gh) (st:St) (d id base:Nat) (aops:List AI) (l:List Nat):Prop:=
 ∀i∈l,i<aops.length→G.ρ (d,id*4096+i) (base+i)=none∧G.ω (d,id*4096+i) (base+i)=none∧base+i<st.nx∧
  ∀ai zero,aops[i]?=some ai→ai.op=.alloc zero→lk st.bx (d,id*4096+i)=some (base+i,zero)
theorem Left.step {G G':Gh} {st st':St} {w':World} {d id base i:Nat} {aops:List AI} {l l':List Nat} (h:Left G st d id base aops l) (hs:Step G G' w0 st st' w' d (id*4096+i) (base+i)) (hl :∀j∈l',j∈l∧j≠i):Left G' st' d id base aops l':=by
 intro j hj hlt
 obtain ⟨hj1,hj2⟩:=hl j hj
 obtain ⟨h1,h2,h3,h4⟩:=h j hj1 hlt
 have hne:((d,id*4096+j):Key)≠(d,id*4096+i):=fun he=>by injection he with _ he;omega
 have ho:=hs.old (d,id*4096+j) (base+j) h3 (fun he=>hne (by injection he))
 exact ⟨ho.1.trans h1,ho.2.trans h2,Nat.lt_of_lt_of_le h3 hs.nx,fun ai zero ha hz=>hs.pend _ _ _ (Nat.le_refl _) h3 hne h1 (h4 ai zero ha hz)⟩
theorem pre_lk {d id base:Nat} :∀{ops:List AI} {i:Nat} {bx:List (Key × Nat × List AV)} {k:Key},
  (lk (pre d id base i ops bx) k=lk bx k∧∀(j:Nat) ai zero,ops[j]?=some ai→ai.op=.alloc zero→k≠(d,id*4096+(i+j)))∨
  ∃(j:Nat) (ai:AI) (zero:List AV),ops[j]?=some ai∧ai.op=.alloc zero∧k=(d,id*4096+(i+j))∧lk (pre d id base i ops bx) k=some (base+(i+j),zero)
 | [],i,bx,k=>.inl ⟨rfl,by simp⟩
 | o::r,i,bx,k=>by
  have shift :∀{bx':List (Key × Nat × List AV)},(∃(j:Nat) (ai:AI) (zero:List AV),r[j]?=some ai∧ai.op=.alloc zero∧k=(d,id*4096+(i+1+j))∧lk (pre d id base (i+1) r bx') k=some (base+(i+1+j),zero))→
    ∃(j:Nat) (ai:AI) (zero:List AV),(o::r)[j]?=some ai∧ai.op=.alloc zero∧k=(d,id*4096+(i+j))∧lk (pre d id base (i+1) r bx') k=some (base+(i+j),zero):=by
   rintro bx' ⟨j,ai,zero,h1,h2,h3,h4⟩
   exact ⟨j+1,ai,zero,by simpa using h1,h2,by rw [h3];congr 2;omega,by rw [h4];congr 2;omega⟩
  cases hop:o.op with
  | alloc zero=>
   simp only [pre,hop]
   rcases pre_lk (d:=d) (id:=id) (base:=base) (ops:=r) (i:=i+1) (bx:=st_ bx (d,id*4096+i) (base+i,zero)) (k:=k) with ⟨h1,h2⟩ | h
   ·by_cases hk:k=(d,id*4096+i)
    ·refine .inr ⟨0,o,zero,rfl,hop,by simpa using hk,?_⟩
     rw [h1,hk,lk_st_same]
     simp
    ·refine .inl ⟨by rw [h1,lk_st_ne _ _ (fun e=>hk e.symm)],fun j ai z hj hz=>?_⟩
     cases j with
     | zero=>simpa using hk
     | succ j=>
      have:=h2 j ai z (by simpa using hj) hz
      rwa [show i+1+j=i+(j+1) from by omega] at this
   ·exact .inr (shift h)
  | _=>
   simp only [pre,hop]
   rcases pre_lk (d:=d) (id:=id) (base:=base) (ops:=r) (i:=i+1) (bx:=bx) (k:=k) with ⟨h1,h2⟩ | h
   ·refine .inl ⟨h1,fun j ai z hj hz=>?_⟩
    cases j with
    | zero=>simp at hj;subst hj;rw [hop] at hz;cases hz
    | succ j=>
     have:=h2 j ai z (by simpa using hj) hz
     rwa [show i+1+j=i+(j+1) from by omega] at this
   ·exact .inr (shift h)
theorem region_in {d id:Nat} {aops:List AI} (hR:Rel G w0 st w) {l:List Nat} :
  Run G G w0 st { st with nx:=st.nx+aops.length,bx:=pre d id st.nx 0 aops st.bx } w d∧Left G { st with nx:=st.nx+aops.length,bx:=pre d id st.nx 0 aops st.bx } d id st.nx aops l:=by
 have hold :∀{k ver cs g},lk (pre d id st.nx 0 aops st.bx) k=some (ver,cs)→G.ρ k ver=some g→lk st.bx k=some (ver,cs):=by
  intro k ver cs g h1 h2
  rcases pre_lk (d:=d) (id:=id) (base:=st.nx) (ops:=aops) (i:=0) (bx:=st.bx) (k:=k) with ⟨h3,_⟩ | ⟨j,ai,zero,_,_,_,h4⟩
  ·rw [h3] at h1;exact h1
  ·rw [h4] at h1
   injection h1 with h1
   injection h1 with h1 _
   have:=(hR.fresh k ver (by omega)).1
   rw [this] at h2;cases h2
 refine ⟨⟨.refl G,⟨hR.bel,hR.ext,?_,?_,?_,hR.owinj,?_,fun k ver cs g hb h1 h2=>hR.bxT k ver cs g hb (hold h1 h2) h2,hR.owT,hR.mp⟩,Nat.le_add_right _ _,fun _ _ _=>⟨rfl,rfl⟩,?_,fun _ _ _ h=>.inl h⟩,?_⟩
 ·intro k ver cs g h1 h2
  exact hR.bx k ver cs g (hold h1 h2) h2
 ·intro k k' ver ver' cs cs' g h1 h2 h3 h4
  exact hR.inj k k' ver ver' cs cs' g (hold h1 h3) (hold h2 h4) h3 h4
 ·intro k ver n h1
  obtain ⟨g,cap,size,h2,h3,h4⟩:=hR.ow k ver n h1
  exact ⟨g,cap,size,h2,h3,fun k' ver' cs' h5 h6=>h4 k' ver' cs' (hold h5 h6) h6⟩
 ·intro k ver h
  exact hR.fresh k ver (Nat.le_trans (Nat.le_add_right _ _) h)
 ·intro k v cs hk hv hn hl
  rcases pre_lk (d:=d) (id:=id) (base:=st.nx) (ops:=aops) (i:=0) (bx:=st.bx) (k:=k) with ⟨h3,_⟩ | ⟨j,ai,zero,_,_,h4,_⟩
  ·show lk (pre d id st.nx 0 aops st.bx) k=_
   rw [h3];exact hl
  ·rw [h4] at hk;exact absurd hk (Nat.lt_irrefl _)
 ·intro i _ hlt
  have hf:=hR.fresh (d,id*4096+i) (st.nx+i) (Nat.le_add_right _ _)
  refine ⟨hf.1,hf.2,Nat.add_lt_add_left hlt _,fun ai zero ha hz=>?_⟩
  show lk (pre d id st.nx 0 aops st.bx) _=_
  rcases pre_lk (d:=d) (id:=id) (base:=st.nx) (ops:=aops) (i:=0) (bx:=st.bx) (k:=(d,id*4096+i)) with ⟨_,h3⟩ | ⟨j,ai',zero',h4,h5,h6,h7⟩
  ·exact absurd (by simp) (h3 i ai zero ha hz)
  ·injection h6 with _ h6
   have:j=i:=by omega
   subst this
   rw [ha] at h4
   cases h4
   rw [hz] at h5
   cases h5
   simpa using h7
theorem aregL_O {C:CallF} {d id base:Nat} {ops:List AI} :∀{l:List AI} {i:Nat},(∀j,ops[i+j]?=l[j]?)→∀{σ:Sl} {st:St},aregL C d id base i l σ st=aregO C d id base ops (List.range' i l.length) σ st
 | [],i,_,σ,st=>rfl
 | o::r,i,h,σ,st=>by
  have h0:=h 0
  simp at h0
  simp only [aregL,List.length_cons,List.range'_succ,aregO,h0]
  split
  ·exact aregL_O (fun j=>by have:=h (j+1);rw [show i+1+j=i+(j+1) from by omega,this];simp)
  ·rfl
theorem ops_ok {C:CallF} (hT:TTok P X.T) (hC:CallOk P X.fm C) {nt:Nat} {ops:Array Oper} {aops:List AI} (hc:cOpers X nt ops ops.toList=some aops) {d id base:Nat} (hB :∀(i:Nat) o,ops[i]?=some o→bigSite≤id*4096+i→flagOp X o.op=true) {G0:Gh} {stz:St} (hb:stz.nx≤base) {σ2:Sl} {st2:St} {Q:Exit→Act→World→Prop}
  (hQ :∀a' w' G',RelA G' nt σ2 a'→Run G0 G' w0 stz st2 w' d→Q .normal a' w') :
  ∀(l:List Nat) {G:Gh} {σ:Sl} {st:St} {a:Act} {w:World},X.fm=G.fm→l.Nodup→RelA G nt σ a→Run G0 G w0 stz st w d→Left G st d id base aops l→aregO C d id base aops l σ st=some (σ2,st2)→wpOps P ops Q l a w
 | [],G,σ,st,a,w,hfm,_,hA,hrun,_,h=>by
  cases h
  exact hQ a w G hA hrun
 | i::r,G,σ,st,a,w,hfm,hnd,hA,hrun,hleft,h=>by
  rw [wpOps_cons]
  simp only [aregO] at h
  cases ho:ops[i]? with
  | none=>
   have:aops[i]?=none:=by
    have h1:=(cOpers_get hc).1
    have:ops.size≤i:=by simpa using ho
    apply List.getElem?_eq_none
    rw [← h1];simpa using this
   rw [this] at h
   unfold wpOp
   rw [ho]
   exact ops_ok hT hC hc hB hb hQ r hfm (List.nodup_cons.1 hnd).2 hA hrun (fun j hj=>hleft j (by simp [hj])) h
  | some o=>
   obtain ⟨ai,hai,hco⟩:=(cOpers_get hc).2 i o (by simpa using ho)
   rw [hai] at h
   simp only at h
   split at h
   case h_2=>cases h
   rename_i σ' st' h1
   have hlt:i<aops.length:=by
    rcases Nat.lt_or_ge i aops.length with h' | h'
    ·exact h'
    ·rw [List.getElem?_eq_none h'] at hai;cases hai
   obtain ⟨q1,q2,q3,q4⟩:=hleft i (by simp) hlt
   refine op_step hT hfm hC hA hrun.rel ho hco h1 q1 q2 q3 (fun zero hz=>q4 ai zero hai hz) (hB i o ho) fun a' w' G' hA' hs=>?_
   exact ops_ok hT hC hc hB hb hQ r (by rw [hs.le.fm];exact hfm) (List.nodup_cons.1 hnd).2 hA' (hrun.step hs (by omega)) (hleft.step hs fun j hj=>⟨by simp [hj],fun he=>(List.nodup_cons.1 hnd).1 (he ▸ hj)⟩) h
end
end Go.AM

/- Parts of the proof. -/
namespace Go.AM
open Go Go.RowKit Go.BigFrame
def anyEdges (o:Oper):List Nat:=o.after.toList.filterMap fun e=>if Region.binds .any e then some e.on else none
def maskOf (ms:List Nat) (es:List Nat):Nat:=es.foldl (fun s e=>s ||| 2 ^ e ||| ms.getD e 0) 0
def masks (acc:List Nat):List Oper→List Nat
 | []=>acc
 | o::r=>masks (acc++[maskOf acc (anyEdges o)]) r
def edgesOk (ms:List Nat):Nat→List Oper→Bool
 | _,[]=>true
 | i,o::r=>(ms.getD i 0==maskOf ms (anyEdges o))&&(anyEdges o).all (fun e=>decide (e<i))&&edgesOk ms (i+1) r
def pairOk (m:Nat) (y:AI):Nat→List AI→Bool
 | _,[]=>true
 | j,x::r=>(m.testBit j||commOk x y)&&pairOk m y (j+1) r
def pairsOk (ms:List Nat) (all:List AI):Nat→List AI→Bool
 | _,[]=>true
 | i,y::r=>pairOk (ms.getD i 0) y 0 (all.take i)&&pairsOk ms all (i+1) r
def drawOk (ops:List Oper) (aops:List AI):Bool:=
 let ms:=masks [] ops
 edgesOk ms 0 ops&&pairsOk ms aops 0 aops
theorem maskOf_bit {ms:List Nat} :∀{es:List Nat} {s j:Nat},(es.foldl (fun s e=>s ||| 2 ^ e ||| ms.getD e 0) s).testBit j=true→s.testBit j=true∨∃e∈es,e=j∨(ms.getD e 0).testBit j=true
 | [],s,j,h=>.inl h
 | e::r,s,j,h=>by
  simp only [List.foldl_cons] at h
  rcases maskOf_bit h with h | ⟨e',h1,h2⟩
  ·simp only [Nat.testBit_or,Bool.or_eq_true] at h
   rcases h with (h | h) | h
   ·exact .inl h
   ·rw [Nat.testBit_two_pow] at h
    exact .inr ⟨e,by simp,.inl (by simpa using h)⟩
   ·exact .inr ⟨e,by simp,.inr h⟩
  ·exact .inr ⟨e',by simp [h1],h2⟩
theorem edgesOk_get {ms:List Nat} :∀{l:List Oper} {i:Nat},edgesOk ms i l=true→∀(j:Nat) o,l[j]?=some o→ms.getD (i+j) 0=maskOf ms (anyEdges o)∧∀e∈anyEdges o,e<i+j
 | [],i,_,j,o,h=>by simp at h
 | x::r,i,h,j,o,hj=>by
  simp only [edgesOk,Bool.and_eq_true,beq_iff_eq,List.all_eq_true,decide_eq_true_eq] at h
  cases j with
  | zero=>simp at hj;subst hj;exact ⟨h.1.1,h.1.2⟩
  | succ j=>
   have:=edgesOk_get h.2 j o (by simpa using hj)
   rwa [show i+1+j=i+(j+1) from by omega] at this
theorem pairOk_get {m:Nat} {y:AI} :∀{l:List AI} {i:Nat},pairOk m y i l=true→∀(j:Nat) x,l[j]?=some x→m.testBit (i+j)=true∨commOk x y=true
 | [],i,_,j,x,h=>by simp at h
 | x::r,i,h,j,x',hj=>by
  simp only [pairOk,Bool.and_eq_true,Bool.or_eq_true] at h
  cases j with
  | zero=>simp at hj;subst hj;exact h.1
  | succ j=>
   have:=pairOk_get h.2 j x' (by simpa using hj)
   rwa [show i+1+j=i+(j+1) from by omega] at this
theorem pairsOk_get {ms:List Nat} {all:List AI} :∀{l:List AI} {i:Nat},pairsOk ms all i l=true→∀(k:Nat) y,l[k]?=some y→pairOk (ms.getD (i+k) 0) y 0 (all.take (i+k))=true
 | [],i,_,j,x,h=>by simp at h
 | x::r,i,h,j,x',hj=>by
  simp only [pairsOk,Bool.and_eq_true] at h
  cases j with
  | zero=>simp at hj;subst hj;exact h.1
  | succ j=>
   have:=pairsOk_get h.2 j x' (by simpa using hj)
   rwa [show i+1+j=i+(j+1) from by omega] at this
section
variable {P:Program} {G:Gh} {w0 w:World} {st:St} {X:Cx}
def Closed (ops:Array Oper) (listed:Array Bool):Prop:=∀x o,ops[x]?=some o→listed.getD x false=true→∀e∈anyEdges o,listed.getD e false=true
theorem mem_anyEdges {o:Oper} {e:Nat}:e∈anyEdges o ↔∃q∈o.after,Region.binds .any q=true∧q.on=e:=by
 unfold anyEdges
 rw [List.mem_filterMap]
 constructor
 ·rintro ⟨q,h1,h2⟩
  split at h2
  ·rename_i h3;injection h2 with h2;exact ⟨q,by simpa using h1,h3,h2⟩
  ·cases h2
 ·rintro ⟨q,h1,h2,h3⟩
  exact ⟨q,by simpa using h1,by rw [if_pos h2,h3]⟩
theorem ready_iff {ops:Array Oper} {listed:Array Bool} {i:Nat}:i∈Region.ready .any ops listed ↔∃o,ops[i]?=some o∧listed.getD i true=false∧∀e∈anyEdges o,listed.getD e false=true:=by
 unfold Region.ready
 rw [List.mem_filter,List.mem_range]
 constructor
 ·rintro ⟨h1,h2⟩
  simp only [Bool.and_eq_true,Bool.not_eq_true'] at h2
  have ho:ops[i]?=some ops[i]:=Array.getElem?_eq_getElem h1
  refine ⟨ops[i],ho,h2.1,fun e he=>?_⟩
  rw [ho] at h2
  have h3:=h2.2
  simp only [Option.map_some,Option.getD_some,Array.all_eq_true'] at h3
  obtain ⟨q,h4,h5,h6⟩:=mem_anyEdges.1 he
  have:=h3 q h4
  rw [h5] at this
  subst h6
  simpa using this
 ·rintro ⟨o,h1,h2,h3⟩
  refine ⟨(Array.getElem?_eq_some_iff.1 h1).1,?_⟩
  simp only [h1,Option.map_some,Option.getD_some,h2,Bool.not_false,Bool.true_and,Array.all_eq_true']
  intro q hq
  cases h:Region.binds .any q with
  | false=>rfl
  | true=>simpa using h3 q.on (mem_anyEdges.2 ⟨q,hq,h,rfl⟩)
theorem reach {ops:Array Oper} {listed:Array Bool} (hcl:Closed ops listed) {ms:List Nat} (hms :∀i o,ops[i]?=some o→ms.getD i 0=maskOf ms (anyEdges o)∧∀e∈anyEdges o,e<i) :
  ∀(n i:Nat) (o:Oper),i<n→ops[i]?=some o→(∀e∈anyEdges o,listed.getD e false=true)→∀j,(ms.getD i 0).testBit j=true→listed.getD j false=true
 | 0,i,o,h,_,_,_,_=>absurd h (Nat.not_lt_zero _)
 | n+1,i,o,h,ho,he,j,hj=>by
  obtain ⟨h1,h2⟩:=hms i o ho
  rw [h1] at hj
  rcases maskOf_bit hj with hj | ⟨e,h3,h4⟩
  ·simp at hj
  ·rcases h4 with rfl | h4
   ·exact he _ h3
   ·have hlt:e<ops.size:=Nat.lt_trans (h2 e h3) (Array.getElem?_eq_some_iff.1 ho).1
    have hoe:ops[e]?=some ops[e]:=Array.getElem?_eq_getElem hlt
    exact reach hcl hms n e ops[e] (by have:=h2 e h3;omega) hoe (hcl e _ hoe (he e h3)) j h4
theorem getD_set {listed:Array Bool} {i:Nat} (hi:i<listed.size) (j:Nat) (b:Bool):(listed.setIfInBounds i true).getD j b=if j=i then true else listed.getD j b:=by
 rw [Array.getD_eq_getD_getElem?,Array.getD_eq_getD_getElem?,Array.getElem?_setIfInBounds]
 by_cases h:j=i
 ·subst h;simp [hi]
 ·rw [if_neg (fun e=>h e.symm),if_neg h]
def ksOf (ks:List Nat):List AI→List Nat
 | []=>ks
 | x::r=>match x.op,x.dst with
  | .iaL _ _ _,some t=>ksOf (t::ks) r
  | .fad _ (.t k),some t=>ksOf (if ks.contains k=true then t::ks else ks) r
  | _,_=>ksOf ks r
def toF (ks:List Nat) (x:AI):AI:=
 match x.op with
 | .load n agg (.t k)=>if ks.contains k=true then ⟨x.dst,.ldf n agg (.t k),x.guard⟩ else x
 | _=>x
def toFs (fz:List Nat) (l:List AI):List AI:=l.map (toF (ksOf fz l))
def Low (y x:AI):Prop:=(∀(C:CallF) (d s v:Nat) (σ:Sl) (st:St) (r:Sl × St),aai C d s v y σ st=some r→aai C d s v x σ st=some r)∧∀zero,x.op=.alloc zero→y.op=.alloc zero
theorem Low.refl (x:AI):Low x x:=⟨fun _ _ _ _ _ _ _ h=>h,fun _ h=>h⟩
theorem ldf_load {C:CallF} {d s v n:Nat} {agg:Bool} {x:Opd} {σ:Sl} {st:St} {r:AV × St} (h:aexec C d s v σ st (.ldf n agg x)=some r):aexec C d s v σ st (.load n agg x)=some r:=by
 simp only [aexec,apure] at h ⊢
 split at h
 ·rename_i cs hcs
  rw [hcs]
  exact h
 ·cases h
theorem toF_low (ks:List Nat) (x:AI):Low (toF ks x) x:=by
 obtain ⟨dst,op,g⟩:=x
 unfold toF
 split
 case h_2=>exact Low.refl _
 rename_i n agg k hop
 simp only at hop
 subst hop
 split
 case isFalse=>exact Low.refl _
 refine ⟨fun C d s v σ st r h=>?_,fun zero hz=>by cases hz⟩
 have key :∀{f:AV × St→Sl × St} {r:Sl × St},(aexec C d s v σ st (.ldf n agg (.t k))).map f=some r→(aexec C d s v σ st (.load n agg (.t k))).map f=some r:=by
  intro f r h
  rw [Option.map_eq_some_iff] at h ⊢
  obtain ⟨q,h1,h2⟩:=h
  exact ⟨q,ldf_load h1,h2⟩
 unfold aai at h ⊢
 simp only at h ⊢
 split at h
 ·rename_i hg
  exact key h
 ·split at h
  ·split at h
   ·rename_i hx
    rw [if_pos hx]
    exact key h
   ·rename_i hx
    rw [if_neg hx]
    exact h
  ·exact h
  ·exact h
theorem lows {X:Cx} {nt:Nat} {ops:Array Oper} {aops:List AI} (hc:cOpers X nt ops ops.toList=some aops) (ks:List Nat) :∀(i:Nat) o,ops[i]?=some o→∃ai x,(aops.map (toF ks))[i]?=some ai∧cOper X nt ops o=some x∧Low ai x:=by
 intro i o ho
 obtain ⟨x,h1,h2⟩:=(cOpers_get hc).2 i o (by simpa using ho)
 exact ⟨toF ks x,x,by rw [List.getElem?_map,h1];rfl,h2,toF_low ks x⟩
theorem lows0 {X:Cx} {nt:Nat} {ops:Array Oper} {aops:List AI} (hc:cOpers X nt ops ops.toList=some aops) :∀(i:Nat) o,ops[i]?=some o→∃ai x,aops[i]?=some ai∧cOper X nt ops o=some x∧Low ai x:=by
 intro i o ho
 obtain ⟨x,h1,h2⟩:=(cOpers_get hc).2 i o (by simpa using ho)
 exact ⟨x,x,h1,h2,Low.refl x⟩
theorem draw_ok {C:CallF} (hT:TTok P X.T) (hC:CallOk P X.fm C) {nt:Nat} {ops:Array Oper} {aops:List AI} (hc :∀(i:Nat) o,ops[i]?=some o→∃ai x,aops[i]?=some ai∧cOper X nt ops o=some x∧Low ai x) (hd:drawOk ops.toList aops=true) {d id base:Nat} (hB :∀(i:Nat) o,ops[i]?=some o→bigSite≤id*4096+i→flagOp X o.op=true) {G0:Gh} {stz:St} (hb:stz.nx≤base) {σ2:Sl} {st2:St} {Q:Exit→Act→World→Prop}
  (hQ :∀a' w' G',RelA G' nt σ2 a'→Run G0 G' w0 stz st2 w' d→Q .normal a' w') :
  ∀(l:List Nat) {n:Nat} {listed:Array Bool} {G:Gh} {σ:Sl} {st:St} {a:Act} {w:World},l.length=n→listed.size=ops.size→l.Pairwise (·<·)→(∀j,j∈l↔j<ops.size∧listed.getD j true=false)→Closed ops listed→X.fm=G.fm→RelA G nt σ a→Run G0 G w0 stz st w d→Left G st d id base aops l→aregO C d id base aops l σ st=some (σ2,st2)→wpAny P .any ops Q n listed a w:=by
 unfold drawOk at hd
 simp only [Bool.and_eq_true] at hd
 have hms :∀i o,ops[i]?=some o→(masks [] ops.toList).getD i 0=maskOf (masks [] ops.toList) (anyEdges o)∧∀e∈anyEdges o,e<i:=fun i o ho=>by
  have:=edgesOk_get hd.1 i o (by simpa using ho)
  simpa using this
 intro l n
 induction n generalizing l with
 | zero=>
  intro listed G σ st a w hn hsz hpw hmem hcl hfm hA hrun hleft h
  have hl:l=[]:=List.eq_nil_of_length_eq_zero hn
  subst hl
  refine ⟨?_,?_⟩
  ·rw [List.eq_nil_iff_forall_not_mem]
   intro i hi
   obtain ⟨o,h1,h2,_⟩:=ready_iff.1 hi
   have:=(hmem i).2 ⟨(Array.getElem?_eq_some_iff.1 h1).1,h2⟩
   simp at this
  ·cases h
   exact hQ a w G hA hrun
 | succ n ih=>
  intro listed G σ st a w hn hsz hpw hmem hcl hfm hA hrun hleft h
  have hlisted :∀j,j<ops.size→listed.getD j false=true∨listed.getD j true=false:=by
   intro j hj
   rw [Array.getD_eq_getD_getElem?,Array.getD_eq_getD_getElem?,Array.getElem?_eq_getElem (by omega)]
   cases listed[j]'(by omega)<;>simp
  refine ⟨fun hr=>?_,fun i hi=>?_⟩
  ·exfalso
   cases l with
   | nil=>simp at hn
   | cons i r=>
    obtain ⟨h1,h2⟩:=(hmem i).1 (by simp)
    have ho:ops[i]?=some ops[i]:=Array.getElem?_eq_getElem h1
    have:i∈Region.ready .any ops listed:=ready_iff.2 ⟨_,ho,h2,fun e he=>by
     have hlt:=(hms i _ ho).2 e he
     rcases hlisted e (by omega) with h3 | h3
     ·exact h3
     ·exfalso
      have hm:=(hmem e).2 ⟨by omega,h3⟩
      rcases List.mem_cons.1 hm with rfl | hm
      ·omega
      ·have:=(List.pairwise_cons.1 hpw).1 e hm;omega⟩
    rw [hr] at this
    simp at this
  ·obtain ⟨o,ho,h2,h3⟩:=ready_iff.1 hi
   have hlt:i<ops.size:=(Array.getElem?_eq_some_iff.1 ho).1
   obtain ⟨pre,post,rfl⟩:=List.append_of_mem ((hmem i).2 ⟨hlt,h2⟩)
   obtain ⟨ai,x0,hai,hco,hlow⟩:=hc i o ho
   rw [List.pairwise_append,List.pairwise_cons] at hpw
   obtain ⟨hpw1,⟨hpw2,hpw3⟩,hpw4⟩:=hpw
   have hcomm :∀j∈pre,∀x,aops[j]?=some x→commOk x ai=true:=by
    intro j hj x hx
    have hji:=hpw4 j hj i (by simp)
    have hp:=pairsOk_get hd.2 i ai hai
    simp only [Nat.zero_add] at hp
    rcases pairOk_get hp j x (by rw [List.getElem?_take,if_pos hji];exact hx) with hb | hb
    ·exfalso
     simp only [Nat.zero_add] at hb
     have:=reach hcl hms (i+1) i o (by omega) ho h3 j hb
     have h4:=((hmem j).1 (by simp [hj])).2
     rw [Array.getD_eq_getD_getElem?,Array.getElem?_eq_getElem (by omega)] at this h4
     simp only [Option.getD_some] at this h4
     rw [this] at h4
     cases h4
    ·exact hb
   have h:=ahead hai pre hcomm h
   simp only [aregO,hai] at h
   split at h
   case h_2=>cases h
   rename_i σ' st' h1
   have hlta:i<aops.length:=by
    rcases Nat.lt_or_ge i aops.length with h' | h'
    ·exact h'
    ·rw [List.getElem?_eq_none h'] at hai;cases hai
   obtain ⟨q1,q2,q3,q4⟩:=hleft i (by simp) hlta
   have hmem' :∀j,j∈pre++post↔j∈pre++i::post∧j≠i:=by
    intro j
    simp only [List.mem_append,List.mem_cons]
    constructor
    ·rintro (hj | hj)
     ·have:=hpw4 j hj i (by simp);exact ⟨.inl hj,by omega⟩
     ·have:=hpw2 j hj;exact ⟨.inr (.inr hj),by omega⟩
    ·rintro ⟨hj | hj | hj,hne⟩
     ·exact .inl hj
     ·exact absurd hj hne
     ·exact .inr hj
   refine op_step hT hfm hC hA hrun.rel ho hco (hlow.1 _ _ _ _ _ _ _ h1) q1 q2 q3 (fun zero hz=>q4 ai zero hai (hlow.2 zero hz)) (hB i o ho) fun a' w' G' hA' hs=>?_
   have hn':(pre++post).length=n:=by
    simp only [List.length_append,List.length_cons] at hn ⊢
    omega
   refine ih (pre++post) hn' (by simpa using hsz) ?_ ?_ ?_ (by rw [hs.le.fm];exact hfm) hA' (hrun.step hs (by omega)) (hleft.step hs fun j hj=>(hmem' j).1 hj) h
   ·rw [List.pairwise_append]
    exact ⟨hpw1,hpw3,fun x hx y hy=>hpw4 x hx y (by simp [hy])⟩
   ·intro j
    rw [hmem' j,hmem j,getD_set (by omega)]
    constructor
    ·rintro ⟨⟨h5,h6⟩,h7⟩;exact ⟨h5,by rw [if_neg h7];exact h6⟩
    ·rintro ⟨h5,h6⟩
     by_cases h7:j=i
     ·rw [if_pos h7] at h6;cases h6
     ·rw [if_neg h7] at h6;exact ⟨⟨h5,h6⟩,h7⟩
   ·intro x ox hox hx e he
    rw [getD_set (by omega)] at hx ⊢
    by_cases h7:x=i
    ·subst h7
     rw [ho] at hox
     cases hox
     split
     ·rfl
     ·exact h3 e he
    ·rw [if_neg h7] at hx
     split
     ·rfl
     ·exact hcl x ox hox hx e he
end
end Go.AM

/- Parts of the proof. -/
namespace Go.AM
open Go Go.RowKit Go.BigFrame
def cLit (X:Cx) (nt:Nat) (l:List Oper):Option (List AI):=
 match l with
 | [⟨some d1,.buildSlice t n parts,_,_,_,none⟩,⟨some d2,.convert t1 t2 (.tmp s2),_,_,_,none⟩,⟨some d3,.assign (.tmp s3),_,_,_,none⟩]=>
  match parts.toList,X.kind t with
  | [(0,.const (.int .u8 c))],some (.sl e)=>match X.kind e,X.T e with
   | some (.int .u8),some i=>match i.zero with
    | [.i .u8 z]=>if n=1∧t1=t∧t2=t∧s2=d1∧s3=d2∧d1<nt∧d2<nt∧d3<nt then some [⟨some d1,.bslice [.i .u8 z] 1 [(0,.c (.i .u8 c))],none⟩,⟨some d2,.mv (.t d1),none⟩,⟨some d3,.mv (.t d2),none⟩] else none
    | _=>none
   | _,_=>none
  | _,_=>none
 | _=>none
section
variable {P:Program} {X:Cx}
theorem step_val {G:Gh} {nt:Nat} {ops:Array Oper} {Q:Exit→Act→World→Prop} {i:Nat} {o:Oper} {a:Act} {w w':World} {v:Value} {K:Act→World→Prop} (ho:ops[i]?=some o) (hg:o.guard=none) (hr:(execOp a.eval o).run P w=.ok (.value v) w') (hk:K (a.put o.dst v) w'):wpOp P ops Q i K a w:=by
 unfold wpOp
 rw [ho]
 simp only
 rw [if_pos (by simp [Region.wanted,hg])]
 refine .inl ?_
 unfold Oper.wp
 rw [hr]
 exact hk
theorem lit_ok {C:CallF} (hT:TTok P X.T) {nt d id:Nat} {ops:Array Oper} {n:Nat} {aops:List AI} (hcl:cLit X nt ops.toList=some aops) {σ:Sl} {st:St} {e':AE} {σ':Sl} {st':St} (h:acode C n d (.reg id aops) σ st=some (e',σ',st')) {G:Gh} {w0 w:World} {a:Act} (hA:RelA G nt σ a) (hR:Rel G w0 st w)
  {Q:Exit→Act→World→Prop} (hQ:e'=.normal→∀a' w' G',RelA G' nt σ' a'→Run G G' w0 st st' w' d→Q .normal a' w'):(Code.region id ops false).wp P Q a w:=by
 unfold cLit at hcl
 split at hcl
 case h_2=>cases hcl
 rename_i d1 t m parts ty1 pos1 af1 d2 t1 t2 s2 ty2 pos2 af2 d3 s3 ty3 pos3 af3 hops
 split at hcl
 case h_2=>cases hcl
 rename_i c e hparts hkt
 split at hcl
 case h_2=>cases hcl
 rename_i i hke hie
 split at hcl
 case h_2=>cases hcl
 rename_i z hz
 split at hcl
 case isFalse=>cases hcl
 rename_i hc
 obtain ⟨hm,h2,h3,h4,h5,hd1,hd2,hd3⟩:=hc
 subst hm
 have h2:=h2.symm
 subst h2
 have h3:=h3.symm
 subst h3
 have h4:=h4.symm
 subst h4
 have h5:=h5.symm
 subst h5
 cases hcl
 obtain ⟨_,_,_,_,hut⟩:=kind_inv hT hkt
 obtain ⟨_,_,_,_,hue⟩:=kind_inv hT hke
 -- what the abstract machine does
 have hs:e'=.normal∧σ'=upd (upd (upd σ d1 (.sl .full [[.i .u8 c]])) d2 (.sl .full [[.i .u8 c]])) d3 (.sl .full [[.i .u8 c]])∧st'={ st with nx:=st.nx+3 }:=by
  simp [acode,areg,aregL,aai,aexec,apure,softs,AV.soft,fillRows,Opd.ev,AV.cells,pre,updO,upd] at h
  obtain ⟨rfl,rfl,rfl⟩:=h
  refine ⟨rfl,?_,rfl⟩
  funext x
  simp [upd]
 obtain ⟨rfl,rfl,rfl⟩:=hs
 -- the zero of the element's type
 obtain ⟨ti,zv,hi,hsz,_,hzv,hzs,hzl⟩:=(hT e i hie).info
 rw [hz] at hzs
 have hsize:i.size=1:=by
  have h1:zv.cells.toList.length=([AV.i .u8 z]:List AV).length:=by
   have :∀{vs:List Value} {xs:List AV},cVals vs=some xs→vs.length=xs.length:=by
    intro vs
    induction vs with
    | nil=>intro xs hx;cases hx;rfl
    | cons v vs ih=>
     intro xs hx
     unfold cVals at hx
     split at hx
     ·cases hx;simp [ih (by assumption)]
     ·cases hx
   exact this hzs
  rw [← hzl]
  simpa using h1
 have hsize':zv.cells.size=1:=by rw [hzl,hsize]
 -- the three operations
 have ea:ops=#[⟨some d1,.buildSlice t 1 parts,ty1,pos1,af1,none⟩,⟨some d2,.convert t t (.tmp d1),ty2,pos2,af2,none⟩,⟨some d3,.assign (.tmp d2),ty3,pos3,af3,none⟩]:=by
  apply Array.ext';simpa using hops
 have ep:parts=#[(0,.const (.int .u8 c))]:=by apply Array.ext';simpa using hparts
 subst ea
 subst ep
 have hts:a.tmps.size=nt:=hA.2.1
 let w1:=w.alloc (.cells #[.int .u8 c] e)
 let w2:=w.alloc (.cells #[.int .u8 c] e (1,2))
 let v:Value:=.slice (some ⟨w.heap.size,0,none⟩) 1 1
 have r1:(Instr.buildSlice t 1 #[(0,.int .u8 c)]).run P w=.ok v w1:=by
  refine run_buildSlice w t e 1 #[(0,.int .u8 c)] #[.int .u8 c] ti zv hut hi hzv (by rw [hsz,hsize];omega) (by rw [hsz,hsize];decide) ?_
  have hmade :∀zz:Array Value,zz.size=1→∃y,(Array.range (1*1)).map (zz[· % zz.size]!)=#[y]:=by
   intro zz _
   exact ⟨zz[0 % zz.size]!,by rw [show Array.range (1*1)=#[0] from rfl];simp⟩
  obtain ⟨y,hy⟩:=hmade zv.cells hsize'
  rw [hsz,hsize]
  simp only [hy]
  rfl
 have r2:(convert t t v).run P w1=.ok v w2:=Lib.run_convert_bytes_const w t e #[.int .u8 c] 1 1 hut hue
 have hH:HLe G.H (fun g o=>if g=w.heap.size then (if o=0 then some (.int .u8 c) else none) else G.H g o):=fun g o v h=>by
  show (if g=w.heap.size then _ else G.H g o)=some v
  rw [if_neg (by have:=hR.Hlt h;omega)]
  exact h
 have hR':Rel G w0 { st with nx:=st.nx+3 } w:=⟨hR.bel,hR.ext,hR.bx,hR.inj,hR.ow,hR.owinj,fun k ver hv=>hR.fresh k ver (by simp at hv;omega),hR.bxT,hR.owT,hR.mp⟩
 have hst:=Step.grow (d:=d) (site:=0) (ver:=0) hR' (w':=w2) ((Below.refl _ _).alloc (Nat.le_refl _) _) hH (fun g o x h=>by
  by_cases hg:g=w.heap.size
  ·subst hg
   simp only [if_true] at h
   by_cases ho:o=0
   ·subst ho
    simp only [if_true] at h
    cases h
    refine .inr ⟨Nat.le_refl _,?_,rfl⟩
    rw [World.cell?_alloc_mark]
    rfl
   ·rw [if_neg ho] at h;cases h
  ·rw [if_neg hg] at h;exact .inl h)
 have hv:R ⟨fun g o=>if g=w.heap.size then (if o=0 then some (.int .u8 c) else none) else G.H g o,G.ρ,G.ω,G.fm,G.M⟩ (.sl .full [[.i .u8 c]]) v:=by
  refine .sl .full _ _ _ _ ?_ ⟨rfl,.inr ⟨_,rfl⟩⟩
  refine Fz.sl [[.i .u8 c]] _ 1 1 w.heap.size 0 (fun _ _=>.int .u8 c) (fun _=>rfl) (Nat.le_refl _) ?_ ?_ ?_
  ·intro i row hi
   cases i with
   | zero=>simp at hi;subst hi;rfl
   | succ i=>simp at hi
  ·intro i row j x hi hx
   cases i with
   | zero=>
    simp at hi;subst hi
    cases j with
    | zero=>simp
    | succ j=>simp at hx
   | succ i=>simp at hi
  ·intro i row j x hi hx
   cases i with
   | zero=>
    simp at hi;subst hi
    cases j with
    | zero=>simp at hx;subst hx;exact .i _ _
    | succ j=>simp at hx
   | succ i=>simp at hi
 have e1 :∀(b:Act) (dst:Nat) (x:Value),(b.put (some dst) x).eval (.tmp dst)=x∨b.tmps.size≤dst:=by
  intro b dst x
  rcases Nat.lt_or_ge dst b.tmps.size with h | h
  ·left
   simp [Act.put,Act.eval,h]
  ·exact .inr h
 refine wp_region ?_
 show wpOps P _ Q [0,1,2] a w
 rw [wpOps_cons]
 refine step_val (G:=G) (nt:=nt) (o:=⟨some d1,.buildSlice t 1 #[(0,.const (.int .u8 c))],ty1,pos1,af1,none⟩) rfl rfl (v:=v) (w':=w1) ?_ ?_
 ·simp only [execOp]
  refine run_val ?_
  rw [show Array.map (fun x=>(x.fst,a.eval x.snd)) #[(0,Operand.const (Value.int IntKind.u8 c))]=#[(0,.int .u8 c)] from by simp [Act.eval]]
  exact r1
 rw [wpOps_cons]
 refine step_val (G:=G) (nt:=nt) (o:=⟨some d2,.convert t t (.tmp d1),ty2,pos2,af2,none⟩) rfl rfl (v:=v) (w':=w2) ?_ ?_
 ·simp only [execOp]
  refine run_val ?_
  rcases e1 a d1 v with h | h
  ·rw [h];exact r2
  ·rw [hts] at h;exact absurd h (Nat.not_le.2 hd1)
 rw [wpOps_cons]
 refine step_val (G:=G) (nt:=nt) (o:=⟨some d3,.assign (.tmp d2),ty3,pos3,af3,none⟩) rfl rfl (v:=v) (w':=w2) ?_ ?_
 ·simp only [execOp]
  rcases e1 (a.put (some d1) v) d2 v with h | h
  ·rw [h];rfl
  ·simp only [Act.put,Array.size_setIfInBounds,hts] at h
   exact absurd h (Nat.not_le.2 hd2)
 show Q .normal _ w2
 have hA1:=hA.mono hst.le
 have hp :∀{σ:Sl} {b:Act} (dst:Nat),dst<nt→RelA _ nt σ b→RelA ⟨fun g o=>if g=w.heap.size then (if o=0 then some (.int .u8 c) else none) else G.H g o,G.ρ,G.ω,G.fm,G.M⟩ nt (upd σ dst (.sl .full [[.i .u8 c]])) (b.put (some dst) v):=
  fun dst hd hb=>RelA.put (d:=some dst) hb (by intro t ht;cases ht;exact hd) hv
 refine hQ rfl _ _ _ (hp d3 hd3 (hp d2 hd2 (hp d1 hd1 hA1))) ?_
 exact ⟨hst.le,hst.rel,by simp,fun k v hv'=>⟨rfl,rfl⟩,fun k v cs _ _ _ h=>h,hst.newH⟩
end
end Go.AM

/- Parts of the proof. -/
namespace Go.AM
open Go Go.RowKit Go.BigFrame
def cLitB (X:Cx) (nt:Nat) (ops:Array Oper) (draw:Bool):Option (List AI):=if draw=true then none else cLit X nt ops.toList
def isBig (X:Cx) (ops:Array Oper):Bool:=(X.fm 1000000000000).isSome&&ops.any fun o=>match o.op with | .alloc t=>t==btOf X.fm | .fieldAddr t _ _=>t==btOf X.fm | _=>false
def isMid (X:Cx) (ops:Array Oper):Bool:=match X.fm 1000000000003 with | some t=>ops.any fun o=>(match o.op with | .fieldAddr t' _ n=>n==3&&t'+1000000000==t | _=>false) | none=>false
def midId (X:Cx) (id:Nat) (ops:Array Oper):Nat:=if isMid X ops then id+500000 else id
def bigId (X:Cx) (id:Nat) (ops:Array Oper):Nat:=if isBig X ops then id+1000000 else midId X id ops
def bigOk (X:Cx) (id:Nat) (ops:Array Oper):Bool:=if isBig X ops then ops.all fun o=>flagOp X o.op else decide (midId X id ops*4096+ops.size≤bigSite)
theorem bigOk_inv {X:Cx} {id:Nat} {ops:Array Oper} (h:bigOk X id ops=true) :∀(i:Nat) o,ops[i]?=some o→bigSite≤bigId X id ops*4096+i→flagOp X o.op=true:=by
 intro i o ho hb
 unfold bigOk at h
 unfold bigId at hb
 split at h
 ·rename_i hi
  rw [Array.all_eq_true'] at h
  exact h o (Array.mem_of_getElem? ho)
 ·rename_i hi
  rw [if_neg hi] at hb
  have:=(Array.getElem?_eq_some_iff.1 ho).1
  have h:=of_decide_eq_true h
  omega
def cRegion (X:Cx) (nt:Nat) (id:Nat) (ops:Array Oper) (draw:Bool):Option AC:=
 match cLitB X nt ops draw with
 | some aops=>some (.reg id aops)
 | none=>match cOpers X nt ops ops.toList with
  | some aops=>if bigOk X id ops=true then (if (draw&&!drawOk ops.toList aops)=true then (if drawOk ops.toList (toFs X.fz aops)=true then some (.reg (bigId X id ops) (toFs X.fz aops)) else none) else some (.reg (bigId X id ops) aops)) else none
  | none=>none
def stk:AC:=.cond (.c .u) .skip .skip
def cCode (X:Cx) (nt:Nat):Code→Option AC
 | .skip=>some .skip
 | .label _=>some .skip
 | .region id ops draw=>match cRegion X nt id ops draw with | some x=>some x | none=>some stk
 | .seq a b=>match cCode X nt a,cCode X nt b with | some x,some y=>some (.seq x y) | _,_=>none
 | .cond c a b=>match cOpd X.fm c,cCode X nt a,cCode X nt b with | some z,some x,some y=>some (.cond z x y) | _,_,_=>none
 | .block id c=>match cCode X nt c with | some x=>some (.block id x) | none=>none
 | .loop c=>match cCode X nt c with | some x=>some (.loop x) | none=>none
 | .exit id=>some (.exit id)
 | .goto l=>some (.goto l)
 | .ret=>some .ret
 | .refuse _=>some (.cond (.c .u) .skip .skip)
 | .scope (.seq (.region id ops draw) (.seq (.label l) b))=>match cRegion X nt id ops draw,cCode X nt b with | some x,some y=>some (.gscope l x y) | _,_=>none
 | _=>some stk
def toExit:AE→Exit
 | .normal=>.normal
 | .exit id=>.exit id
 | .ret=>.ret
 | .goto l=>.goto l
def jumps (P:Program) (y:Code) (l:Nat) (Q:Exit→Act→World→Prop):Nat→Act→World→Prop
 | 0,_,_=>False
 | n+1,a,w=>y.wp P (Exit.jump l (jumps P y l Q n) Q) a w
theorem wp_scope_rounds {P:Program} {a:Act} {w:World} {Q:Exit→Act→World→Prop} {x y:Code} (l n:Nat) (hx:findLabel x l=none)
  (first:x.wp P (Exit.then (jumps P y l Q n) fun _ _ _=>False) a w):(Code.scope (.seq x (.seq (.label l) y))).wp P Q a w:=by
 intro b k cs
 have hf:findLabel (.seq x (.seq (.label l) y)) l=some (.seq .skip y):=by simp [findLabel,hx]
 generalize hc:Code.seq x (.seq (.label l) y)=c at hf ⊢
 have hg:gotoIn l (.inScope c::k)=some (.code (.seq .skip y)::.inScope c::k):=by simp [gotoIn,hf]
 have key :∀n (z:Code) a w,(∀a w Q',y.wp P Q' a w→z.wp P Q' a w)→jumps P y l Q n a w→∃e a' w',Q e a' w'∧Arrives P (lone (b.at a (.code z::.inScope c::k)) cs w) b k cs e a' w':=by
  intro n
  induction n with
  | zero=>intro z a w _ h;exact h.elim
  | succ n ih=>
   intro z a w hz h
   obtain ⟨e,a₁,w₁,hq,harr⟩:=hz _ _ _ h b (.inScope c::k) cs
   cases e with
   | normal=>exact ⟨.normal,a₁,w₁,hq,Steps.trans harr (.one step_inScope)⟩
   | exit id=>exact ⟨.exit id,a₁,w₁,hq,fun k' hk=>harr k' (by simp [exitTo,hk])⟩
   | goto l'=>
    obtain ⟨rfl,hJ'⟩:=hq
    obtain ⟨e₂,a₂,w₂,hq₂,harr₂⟩:=ih (.seq .skip y) a₁ w₁ (fun _ _ _ h=>wp_seq (wp_skip h)) hJ'
    exact ⟨e₂,a₂,w₂,hq₂,.of_steps (harr _ hg) harr₂⟩
   | ret=>exact ⟨_,a₁,w₁,hq,harr⟩
   | panic ch=>exact ⟨_,a₁,w₁,hq,harr⟩
   | outgrown=>exact ⟨_,a₁,w₁,hq,harr⟩
 obtain ⟨e,a₁,w₁,hq,harr⟩:=first b (.code (.seq (.label l) y)::.inScope c::k) cs
 cases e with
 | normal=>
  obtain ⟨e₂,a₂,w₂,hq₂,harr₂⟩:=key n (.seq (.label l) y) a₁ w₁ (fun _ _ _ h=>wp_seq (wp_label h)) hq
  have hs:Steps P (lone (b.at a (.code (.scope c)::k)) cs w) (lone (b.at a (.code x::.code (.seq (.label l) y)::.inScope c::k)) cs w):=by
   refine .head step_scope ?_
   rw [← hc]
   exact .one step_seq
  exact ⟨e₂,a₂,w₂,hq₂,.of_steps (hs.trans harr) harr₂⟩
 | exit id=>exact hq.elim
 | goto l'=>exact hq.elim
 | ret=>exact hq.elim
 | panic ch=>exact hq.elim
 | outgrown=>exact hq.elim
def CodeOk (P:Program) (X:Cx) (nt d:Nat) (f:Sl→St→Option (AE × Sl × St)) (c:Code):Prop:=
 ∀{σ:Sl} {st:St} {e:AE} {σ':Sl} {st':St},f σ st=some (e,σ',st')→∀{G:Gh} {w0 w:World} {a:Act},X.fm=G.fm→RelA G nt σ a→Rel G w0 st w→
  ∀{Q:Exit→Act→World→Prop},(∀a' w' G',RelA G' nt σ' a'→Run G G' w0 st st' w' d→Q (toExit e) a' w')→c.wp P Q a w
section
variable {P:Program} {X:Cx}
theorem region_ok {C:CallF} (hT:TTok P X.T) (hC:CallOk P X.fm C) (hm:P.follows .mixedOrders=true) {nt d id:Nat} {ops:Array Oper} {draw:Bool} {n:Nat} {ac:AC} (hcr:cRegion X nt id ops draw=some ac):CodeOk P X nt d (acode C n d ac) (.region id ops draw):=by
 unfold cRegion at hcr
 split at hcr
 ·rename_i aops hl
  cases hcr
  unfold cLitB at hl
  split at hl
  ·cases hl
  rename_i hd
  have hd:draw=false:=by simpa using hd
  subst hd
  intro σ st e σ' st' h G w0 w a hfm hA hR Q hQ
  exact lit_ok hT hl h hA hR fun he=>by subst he;exact hQ
 split at hcr
 case h_2=>cases hcr
 rename_i aops hc
 split at hcr
 case isFalse=>cases hcr
 rename_i hbig
 have hB:=bigOk_inv hbig
 have hlen0:aops.length=ops.size:=by
  have:=(cOpers_get hc).1
  simpa using this.symm
 -- a region whose order is drawn
 have drawn :∀{bops:List AI},bops.length=ops.size→(∀(i:Nat) o,ops[i]?=some o→∃ai x,bops[i]?=some ai∧cOper X nt ops o=some x∧Low ai x)→drawOk ops.toList bops=true→draw=true→ac=.reg (bigId X id ops) bops→CodeOk P X nt d (acode C n d ac) (.region id ops draw):=by
  intro bops hlen hlow hd hdr he
  subst he
  subst hdr
  intro σ st e σ' st' h G w0 w a hfm hA hR Q hQ
  simp only [acode,Option.map_eq_some_iff,Prod.mk.injEq] at h
  obtain ⟨⟨σ1,st1⟩,h,rfl,rfl,rfl⟩:=h
  unfold areg at h
  rw [aregL_O (ops:=bops) (fun j=>by simp)] at h
  rw [← List.range_eq_range'] at h
  refine wp_region_any hm ?_
  have hR':Rel G w0 st { w with drawn:=w.drawn+1 }:=hR.below (w':={ w with drawn:=w.drawn+1 }) ⟨rfl,rfl,rfl,Nat.le_refl _,fun _ _=>rfl⟩
  obtain ⟨h1,h2⟩:=region_in (d:=d) (id:=bigId X id ops) (aops:=bops) hR' (l:=List.range ops.size)
  rw [hlen] at h
  refine draw_ok hT hC hlow hd hB (Nat.le_refl _) hQ (List.range ops.size) (by simp) (by simp) List.pairwise_lt_range ?_ ?_ hfm hA h1 h2 (by rw [hlen];exact h)
  ·intro j
   rw [List.mem_range]
   constructor
   ·intro hj
    refine ⟨hj,?_⟩
    rw [Array.getD_eq_getD_getElem?,Array.getElem?_replicate,if_pos hj]
    rfl
   ·exact fun h=>h.1
  ·intro x o hx hl
   rw [Array.getD_eq_getD_getElem?,Array.getElem?_replicate,if_pos (Array.getElem?_eq_some_iff.1 hx).1] at hl
   cases hl
 split at hcr
 ·rename_i hd1
  split at hcr
  case isFalse=>cases hcr
  rename_i hd2
  injection hcr with hcr
  have hdr:draw=true:=by
   cases draw with
   | true=>rfl
   | false=>simp at hd1
  exact @drawn (toFs X.fz aops) (by simpa [toFs] using hlen0) (lows hc _) hd2 hdr hcr.symm
 rename_i hd1
 injection hcr with hcr
 cases hdraw:draw with
 | true=>
  rw [← hdraw]
  exact @drawn aops hlen0 (lows0 hc) (by rw [hdraw] at hd1;simpa using hd1) hdraw hcr.symm
 | false=>
  subst hcr
  intro σ st e σ' st' h G w0 w a hfm hA hR Q hQ
  simp only [acode,Option.map_eq_some_iff,Prod.mk.injEq] at h
  obtain ⟨⟨σ1,st1⟩,h,rfl,rfl,rfl⟩:=h
  unfold areg at h
  rw [aregL_O (ops:=aops) (fun j=>by simp)] at h
  rw [← List.range_eq_range'] at h
  refine wp_region ?_
  obtain ⟨h1,h2⟩:=region_in (d:=d) (id:=bigId X id ops) (aops:=aops) hR (l:=List.range ops.size)
  rw [hlen0] at h
  exact ops_ok hT hC hc hB (Nat.le_refl _) hQ (List.range ops.size) hfm List.nodup_range hA h1 h2 (by rw [hlen0];exact h)
theorem loop_ok {nt d:Nat} {f:Sl→St→Option (AE × Sl × St)} {c:Code} (ih:CodeOk P X nt d f c) :∀(m:Nat) {σ:Sl} {st:St} {e:AE} {σ':Sl} {st':St},iter f m σ st=some (e,σ',st')→∀{G:Gh} {w0 w:World} {a:Act},X.fm=G.fm→RelA G nt σ a→Rel G w0 st w→
  ∀{Q:Exit→Act→World→Prop},(∀a' w' G',RelA G' nt σ' a'→Run G G' w0 st st' w' d→Q (toExit e) a' w')→Code.rounds P c Q m a w
 | 0,σ,st,e,σ',st',h,G,w0,w,a,_,_,_,Q,_=>by cases h
 | m+1,σ,st,e,σ',st',h,G,w0,w,a,hfm,hA,hR,Q,hQ=>by
  rw [rounds_succ]
  simp only [iter] at h
  split at h
  ·rename_i σ1 st1 h1
   refine ih h1 hfm hA hR fun a1 w1 G1 hA1 hrun1=>?_
   exact loop_ok ih m h (by rw [hrun1.le.fm];exact hfm) hA1 hrun1.rel fun a2 w2 G2 hA2 hrun2=>hQ a2 w2 G2 hA2 (hrun1.trans hrun2)
  ·rename_i hne
   refine ih h hfm hA hR fun a1 w1 G1 hA1 hrun1=>?_
   have:=hQ a1 w1 G1 hA1 hrun1
   cases e with
   | normal=>exact absurd h (hne _ _)
   | exit id=>exact this
   | ret=>exact this
   | goto l=>exact this
theorem jumps_ok {nt d l:Nat} {f:Sl→St→Option (AE × Sl × St)} {y:Code} (ih:CodeOk P X nt d f y) :∀(m:Nat) {σ:Sl} {st:St} {e:AE} {σ':Sl} {st':St},iterG l f m σ st=some (e,σ',st')→∀{G:Gh} {w0 w:World} {a:Act},X.fm=G.fm→RelA G nt σ a→Rel G w0 st w→
  ∀{Q:Exit→Act→World→Prop},(∀a' w' G',RelA G' nt σ' a'→Run G G' w0 st st' w' d→Q (toExit e) a' w')→jumps P y l Q m a w
 | 0,σ,st,e,σ',st',h,G,w0,w,a,_,_,_,Q,_=>by cases h
 | m+1,σ,st,e,σ',st',h,G,w0,w,a,hfm,hA,hR,Q,hQ=>by
  simp only [jumps]
  simp only [iterG] at h
  split at h
  ·rename_i l' σ2 st2 h2
   split at h
   ·rename_i hl
    refine ih h2 hfm hA hR fun a2 w2 G2 hA2 hrun2=>⟨hl,?_⟩
    exact jumps_ok ih m h (by rw [hrun2.le.fm];exact hfm) hA2 hrun2.rel fun a3 w3 G3 hA3 hrun3=>hQ a3 w3 G3 hA3 (hrun2.trans hrun3)
   ·cases h
  ·rename_i hne
   refine ih h hfm hA hR fun a2 w2 G2 hA2 hrun2=>?_
   have:=hQ a2 w2 G2 hA2 hrun2
   cases e with
   | normal=>exact this
   | exit id=>exact this
   | ret=>exact this
   | goto l=>exact absurd h (hne _ _ _)
theorem stk_ok {C:CallF} {nt n d:Nat} {c:Code}:CodeOk P X nt d (acode C n d stk) c:=by
 intro σ st e σ' st' h
 simp only [stk,acode,Opd.ev] at h
 cases h
theorem seq_ok {C:CallF} {nt n d:Nat} {ax ay:AC} {x y:Code} (hx:CodeOk P X nt d (acode C n d ax) x) (hy:CodeOk P X nt d (acode C n d ay) y):CodeOk P X nt d (acode C n d (.seq ax ay)) (.seq x y):=by
 intro σ st e σ' st' h G w0 w a hfm hA hR Q hQ
 simp only [acode] at h
 split at h
 ·rename_i σ1 st1 h1
  refine wp_seq (hx h1 hfm hA hR fun a1 w1 G1 hA1 hrun1=>?_)
  exact hy h (by rw [hrun1.le.fm];exact hfm) hA1 hrun1.rel fun a2 w2 G2 hA2 hrun2=>hQ a2 w2 G2 hA2 (hrun1.trans hrun2)
 ·rename_i hne
  refine wp_seq (hx h hfm hA hR fun a1 w1 G1 hA1 hrun1=>?_)
  have:=hQ a1 w1 G1 hA1 hrun1
  cases e with
  | normal=>exact absurd h (hne _ _)
  | exit id=>exact this
  | ret=>exact this
  | goto l=>exact this
theorem code_ok {C:CallF} (hT:TTok P X.T) (hC:CallOk P X.fm C) (hm:P.follows .mixedOrders=true) {nt:Nat} (n d:Nat) :∀(k:Nat) (c:Code),SizeOf.sizeOf c<k→∀{ac:AC},cCode X nt c=some ac→CodeOk P X nt d (acode C n d ac) c:=by
 intro k
 induction k with
 | zero=>intro c hk;exact absurd hk (Nat.not_lt_zero _)
 | succ k ihk=>
 intro c hk ac hc
 cases c with
 | skip=>
  cases hc
  intro σ st e σ' st' h G w0 w a hfm hA hR Q hQ
  cases h
  exact wp_skip (hQ a w G hA (.refl hR))
 | label l=>
  cases hc
  intro σ st e σ' st' h G w0 w a hfm hA hR Q hQ
  cases h
  exact wp_label (hQ a w G hA (.refl hR))
 | exit id=>
  cases hc
  intro σ st e σ' st' h G w0 w a hfm hA hR Q hQ
  cases h
  exact wp_exit (hQ a w G hA (.refl hR))
 | goto l=>
  cases hc
  intro σ st e σ' st' h G w0 w a hfm hA hR Q hQ
  cases h
  exact wp_goto (hQ a w G hA (.refl hR))
 | ret=>
  cases hc
  intro σ st e σ' st' h G w0 w a hfm hA hR Q hQ
  cases h
  exact wp_ret (hQ a w G hA (.refl hR))
 | region id ops draw=>
  unfold cCode at hc
  split at hc
  ·rename_i x hx;cases hc;exact region_ok hT hC hm hx
  ·cases hc;exact stk_ok
 | seq x y=>
  unfold cCode at hc
  split at hc
  ·rename_i ax ay hx hy
   cases hc
   exact seq_ok (ihk _ (by simp at hk;omega) hx) (ihk _ (by simp at hk;omega) hy)
  ·cases hc
 | cond z x y=>
  unfold cCode at hc
  split at hc
  ·rename_i az ax ay hz hx hy
   cases hc
   intro σ st e σ' st' h G w0 w a hfm hA hR Q hQ
   simp only [acode] at h
   rw [hfm] at hz
   have hv:=cOpd_ok hA hz
   unfold Same at hv
   revert hv
   split at h
   ·rename_i ht
    rw [ht]
    intro hv
    exact wp_cond_true hv.bool_inv (ihk _ (by simp at hk;omega) hx h hfm hA hR hQ)
   ·rename_i ht
    rw [ht]
    intro hv
    exact wp_cond_false hv.bool_inv (ihk _ (by simp at hk;omega) hy h hfm hA hR hQ)
   ·cases h
  ·cases hc
 | block id c=>
  unfold cCode at hc
  split at hc
  ·rename_i x hx
   cases hc
   intro σ st e σ' st' h G w0 w a hfm hA hR Q hQ
   simp only [acode] at h
   refine wp_block ?_
   split at h
   ·rename_i id' σ1 st1 h1
    refine ihk _ (by simp at hk;omega) hx h1 hfm hA hR fun a1 w1 G1 hA1 hrun1=>?_
    split at h
    ·rename_i hid
     cases h
     have:=hQ a1 w1 G1 hA1 hrun1
     simp only [toExit,Exit.inBlock,hid,if_true]
     exact this
    ·rename_i hid
     cases h
     have:=hQ a1 w1 G1 hA1 hrun1
     simp only [toExit,Exit.inBlock,hid,if_false]
     exact this
   ·rename_i hne
    refine ihk _ (by simp at hk;omega) hx h hfm hA hR fun a1 w1 G1 hA1 hrun1=>?_
    have:=hQ a1 w1 G1 hA1 hrun1
    cases e with
    | normal=>exact this
    | exit id'=>exact absurd h (hne _ _ _)
    | ret=>exact this
    | goto l=>exact this
  ·cases hc
 | loop c=>
  unfold cCode at hc
  split at hc
  ·rename_i x hx
   cases hc
   have ih:CodeOk P X nt d (acode C n d x) c:=ihk _ (by simp at hk;omega) hx
   intro σ st e σ' st' h G w0 w a hfm hA hR Q hQ
   simp only [acode] at h
   exact wp_loop_rounds n (loop_ok ih n h hfm hA hR hQ)
  ·cases hc
 | rangeFunc f ps x y=>cases hc;exact stk_ok
 | refuse why=>
  cases hc
  intro σ st e σ' st' h
  simp only [acode,Opd.ev] at h
  cases h
 | scope c=>
  unfold cCode at hc
  split at hc
  all_goals first | (rename_i hq;cases hq;done) | skip
  all_goals (first | (cases hc;done) | skip)
  all_goals (first | (injection hc with hc;subst hc;exact stk_ok) | skip)
  rename_i id ops draw l y hq
  injection hq with hq
  subst hq
  split at hc
  ·rename_i ax ay hx hy
   cases hc
   have ih:CodeOk P X nt d (acode C n d ay) y:=ihk _ (by simp at hk;omega) hy
   have ihx:CodeOk P X nt d (acode C n d ax) (.region id ops draw):=region_ok hT hC hm hx
   intro σ st e σ' st' h G w0 w a hfm hA hR Q hQ
   simp only [acode] at h
   split at h
   case h_2=>cases h
   rename_i σ1 st1 h1
   refine wp_scope_rounds l n rfl (ihx h1 hfm hA hR fun a1 w1 G1 hA1 hrun1=>?_)
   exact jumps_ok ih n h (by rw [hrun1.le.fm];exact hfm) hA1 hrun1.rel fun a' w' G' h1 h2=>hQ a' w' G' h1 (hrun1.trans h2)
  ·cases hc
end
end Go.AM

/- Parts of the proof. -/
namespace Go.AM
open Go Go.RowKit Go.BigFrame
def cRes (X:Cx):ResultVar→Option ARes
 | .tmp t=>some (.tmp t)
 | .cell p t=>match X.T t with | some i=>if okSize i=true then some (.cell p i.size i.kind.agg) else none | none=>none
def cRess (X:Cx):List ResultVar→Option (List ARes)
 | []=>some []
 | r::l=>match cRes X r,cRess X l with | some x,some xs=>some (x::xs) | _,_=>none
def GoodF (P:Program) (X:Cx) (F:AF) (code:Code):Prop:=TTok P X.T→P.follows .mixedOrders=true→∀C,CallOk P X.fm C→∀n d,CodeOk P { X with fz:=F.fz } F.nt d (acode C n d F.body) code
theorem GoodF.of {P:Program} {X:Cx} {F:AF} {code:Code} (h:cCode { X with fz:=F.fz } F.nt code=some F.body):GoodF P X F code:=
 fun hT hm _ hC n d=>code_ok (X:={ X with fz:=F.fz }) hT hC hm n d (SizeOf.sizeOf code+1) code (Nat.lt_succ_self _) h
structure FnOk (P:Program) (X:Cx) (f:FuncId) (F:AF):Prop where
 ok :∃fn code,P.funcs[f]?=some fn∧(fn.name== "runtime.NumGoroutine")=false∧fn.body=some code∧fn.ntmps=F.nt∧GoodF P X F code∧cRess X fn.results.toList=some F.res∧F.res.length≤4
def ProgOk (P:Program) (X:Cx) (fn:Nat→Option AF):Prop:=∀f c F,X.fm f=some c→fn c=some F→FnOk P X f F
def OracOk (P:Program) (X:Cx) (prog:Prog):Prop:=∀f c,X.fm f=some c→prog.fn c=none→∀args r,prog.orac c args=some r→
 ∀G w0 st w vals d,G.fm=X.fm→Rel G w0 st w→Rs G args vals→Goes P f vals.toArray w fun v w'=>∃G',R G' r v∧Run G G' w0 st st w' d
def OracSOk (P:Program) (X:Cx) (prog:Prog):Prop:=∀f c,X.fm f=some c→prog.fn c=none→∀args st r st',prog.oracS c args st=some (r,st')→
 ∀G w0 w vals d,G.fm=X.fm→Rel G w0 st w→Rs G args vals→Goes P f vals.toArray w fun v w'=>∃G',R G' r v∧Run G G' w0 st st' w' d
section
variable {P:Program} {X:Cx} {G:Gh} {w0 w:World} {st:St}
def resVar (tmps:Array Value) (r:ResultVar):Sem Value:=
 match r with
 | .tmp t=>pure (tmps.getD t undef)
 | .cell a t=>do loadVar t (← asAddr (tmps.getD a undef))
theorem res1_ok (hT:TTok P X.T) {nt:Nat} {σ:Sl} {a:Act} (hA:RelA G nt σ a) (hR:Rel G w0 st w) {r:ResultVar} {x:ARes} (hc:cRes X r=some x) {v:AV} (h:ares1 σ st x=some v) :
  ∃u,(resVar a.tmps r).run P w=.ok u w∧R G v u:=by
 cases r with
 | tmp t=>
  cases hc
  cases h
  exact ⟨_,rfl,hA.2.2 t⟩
 | cell p t=>
  simp only [cRes] at hc
  split at hc
  case h_2=>cases hc
  rename_i i hi
  split at hc
  case isFalse=>cases hc
  rename_i hs
  cases hc
  simp only [ares1] at h
  have hv:=hA.2.2 p
  obtain ⟨u,h1,h2⟩:=aload_ok hR (hT t i hi) (okSize_inv hs) h hv
  refine ⟨u,?_,h2⟩
  have hp :∃q,a.tmps.getD p undef=.pointer (some q):=by
   unfold aload at h
   revert hv
   generalize σ p=z at h
   intro hv
   revert hv
   split at h
   ·intro hv;obtain ⟨g,off,us,h3,_⟩:=hv.fp_inv;exact ⟨_,h3⟩
   ·intro hv;obtain ⟨g,h3,_⟩:=hv.p_inv;exact ⟨_,h3⟩
   ·cases h
  obtain ⟨q,hq⟩:=hp
  rw [hq] at h1
  simp only [resVar,hq,asAddr,Sem.run_bind,Sem.run_pure,Result.andThen_ok]
  simpa only [Instr.loadAt,Instr.sureAddr,Sem.run_bind,Sem.run_pure,Result.andThen_ok] using h1
theorem resL_ok (hT:TTok P X.T) {nt:Nat} {σ:Sl} {a:Act} (hA:RelA G nt σ a) (hR:Rel G w0 st w) :∀{l:List ResultVar} {xs:List ARes},cRess X l=some xs→∀{vs:List AV},aresL σ st xs=some vs→
  ∃us:List Value,us.length=l.length∧(∀(j:Nat) r u,l[j]?=some r→us[j]?=some u→(resVar a.tmps r).run P w=.ok u w)∧Rs G vs us
 | [],xs,hc,vs,h=>by
  cases hc
  cases h
  exact ⟨[],rfl,by simp,rfl,by simp⟩
 | r::l,xs,hc,vs,h=>by
  unfold cRess at hc
  split at hc
  case h_2=>cases hc
  rename_i x ys hx hl
  cases hc
  unfold aresL at h
  split at h
  case h_2=>cases h
  rename_i v vl hv hvl
  cases h
  obtain ⟨u,h1,h2⟩:=res1_ok hT hA hR hx hv
  obtain ⟨us,h3,h4,h5⟩:=resL_ok hT hA hR hl hvl
  refine ⟨u::us,by simp [h3],fun j r' u' hj hu=>?_,by simp [h5.1],fun j a' u' ha hu=>?_⟩
  ·cases j with
   | zero=>simp at hj hu;subst hj;subst hu;exact h1
   | succ j=>exact h4 j r' u' (by simpa using hj) (by simpa using hu)
  ·cases j with
   | zero=>simp at ha hu;subst ha;subst hu;exact h2
   | succ j=>exact h5.2 j a' u' (by simpa using ha) (by simpa using hu)
theorem results_eq (fn:Func) (tmps:Array Value):results fn tmps=(do
  let vs ← fn.results.mapM (resVar tmps)
  pure (if h:vs.size=1 then vs[0] else .tuple vs)):=rfl
theorem cRess_len :∀{l:List ResultVar} {xs:List ARes},cRess X l=some xs→l.length=xs.length
 | [],xs,hc=>by cases hc;rfl
 | r::l,xs,hc=>by
  unfold cRess at hc
  split at hc
  case h_2=>cases hc
  rename_i x ys hx hl
  cases hc
  simp [cRess_len hl]
theorem results_ok (hT:TTok P X.T) {nt:Nat} {σ:Sl} {a:Act} (hA:RelA G nt σ a) (hR:Rel G w0 st w) {fn:Func} {xs:List ARes} (hc:cRess X fn.results.toList=some xs) (hl:xs.length≤4) {r:AV} (h:ares σ st xs=some r) :
  ∃u,(results fn a.tmps).run P w=.ok u w∧R G r u:=by
 obtain ⟨l,hres⟩ :∃l:List ResultVar,fn.results=l.toArray:=⟨fn.results.toList,by simp⟩
 rw [hres] at hc
 have hlen:=cRess_len hc
 rw [results_eq,hres]
 by_cases h1:xs.length=1
 ·match xs,h1 with
  | [x],_=>
   match l,hlen with
   | [q],_=>
    unfold cRess at hc
    split at hc
    case h_2=>cases hc
    rename_i x' ys hx hl'
    injection hc with hc
    injection hc with hc1 hc2
    subst hc1
    simp only [ares] at h
    obtain ⟨u,h2,h3⟩:=res1_ok hT hA hR hx h
    exact ⟨u,by simp [h2],h3⟩
 ·have h2 :∃vs,aresL σ st xs=some vs∧r=.tup vs:=by
   unfold ares at h
   split at h
   ·simp at h1
   ·simp only [Option.map_eq_some_iff] at h
    obtain ⟨vs,h3,h4⟩:=h
    exact ⟨vs,h3,h4.symm⟩
  obtain ⟨vs,h3,rfl⟩:=h2
  obtain ⟨us,h4,h5,h6⟩:=resL_ok hT hA hR hc h3
  refine ⟨.tuple us.toArray,?_,.tup vs us h6.1 h6.2⟩
  match l,us,h4 with
  | [],[],_=>simp
  | [_],_,_=>simp at hlen;omega
  | [q1,q2],[u1,u2],_=>simp [h5 0 q1 u1 rfl rfl,h5 1 q2 u2 rfl rfl]
  | [q1,q2,q3],[u1,u2,u3],_=>simp [h5 0 q1 u1 rfl rfl,h5 1 q2 u2 rfl rfl,h5 2 q3 u3 rfl rfl]
  | [q1,q2,q3,q4],[u1,u2,u3,u4],_=>simp [h5 0 q1 u1 rfl rfl,h5 1 q2 u2 rfl rfl,h5 2 q3 u3 rfl rfl,h5 3 q4 u4 rfl rfl]
  | _::_::_::_::_::_,_,_=>simp at hlen;omega
theorem RelA.enter {nt:Nat} {args:List AV} {vals:List Value} (h:Rs G args vals) (hn:args.length≤nt):RelA G nt (sl0 args) { tmps:=vals.toArray++Array.replicate (nt-vals.toArray.size) undef,defers:=[] }:=by
 refine ⟨rfl,?_,fun t=>?_⟩
 ·have:=h.1
  simp only [Array.size_append,List.size_toArray,Array.size_replicate]
  omega
 ·have hl:=h.1
  unfold sl0
  rw [Array.getD_eq_getD_getElem?,List.getD_eq_getElem?_getD]
  rcases Nat.lt_or_ge t args.length with ht | ht
  ·rw [Array.getElem?_append_left (by simp;omega)]
   have hv:t<vals.length:=by omega
   rw [List.getElem?_eq_getElem ht]
   simp only [List.getElem?_toArray,List.getElem?_eq_getElem hv,Option.getD_some]
   exact h.2 t _ _ (List.getElem?_eq_getElem ht) (List.getElem?_eq_getElem hv)
  ·rw [List.getElem?_eq_none ht,Array.getElem?_append_right (by simp;omega),Array.getElem?_replicate]
   split
   ·exact R.und
   ·exact R.und
theorem Run.out {G':Gh} {st':St} {w':World} {d:Nat} (h:Run G G' w0 st st' w' d):Run G G' w0 st { st' with bx:=st'.bx.filter fun x=>x.1.1<d } w' d:=by
 have hlk :∀k,lk (st'.bx.filter fun x=>x.1.1<d) k=if k.1<d then lk st'.bx k else none:=by
  intro k
  have:=lk_filter st'.bx (fun k=>decide (k.1<d)) k
  simpa using this
 have hsub :∀{k v},lk (st'.bx.filter fun x=>x.1.1<d) k=some v→lk st'.bx k=some v:=by
  intro k v h1
  rw [hlk] at h1
  split at h1
  ·exact h1
  ·cases h1
 have hr:=h.rel
 refine ⟨h.le,⟨hr.bel,hr.ext,fun k ver cs g h1 h2=>hr.bx k ver cs g (hsub h1) h2,fun k k' ver ver' cs cs' g h1 h2 h3 h4=>hr.inj k k' ver ver' cs cs' g (hsub h1) (hsub h2) h3 h4,?_,hr.owinj,hr.fresh,fun k ver cs g hb h1 h2=>hr.bxT k ver cs g hb (hsub h1) h2,hr.owT,hr.mp⟩,h.nx,h.old,?_,h.newH⟩
 ·intro k ver n h1
  obtain ⟨g,cap,size,h2,h3,h4⟩:=hr.ow k ver n h1
  exact ⟨g,cap,size,h2,h3,fun k' ver' cs' h5=>h4 k' ver' cs' (hsub h5)⟩
 ·intro k v cs hk hv hn hl
  show lk (st'.bx.filter _) k=_
  rw [hlk,if_pos hk]
  exact h.pend k v cs hk hv hn hl
theorem callFunc_enter {f:FuncId} {fn:Func} {code:Code} (hf:P.funcs[f]?=some fn) (hn:(fn.name== "runtime.NumGoroutine")=false) (hb:fn.body=some code) (vals:Array Value):(callFunc f vals).run P w=.ok (.enter f vals) w:=by
 simp only [callFunc,Sem.run_bind,run_program,Result.andThen_ok,hf,hn,hb,Option.isNone_some,Bool.false_eq_true,if_false,Sem.run_pure]
theorem calls_ok (hT:TTok P X.T) (hm:P.follows .mixedOrders=true) {prog:Prog} (hP:ProgOk P X prog.fn) (hO:OracOk P X prog) (hS:OracSOk P X prog) :∀n,CallOk P X.fm (acall prog n)
 | 0=>by intro d c args st r st' h;cases h
 | n+1=>by
  intro d c args st r st' h f hf G w0 w vals hfm hR hV
  rw [acall] at h
  cases hc:prog.fn c with
  | none=>
   rw [hc] at h
   simp only at h
   split at h
   ·rename_i r' h1
    cases h
    exact hO f c hf hc args _ h1 G w0 st w vals d hfm hR hV
   ·exact hS f c hf hc args st r st' h G w0 w vals d hfm hR hV
  | some F=>
   rw [hc] at h
   simp only at h
   split at h
   case isFalse=>cases h
   rename_i hn
   obtain ⟨fn,code,h1,h2,h3,h4,h5,h6,h7⟩:=(hP f c F hf hc).ok
   refine .inl ⟨callFunc_enter h1 h2 h3 _,calls_of_wp h1 h3 ?_⟩
   rw [h4]
   have hcode:CodeOk P { X with fz:=F.fz } F.nt d (acode (acall prog n) n d F.body) code:=h5 hT hm _ (calls_ok hT hm hP hO hS n) n d
   have fin :∀{σ:Sl} {st1:St} {r':AV},ares σ st1 F.res=some r'→r'=r→{ st1 with bx:=st1.bx.filter fun x=>x.1.1<d }=st'→∀a' w' G',RelA G' F.nt σ a'→Run G G' w0 st st1 w' d→
     a'.defers=[]∧∃v,(results fn a'.tmps).run P w'=.ok v w'∧∃G',R G' r v∧Run G G' w0 st st' w' d:=by
    intro σ st1 r' h8 h9 h10 a' w' G' hA' hrun
    subst h9
    subst h10
    obtain ⟨u,h11,h12⟩:=results_ok hT hA' hrun.rel h6 h7 h8
    exact ⟨hA'.1,u,h11,G',h12,hrun.out⟩
   split at h
   ·rename_i σ st1 h8
    simp only [Option.map_eq_some_iff,Prod.mk.injEq] at h
    obtain ⟨r',h9,h10,h11⟩:=h
    exact hcode h8 hfm.symm (RelA.enter hV hn) hR (fin h9 h10 h11)
   ·rename_i σ st1 h8
    simp only [Option.map_eq_some_iff,Prod.mk.injEq] at h
    obtain ⟨r',h9,h10,h11⟩:=h
    exact hcode h8 hfm.symm (RelA.enter hV hn) hR (fin h9 h10 h11)
   ·cases h
end
end Go.AM

/- Parts of the proof. -/
namespace Go.AM
open Go Go.RowKit
def HasC (T:TTab):Nat→TypeId→List AV→Prop
 | 0,_,_=>False
 | f+1,t,vsA=>match T t with
  | some i=>match i.kind with
   | .int k=>∃n,vsA=[.i k n]∧k.min≤n∧n≤k.max
   | .bool=>∃b,vsA=[.b b]
   | .str=>∃s,vsA=[.s s]∧s.length≤maxLen
   | .sl e=>∃rows,vsA=[.sl .ext rows]∧rows.length≤maxLen∧(∀r∈rows,HasC T f e r)∧∀j,T e=some j→∀r∈rows,r.length=j.size
   | .st fs=>∀x∈fs,∃j,T x.1=some j∧HasC T f x.1 ((vsA.drop x.2).take j.size)
   | _=>False
  | none=>False
def contig (T:TTab):Nat→List (Nat × Nat)→Option Nat
 | off,[]=>some off
 | off,(t,o)::r=>match T t with
  | some i=>if o=off then contig T (off+i.size) r else none
  | none=>none
def okTy (T:TTab) (L:List Nat) (t:Nat):Bool:=
 match T t with
 | some i=>match i.kind with
  | .int _ | .bool | .str=>i.size==1
  | .sl e=>L.contains e&&(match T e with | some j=>decide (0<j.size) | none=>false)
  | .st fs=>(fs.all fun x=>L.contains x.1)&&contig T 0 fs==some i.size
  | _=>false
 | none=>false
def H0 (w:World):Hp:=fun g o=>match w.cell? ⟨g,o,none⟩ with | some v=>if v.oneCell' then some v else none | none=>none
theorem H0_some {w:World} {g o:Nat} {v:Value} (h:w.cell? ⟨g,o,none⟩=some v) (h1:v.oneCell'=true):H0 w g o=some v:=by
 simp only [H0,h,h1,if_true]
theorem H0_inv {w:World} {g o:Nat} {v:Value} (h:H0 w g o=some v):w.cell? ⟨g,o,none⟩=some v∧v.oneCell'=true:=by
 unfold H0 at h
 split at h
 ·rename_i v' hv
  split at h
  ·rename_i h1;cases h;exact ⟨hv,h1⟩
  ·cases h
 ·cases h
def Good (w:World) (vsA:List AV) (cs:List Value):Prop:=vsA.length=cs.length∧∀(j:Nat) a u,vsA[j]?=some a→cs[j]?=some u→Fz (H0 w) a u∧a.one=true
theorem Good.one {w:World} {a:AV} {u:Value} (h:Fz (H0 w) a u) (h1:a.one=true):Good w [a] [u]:=by
 refine ⟨rfl,fun j x y hx hy=>?_⟩
 cases j with
 | zero=>simp at hx hy;subst hx;subst hy;exact ⟨h,h1⟩
 | succ j=>simp at hx
theorem Good.append {w:World} {vsA bs:List AV} {cs ds:List Value} (h:Good w vsA cs) (k:Good w bs ds):Good w (vsA++bs) (cs++ds):=by
 refine ⟨by simp [h.1,k.1],fun j x y hx hy=>?_⟩
 rcases Nat.lt_or_ge j vsA.length with hj | hj
 ·rw [List.getElem?_append_left hj] at hx
  rw [List.getElem?_append_left (by rw [← h.1];exact hj)] at hy
  exact h.2 j x y hx hy
 ·rw [List.getElem?_append_right hj] at hx
  rw [List.getElem?_append_right (by rw [← h.1];exact hj),← h.1] at hy
  exact k.2 _ x y hx hy
section
variable {H:Type} {enc:TypeId × Value→H} {P:Program} {T:TTab} {w:World} {base:Nat} {spare:Nat→Bool} {held:Bool} {L:List Nat}
theorem cellsOf_T (hT:TTok P T) {t:Nat} {i:TI} (h:T t=some i):P.cellsOf t=i.size:=by
 obtain ⟨ti,z,h1,h2,_⟩:=(hT t i h).info
 simp [Program.cellsOf,h1,h2]
theorem fields_good (hT:TTok P T) {f:Nat} {cs:List Value}
  (ih :∀t,L.contains t=true→∀cs x,DataW.trod enc P w base spare held f t cs=some x→∃vsA,Good w vsA cs∧HasC T f t vsA) :
  ∀(fs:List (Nat × Nat)) (fields:List Field) (off tot:Nat) xs,fields.map (fun g=>(g.type,g.offset))=fs→contig T off fs=some tot→tot=cs.length→(fs.all fun x=>L.contains x.1)=true→
   fields.mapM (fun g=>DataW.trod enc P w base spare held f g.type ((cs.drop g.offset).take (P.cellsOf g.type)))=some xs→
   off≤tot∧∃vsA,Good w vsA (cs.drop off)∧∀x∈fs,off≤x.2∧∃j,T x.1=some j∧HasC T f x.1 ((vsA.drop (x.2-off)).take j.size)
 | [],fields,off,tot,xs,hf,hc,ht,_,_=>by
  cases hc
  refine ⟨Nat.le_refl _,[],⟨by simp [ht],by simp⟩,by simp⟩
 | (t,o)::fs,[],off,tot,xs,hf,hc,ht,_,_=>by cases hf
 | (t,o)::fs,g::fields,off,tot,xs,hf,hc,ht,hL,hm=>by
  simp only [List.map_cons,List.cons.injEq,Prod.mk.injEq] at hf
  obtain ⟨⟨rfl,rfl⟩,hf⟩:=hf
  unfold contig at hc
  split at hc
  case h_2=>cases hc
  rename_i i hi
  split at hc
  case isFalse=>cases hc
  rename_i ho
  simp only [List.all_cons,Bool.and_eq_true] at hL
  rw [List.mapM_cons] at hm
  simp only [Option.bind_eq_bind,Option.bind_eq_some_iff,Option.pure_def,Option.some.injEq] at hm
  obtain ⟨x,h1,ys,h2,_⟩:=hm
  obtain ⟨hle,bs,hb1,hb2⟩:=fields_good hT ih fs fields _ tot ys hf hc ht hL.2 h2
  rw [cellsOf_T hT hi] at h1
  obtain ⟨vsA,ha1,ha2⟩:=ih _ hL.1 _ _ h1
  have hsz:vsA.length=i.size:=by rw [ha1.1];simp;omega
  refine ⟨by omega,vsA++bs,?_,?_⟩
  ·have:=ha1.append hb1
   rw [ho] at this
   have e:(cs.drop off).take i.size++cs.drop (off+i.size)=cs.drop off:=by
    rw [← List.drop_drop,List.take_append_drop]
   rwa [e] at this
  ·intro y hy
   rcases List.mem_cons.1 hy with rfl | hy
   ·refine ⟨by simp [ho],i,hi,?_⟩
    simp only [ho,Nat.sub_self,List.drop_zero]
    rw [← hsz,List.take_left]
    exact ha2
   ·obtain ⟨h3,j,h4,h5⟩:=hb2 y hy
    refine ⟨by omega,j,h4,?_⟩
    have e:y.2-off=vsA.length+(y.2-(off+i.size)):=by omega
    rw [e,← List.drop_drop,List.drop_left]
    exact h5
theorem cells_get {a:Addr} {n:Nat} {cs:List Value} (h:w.cells? base a n=some cs):cs.length=n∧∀(i:Nat),i<n→w.cell? (a.add i)=cs[i]?:=by
 unfold World.cells? at h
 split at h
 case isFalse=>cases h
 have hl:=mapM_some_length h
 simp at hl
 refine ⟨hl,fun i hi=>?_⟩
 exact mapM_some_get h i i (by simp [hi])
theorem lit_wf {k:IntKind} {n:Int} (h:(Lit.int k n).wf=true):k.min≤n∧n≤k.max:=by
 simp only [Lit.wf,Bool.and_eq_true,decide_eq_true_eq] at h
 exact h
theorem inv_int {f t:Nat} {cs:List Value} {x:DataW H × List MemPlace} {k:IntKind} (hk:P.underlying t=some (.int k)) (h:DataW.trod enc P w base spare held (f+1) t cs=some x) :∃n,cs=[.int k n]∧k.min≤n∧n≤k.max:=by
 unfold DataW.trod at h
 rw [hk] at h
 split at h
 all_goals rename_i heq
 all_goals first | (injection heq with heq;cases heq;done) | skip
 ·injection heq with heq
  injection heq with heq
  subst heq
  split at h
  ·rename_i hc
   obtain ⟨rfl,hw⟩:=hc
   exact ⟨_,rfl,lit_wf hw⟩
  ·cases h
 ·cases h
theorem inv_bool {f t:Nat} {cs:List Value} {x:DataW H × List MemPlace} (hk:P.underlying t=some .bool) (h:DataW.trod enc P w base spare held (f+1) t cs=some x) :∃b,cs=[.bool b]:=by
 unfold DataW.trod at h
 rw [hk] at h
 split at h
 all_goals rename_i heq
 all_goals first | (injection heq with heq;cases heq;done) | skip
 ·exact ⟨_,rfl⟩
 ·cases h
theorem inv_str {f t:Nat} {cs:List Value} {x:DataW H × List MemPlace} (hk:P.underlying t=some .string) (h:DataW.trod enc P w base spare held (f+1) t cs=some x) :∃s,cs=[.string s]∧s.size≤maxLen:=by
 unfold DataW.trod at h
 rw [hk] at h
 split at h
 all_goals rename_i heq
 all_goals first | (injection heq with heq;cases heq;done) | skip
 ·split at h
  ·exact ⟨_,rfl,by assumption⟩
  ·cases h
 ·cases h
theorem inv_sl {f t e:Nat} {cs:List Value} {x:DataW H × List MemPlace} (hk:P.underlying t=some (.slice e)) (h:DataW.trod enc P w base spare held (f+1) t cs=some x):cs=[.slice none 0 0]∨
  ∃a len cap,cs=[.slice (some a) len cap]∧len≤cap∧cap≤maxLen∧∀i,i<len→∃cs' y,w.cells? base (a.add (i*P.cellsOf e)) (P.cellsOf e)=some cs'∧DataW.trod enc P w base spare held f e cs'=some y:=by
 unfold DataW.trod at h
 rw [hk] at h
 split at h
 all_goals rename_i heq
 all_goals first | (injection heq with heq;cases heq;done) | skip
 ·exact .inl rfl
 ·injection heq with heq
  injection heq with heq
  subst heq
  refine .inr ⟨_,_,_,rfl,?_⟩
  simp only at h
  split at h
  case isFalse=>cases h
  rename_i hc
  refine ⟨hc.2.1,hc.2.2,fun i hi=>?_⟩
  rw [Option.bind_eq_some_iff] at h
  obtain ⟨elems,h1,_⟩:=h
  have hl:=mapM_some_length h1
  simp at hl
  have:=mapM_some_get h1 i i (by simp [hi])
  rw [List.getElem?_eq_getElem (by omega),Option.bind_eq_some_iff] at this
  obtain ⟨cs',h2,h3⟩:=this
  exact ⟨cs',_,h2,h3⟩
 ·cases h
theorem inv_st {f t:Nat} {fs:Array Field} {cs:List Value} {x:DataW H × List MemPlace} (hk:P.underlying t=some (.struct fs)) (h:DataW.trod enc P w base spare held (f+1) t cs=some x):cs.length=P.cellsOf t∧∃xs,fs.toList.mapM (fun g=>DataW.trod enc P w base spare held f g.type ((cs.drop g.offset).take (P.cellsOf g.type)))=some xs:=by
 unfold DataW.trod at h
 rw [hk] at h
 split at h
 all_goals rename_i heq
 all_goals first | (injection heq with heq;cases heq;done) | skip
 ·injection heq with heq
  injection heq with heq
  subst heq
  split at h
  case isFalse=>cases h
  rename_i hc
  rw [Option.map_eq_some_iff] at h
  obtain ⟨xs,h1,_⟩:=h
  exact ⟨hc,xs,h1⟩
 ·simp_all
theorem add_one {a:Addr} {n:Nat} (h:(w.cell? (a.add n)).isSome=true):a.add n=⟨a.block,a.off+n,none⟩:=by
 unfold Addr.add at h ⊢
 split
 ·rename_i hn
  rw [if_pos hn] at h
  subst hn
  cases ha:a.spot with
  | none=>cases a;cases ha;rfl
  | some x=>
   simp only [World.cell?] at h
   split at h
   ·simp [ha] at h
   ·cases h
 ·rfl
theorem read_sl (hT:TTok P T) {f e:Nat} {j:TI} (hj:T e=some j) (hj0:0<j.size) (ih :∀cs x,DataW.trod enc P w base spare held f e cs=some x→∃vsA,Good w vsA cs∧HasC T f e vsA) {a:Addr} {len cap:Nat} (h1:len≤cap)
  (h :∀i,i<len→∃cs' y,w.cells? base (a.add (i*P.cellsOf e)) (P.cellsOf e)=some cs'∧DataW.trod enc P w base spare held f e cs'=some y) :∃rows,Fz (H0 w) (.sl .ext rows) (.slice (some a) len cap)∧rows.length=len∧(∀r∈rows,HasC T f e r)∧∀r∈rows,r.length=j.size:=by
 rw [cellsOf_T hT hj] at h
 have hr :∀i,∃vsA,i<len→∃cs',w.cells? base (a.add (i*j.size)) j.size=some cs'∧Good w vsA cs'∧HasC T f e vsA:=by
  intro i
  by_cases hi:i<len
  ·obtain ⟨cs',y,h2,h3⟩:=h i hi
   obtain ⟨vsA,h4,h5⟩:=ih cs' y h3
   exact ⟨vsA,fun _=>⟨cs',h2,h4,h5⟩⟩
  ·exact ⟨[],fun h=>absurd h hi⟩
 obtain ⟨g,hg⟩:=Classical.axiomOfChoice hr
 have hrows :∀(i:Nat) row,((List.range len).map g)[i]?=some row→i<len∧row=g i:=by
  intro i row hi
  rw [List.getElem?_map] at hi
  by_cases hl:i<len
  ·rw [List.getElem?_range hl] at hi
   simp at hi
   exact ⟨hl,hi.symm⟩
  ·rw [List.getElem?_eq_none (by simp;omega)] at hi
   cases hi
 have addr :∀i o,i<len→o<j.size→∃v,w.cell? ⟨a.block,a.off+i*j.size+o,none⟩=some v∧∀x,(g i)[o]?=some x→Fz (H0 w) x v∧x.one=true:=by
  intro i o hi ho
  obtain ⟨cs',h2,h3,h4⟩:=hg i hi
  obtain ⟨h5,h6⟩:=cells_get h2
  have h7:=h6 o ho
  have h8:cs'[o]?=some cs'[o]:=List.getElem?_eq_getElem (by omega)
  have hx:=h6 0 (by omega)
  rw [List.getElem?_eq_getElem (show 0<cs'.length by omega)] at hx
  have e0:(a.add (i*j.size)).add 0=a.add (i*j.size):=rfl
  rw [e0] at hx
  have e1:=add_one (w:=w) (a:=a) (n:=i*j.size) (by rw [hx];rfl)
  rw [e1] at h7
  rw [h8] at h7
  have e2:=add_one (w:=w) (a:=⟨a.block,a.off+i*j.size,none⟩) (n:=o) (by rw [h7];rfl)
  rw [e2] at h7
  exact ⟨_,h7,fun x hx=>h3.2 o x _ hx h8⟩
 refine ⟨(List.range len).map g,?_,by simp,?_,?_⟩
 ·have key:=Fz.sl (H:=H0 w) ((List.range len).map g) (some a) cap j.size a.block a.off (fun i o=>(w.cell? ⟨a.block,a.off+i*j.size+o,none⟩).getD undef) ?_ (by simpa using h1) ?_ ?_ ?_
  ·simpa using key
  ·intro hne
   have hl:0<len:=by
    rcases Nat.eq_zero_or_pos len with h | h
    ·subst h;exact absurd rfl hne
    ·exact h
   obtain ⟨cs',h2,h3,h4⟩:=hg 0 hl
   obtain ⟨h5,h6⟩:=cells_get h2
   have hx:=h6 0 (by omega)
   rw [List.getElem?_eq_getElem (show 0<cs'.length by omega)] at hx
   have e0:(a.add (0*j.size)).add 0=a.add (0*j.size):=rfl
   rw [e0,Nat.zero_mul] at hx
   have e1:=add_one (w:=w) (a:=a) (n:=0) (by rw [hx];rfl)
   have e2:a.add 0=a:=rfl
   rw [e2] at e1
   rw [e1]
  ·intro i row hi
   obtain ⟨hl,rfl⟩:=hrows i row hi
   obtain ⟨cs',h2,h3,h4⟩:=hg i hl
   rw [h3.1,(cells_get h2).1]
  ·intro i row o x hi hx
   obtain ⟨hl,rfl⟩:=hrows i row hi
   obtain ⟨cs',h2,h3,h4⟩:=hg i hl
   have ho:o<j.size:=by
    have:=(List.getElem?_eq_some_iff.1 hx).1
    rw [h3.1,(cells_get h2).1] at this
    exact this
   obtain ⟨v,h5,h6⟩:=addr i o hl ho
   rw [h5]
   exact H0_some h5 (R.one (G:=⟨H0 w,fun _ _=>none,fun _ _=>none,fun _=>none,fun _=>none⟩) (.fz _ _ (h6 x hx).1) (h6 x hx).2)
  ·intro i row o x hi hx
   obtain ⟨hl,rfl⟩:=hrows i row hi
   obtain ⟨cs',h2,h3,h4⟩:=hg i hl
   have ho:o<j.size:=by
    have:=(List.getElem?_eq_some_iff.1 hx).1
    rw [h3.1,(cells_get h2).1] at this
    exact this
   obtain ⟨v,h5,h6⟩:=addr i o hl ho
   simp only [h5,Option.getD_some]
   exact (h6 x hx).1
 ·intro r hr
  obtain ⟨i,hi,rfl⟩:=List.mem_map.1 hr
  obtain ⟨cs',h2,h3,h4⟩:=hg i (by simpa using hi)
  exact h4
 ·intro r hr
  obtain ⟨i,hi,rfl⟩:=List.mem_map.1 hr
  obtain ⟨cs',h2,h3,h4⟩:=hg i (by simpa using hi)
  rw [h3.1,(cells_get h2).1]
theorem read_good (hT:TTok P T) (hL :∀t,L.contains t=true→okTy T L t=true) :∀(f t:Nat),L.contains t=true→∀cs x,DataW.trod enc P w base spare held f t cs=some x→∃vsA,Good w vsA cs∧HasC T f t vsA
 | 0,t,_,cs,x,h=>by cases h
 | f+1,t,ht,cs,x,h=>by
  have hok:=hL t ht
  unfold okTy at hok
  split at hok
  case h_2=>cases hok
  rename_i i hi
  have hk:=(hT t i hi).kind
  have ih:=read_good hT hL f
  have fin :∀{vsA},Good w vsA cs→(match i.kind with
   | .int k=>∃n,vsA=[.i k n]∧k.min≤n∧n≤k.max
   | .bool=>∃b,vsA=[.b b]
   | .str=>∃s,vsA=[.s s]∧s.length≤maxLen
   | .sl e=>∃rows,vsA=[.sl .ext rows]∧rows.length≤maxLen∧(∀r∈rows,HasC T f e r)∧∀j,T e=some j→∀r∈rows,r.length=j.size
   | .st fs=>∀x∈fs,∃j,T x.1=some j∧HasC T f x.1 ((vsA.drop x.2).take j.size)
   | _=>False)→∃vsA,Good w vsA cs∧HasC T (f+1) t vsA:=by
   intro vsA h1 h2
   refine ⟨vsA,h1,?_⟩
   unfold HasC
   rw [hi]
   exact h2
  revert hk hok fin
  generalize hkk:i.kind=kk
  cases kk with
  | int k=>
   intro hok hk fin
   obtain ⟨n,rfl,hn⟩:=inv_int hk h
   exact fin (.one (.i k n) rfl) ⟨n,rfl,hn⟩
  | bool=>
   intro hok hk fin
   obtain ⟨b,rfl⟩:=inv_bool hk h
   exact fin (.one (.b b) rfl) ⟨b,rfl⟩
  | str=>
   intro hok hk fin
   obtain ⟨s,rfl,hs⟩:=inv_str hk h
   refine fin (.one (a:=.s s.data.toList) ?_ rfl) ⟨_,rfl,by simpa using hs⟩
   have e:s=⟨s.data.toList.toArray⟩:=by simp
   have:=Fz.s (H:=H0 w) s.data.toList
   rwa [← e] at this
  | sl e=>
   intro hok hk fin
   simp only [Bool.and_eq_true] at hok
   obtain ⟨hLe,hj⟩:=hok
   split at hj
   case h_2=>cases hj
   rename_i j hj'
   rcases inv_sl hk h with rfl | ⟨a,len,cap,rfl,h1,h2,h3⟩
   ·refine fin (.one (a:=.sl .ext []) ?_ rfl) ⟨[],rfl,by simp,by simp,by simp⟩
    exact Fz.sl [] none 0 0 0 0 (fun _ _=>undef) (by simp) (by simp) (by simp) (by simp) (by simp)
   ·obtain ⟨rows,h4,h5,h6,h7⟩:=read_sl hT hj' (of_decide_eq_true hj) (ih e hLe) h1 h3
    exact fin (.one h4 rfl) ⟨rows,rfl,by omega,h6,fun j' hj2=>by rw [hj'] at hj2;cases hj2;exact h7⟩
  | arr n e=>intro hok;cases hok
  | st fs=>
   intro hok hk fin
   simp only [Bool.and_eq_true] at hok
   obtain ⟨fields,h1,h2,_⟩:=hk
   obtain ⟨h3,xs,h4⟩:=inv_st h1 h
   rw [cellsOf_T hT hi] at h3
   have hc:contig T 0 fs=some i.size:=by simpa using hok.2
   obtain ⟨_,vsA,h5,h6⟩:=fields_good hT ih fs fields.toList 0 i.size xs h2 hc h3.symm hok.1 h4
   rw [List.drop_zero] at h5
   refine fin h5 fun x hx=>?_
   obtain ⟨_,j,h7,h8⟩:=h6 x hx
   exact ⟨j,h7,by simpa using h8⟩
  | other=>intro hok;cases hok
  | ptr e=>intro hok;cases hok
  | uptr=>intro hok;cases hok
  | mp=>intro hok;cases hok
end
end Go.AM

/- Parts of the proof. -/
namespace Go.AM
open Go
def CLe (C C':CallF):Prop:=∀d f a st r,C d f a st=some r→C' d f a st=some r
theorem aexec_mono {C C':CallF} (h:CLe C C') {d site ver:Nat} {σ:Sl} {st:St} {op:AOp} {r:AV × St} (he:aexec C d site ver σ st op=some r):aexec C' d site ver σ st op=some r:=by
 cases op with
 | call p f args=>
  cases p with
  | false=>
   simp only [aexec] at he ⊢
   split at he
   ·rename_i vs hvs
    split at he
    ·rename_i r' st' hr
     rw [h _ _ _ _ _ hr]
     exact he
    ·cases he
   ·cases he
  | true=>simp only [aexec] at he ⊢;exact h _ _ _ _ _ he
 | callv f args=>
  simp only [aexec] at he ⊢
  split at he
  ·exact h _ _ _ _ _ he
  ·exact h _ _ _ _ _ he
  ·cases he
 | _=>exact he
theorem aai_mono {C C':CallF} (h:CLe C C') {d site ver:Nat} {o:AI} {σ:Sl} {st:St} {r:Sl × St} (he:aai C d site ver o σ st=some r):aai C' d site ver o σ st=some r:=by
 unfold aai at he ⊢
 have key:(aexec C d site ver σ st o.op).map (fun (v,st')=>(updO σ o.dst v,st'))=some r→(aexec C' d site ver σ st o.op).map (fun (v,st')=>(updO σ o.dst v,st'))=some r:=by
  intro h1
  rw [Option.map_eq_some_iff] at h1 ⊢
  obtain ⟨x,h2,h3⟩:=h1
  exact ⟨x,aexec_mono h h2,h3⟩
 split at he
 ·exact key he
 ·split at he
  ·split at he
   ·rename_i h1 h2
    simp only [h2,if_true] at he ⊢
    exact key he
   ·rename_i h1 h2
    simp only [h2,if_false] at he ⊢
    exact he
  ·exact he
  ·cases he
theorem aregL_mono {C C':CallF} (h:CLe C C') {d id base:Nat} :∀{ops:List AI} {i:Nat} {σ:Sl} {st:St} {r:Sl × St},aregL C d id base i ops σ st=some r→aregL C' d id base i ops σ st=some r
 | [],_,_,_,_,he=>he
 | o::l,i,σ,st,r,he=>by
  unfold aregL at he ⊢
  split at he
  ·rename_i σ' st' h1
   rw [aai_mono h h1]
   exact aregL_mono h he
  ·cases he
theorem iter_mono {f f':Sl→St→Option (AE × Sl × St)} (h :∀σ st r,f σ st=some r→f' σ st=some r) :∀{n n':Nat} (_:n≤n') {σ:Sl} {st:St} {r:AE × Sl × St},iter f n σ st=some r→iter f' n' σ st=some r
 | 0,_,_,_,_,_,he=>by cases he
 | n+1,0,hn,_,_,_,_=>absurd hn (Nat.not_succ_le_zero _)
 | n+1,n'+1,hn,σ,st,r,he=>by
  unfold iter at he ⊢
  split at he
  ·rename_i σ' st' h1
   rw [h _ _ _ h1]
   exact iter_mono h (Nat.le_of_succ_le_succ hn) he
  ·rename_i hne
   rw [h _ _ _ he]
   split
   ·rename_i σ' st' heq
    injection heq with heq
    subst heq
    exact absurd he (hne _ _)
   ·rfl
theorem iterG_mono {l:Nat} {f f':Sl→St→Option (AE × Sl × St)} (h :∀σ st r,f σ st=some r→f' σ st=some r) :∀{n n':Nat} (_:n≤n') {σ:Sl} {st:St} {r:AE × Sl × St},iterG l f n σ st=some r→iterG l f' n' σ st=some r
 | 0,_,_,_,_,_,he=>by cases he
 | n+1,0,hn,_,_,_,_=>absurd hn (Nat.not_succ_le_zero _)
 | n+1,n'+1,hn,σ,st,r,he=>by
  unfold iterG at he ⊢
  split at he
  ·rename_i l' σ' st' h1
   rw [h _ _ _ h1]
   split at he
   ·rename_i hl
    simp only [hl,if_true]
    exact iterG_mono h (Nat.le_of_succ_le_succ hn) he
   ·cases he
  ·rename_i hne
   rw [h _ _ _ he]
   split
   ·rename_i l' σ' st' heq
    injection heq with heq
    subst heq
    exact absurd he (hne _ _ _)
   ·rfl
theorem acode_mono {C C':CallF} (h:CLe C C') {n n':Nat} (hn:n≤n') {d:Nat} :∀{c:AC} {σ:Sl} {st:St} {r:AE × Sl × St},acode C n d c σ st=some r→acode C' n' d c σ st=some r
 | .hand _,_,_,_,he=>he
 | .skip,_,_,_,he=>he
 | .exit _,_,_,_,he=>he
 | .ret,_,_,_,he=>he
 | .goto _,_,_,_,he=>he
 | .reg id ops,σ,st,r,he=>by
  simp only [acode,areg] at he ⊢
  rw [Option.map_eq_some_iff] at he ⊢
  obtain ⟨x,h1,h2⟩:=he
  exact ⟨x,aregL_mono h h1,h2⟩
 | .seq a b,σ,st,r,he=>by
  simp only [acode] at he ⊢
  split at he
  ·rename_i σ' st' h1
   rw [acode_mono h hn h1]
   exact acode_mono h hn he
  ·rename_i hne
   rw [acode_mono h hn he]
   split
   ·rename_i σ' st' heq
    injection heq with heq
    subst heq
    exact absurd he (hne _ _)
   ·rfl
 | .cond c a b,σ,st,r,he=>by
  simp only [acode] at he ⊢
  split at he
  ·exact acode_mono h hn he
  ·exact acode_mono h hn he
  ·cases he
 | .block id c,σ,st,r,he=>by
  simp only [acode] at he ⊢
  split at he
  ·rename_i id' σ' st' h1
   rw [acode_mono h hn h1]
   exact he
  ·rename_i hne
   rw [acode_mono h hn he]
   split
   ·rename_i id' σ' st' heq
    injection heq with heq
    subst heq
    exact absurd he (hne _ _ _)
   ·rfl
 | .loop c,σ,st,r,he=>by
  simp only [acode] at he ⊢
  exact iter_mono (fun _ _ _ h1=>acode_mono h hn h1) hn he
 | .gscope l a b,σ,st,r,he=>by
  simp only [acode] at he ⊢
  split at he
  ·rename_i σ' st' h1
   rw [acode_mono h hn h1]
   exact iterG_mono (fun _ _ _ h2=>acode_mono h hn h2) hn he
  ·cases he
theorem acall_mono {prog:Prog} :∀{n m:Nat},n≤m→CLe (acall prog n) (acall prog m)
 | 0,_,_,_,_,_,_,_,he=>by cases he
 | n+1,0,hn,_,_,_,_,_,_=>absurd hn (Nat.not_succ_le_zero _)
 | n+1,m+1,hn,d,f,a,st,r,he=>by
  have ih:=acall_mono (prog:=prog) (Nat.le_of_succ_le_succ hn)
  unfold acall at he ⊢
  cases hf:prog.fn f with
  | none=>rw [hf] at he;exact he
  | some F=>
   rw [hf] at he
   simp only at he ⊢
   split at he
   ·rename_i hl
    rw [if_pos hl]
    split at he
    ·rename_i σ st' h1
     rw [acode_mono ih (Nat.le_of_succ_le_succ hn) h1]
     exact he
    ·rename_i σ st' h1
     rw [acode_mono ih (Nat.le_of_succ_le_succ hn) h1]
     exact he
    ·cases he
   ·cases he
def Fn (prog:Prog) (d f:Nat) (args:List AV) (st:St) (r:AV) (st':St):Prop:=∃n,acall prog n d f args st=some (r,st')
def Pu (prog:Prog) (f:Nat) (args:List AV) (r:AV):Prop:=∃st',Fn prog 0 f args st0 r st'
theorem Fn.det {prog:Prog} {d f:Nat} {args:List AV} {st:St} {r r':AV} {st1 st2:St} (h:Fn prog d f args st r st1) (k:Fn prog d f args st r' st2):r=r'∧st1=st2:=by
 obtain ⟨n,h⟩:=h
 obtain ⟨m,k⟩:=k
 have h1:=acall_mono (prog:=prog) (Nat.le_max_left n m) _ _ _ _ _ h
 have h2:=acall_mono (prog:=prog) (Nat.le_max_right n m) _ _ _ _ _ k
 rw [h1] at h2
 injection h2 with h2
 injection h2 with h2 h3
 exact ⟨h2,h3⟩
theorem Pu.det {prog:Prog} {f:Nat} {args:List AV} {r r':AV} (h:Pu prog f args r) (k:Pu prog f args r'):r=r':=by
 obtain ⟨_,h⟩:=h
 obtain ⟨_,k⟩:=k
 exact (h.det k).1
def noC:CallF:=fun _ _ _ _=>none
def onO {α:Type} (x:Option α) (K:α→Prop):Prop:=
 match x with
 | some v=>K v
 | none=>False
def WC (prog:Prog) (f:Nat) (vs:List AV) (K:AV→Prop):Prop:=∃r,Pu prog f vs r∧K r
def WF (prog:Prog) (d f:Nat) (vs:List AV) (st:St) (K:AV→St→Prop):Prop:=∃r st',Fn prog d f vs st r st'∧K r st'
def onCv (v:AV) (vs:List AV) (K:Nat→List AV→Prop):Prop:=
 match v with
 | .fn g cap=>K g (vs++cap)
 | .bf g cs=>K g (cs++vs)
 | _=>False
def evs (σ:Sl):List Opd→List AV
 | []=>[]
 | x::r=>x.ev σ::evs σ r
theorem evs_map {σ:Sl} :∀{l:List Opd},evs σ l=l.map (·.ev σ)
 | []=>rfl
 | x::r=>by simp [evs,evs_map]
def WOp (prog:Prog) (d site ver:Nat) (σ:Sl) (st:St) (K:AV→St→Prop):AOp→Prop
 | .call false f args=>onO (AV.strips (evs σ args)) fun vs=>WC prog f vs fun r=>onO r.strip fun r'=>K r' st
 | .call true f args=>WF prog (d+1) f (evs σ args) st K
 | .callv f args=>onCv (f.ev σ) (evs σ args) fun g l=>WF prog (d+1) g l st K
 | op=>onO (aexec noC d site ver σ st op) fun r=>K r.1 r.2
theorem onO_iff {α:Type} {x:Option α} {K:α→Prop}:onO x K ↔∃v,x=some v∧K v:=by
 unfold onO
 split
 ·exact ⟨fun h=>⟨_,rfl,h⟩,fun ⟨v,h,hk⟩=>by cases h;exact hk⟩
 ·exact ⟨fun h=>h.elim,fun ⟨v,h,_⟩=>by cases h⟩
theorem WOp.run {prog:Prog} {d site ver:Nat} {σ:Sl} {st:St} {K:AV→St→Prop} {op:AOp} (h:WOp prog d site ver σ st K op) :∃n v st',aexec (acall prog n) d site ver σ st op=some (v,st')∧K v st':=by
 cases op with
 | call p f args=>
  cases p with
  | false=>
   obtain ⟨vs,h1,r,⟨st',n,h2⟩,h3⟩:=onO_iff.1 h
   obtain ⟨r',h3,h4⟩:=onO_iff.1 h3
   rw [evs_map] at h1
   exact ⟨n,r',st,by simp only [aexec,h1,h2,h3,Option.map_some],h4⟩
  | true=>
   obtain ⟨r,st',⟨n,h1⟩,h2⟩:=h
   rw [evs_map] at h1
   exact ⟨n,r,st',h1,h2⟩
 | callv f args=>
  have h':onCv (f.ev σ) (evs σ args) fun g l=>WF prog (d+1) g l st K:=h
  unfold onCv at h'
  split at h'
  ·rename_i g cap h0
   obtain ⟨r,st',⟨n,h1⟩,h2⟩:=h'
   rw [evs_map] at h1
   exact ⟨n,r,st',by simp only [aexec,h0];exact h1,h2⟩
  ·rename_i g cap h0
   obtain ⟨r,st',⟨n,h1⟩,h2⟩:=h'
   rw [evs_map] at h1
   exact ⟨n,r,st',by simp only [aexec,h0];exact h1,h2⟩
  ·exact h'.elim
 | _=>
  simp only [WOp] at h
  obtain ⟨⟨v,st'⟩,h1,h2⟩:=onO_iff.1 h
  exact ⟨0,v,st',aexec_mono (C:=noC) (fun _ _ _ _ _ h=>by cases h) h1,h2⟩
theorem WC_eq {prog:Prog} {f:Nat} {vs:List AV} {r:AV} (h:Pu prog f vs r) (K:AV→Prop):WC prog f vs K=K r:=
 propext ⟨fun ⟨_,h1,h2⟩=>by rw [h.det h1];exact h2,fun hk=>⟨r,h,hk⟩⟩
def W1 (prog:Prog) (d site ver:Nat) (o:AI) (σ:Sl) (st:St) (K:Sl→St→Prop):Prop:=
 match o.guard with
 | none=>WOp prog d site ver σ st (fun v st'=>K (updO σ o.dst v) st') o.op
 | some (t,w)=>match σ t with
  | .b x=>if x=w then WOp prog d site ver σ st (fun v st'=>K (updO σ o.dst v) st') o.op else K (updO σ o.dst (.tup [])) st
  | .tup []=>K (updO σ o.dst (.tup [])) st
  | _=>False
theorem W1.run {prog:Prog} {d site ver:Nat} {o:AI} {σ:Sl} {st:St} {K:Sl→St→Prop} (h:W1 prog d site ver o σ st K) :∃n σ' st',aai (acall prog n) d site ver o σ st=some (σ',st')∧K σ' st':=by
 unfold W1 at h
 unfold aai
 cases hg:o.guard with
 | none=>
  rw [hg] at h
  obtain ⟨n,v,st',h1,h2⟩:=WOp.run h
  exact ⟨n,_,st',by simp only [h1,Option.map_some],h2⟩
 | some tw=>
  obtain ⟨t,w⟩:=tw
  rw [hg] at h
  simp only at h ⊢
  revert h
  generalize σ t=z
  intro h
  split at h
  ·split at h
   ·rename_i hx
    obtain ⟨n,v,st',h1,h2⟩:=WOp.run h
    exact ⟨n,_,st',by simp only [if_pos hx,h1,Option.map_some],h2⟩
   ·rename_i hx
    exact ⟨0,_,st,by simp only [if_neg hx],h⟩
  ·exact ⟨0,_,st,rfl,h⟩
  ·exact h.elim
def WO (prog:Prog) (d id base:Nat):Nat→List AI→Sl→St→(Sl→St→Prop)→Prop
 | _,[],σ,st,K=>K σ st
 | i,o::r,σ,st,K=>W1 prog d (id*4096+i) (base+i) o σ st fun σ' st'=>WO prog d id base (i+1) r σ' st' K
theorem WO.run {prog:Prog} {d id base:Nat} :∀{ops:List AI} {i:Nat} {σ:Sl} {st:St} {K:Sl→St→Prop},WO prog d id base i ops σ st K→∃n σ' st',aregL (acall prog n) d id base i ops σ st=some (σ',st')∧K σ' st'
 | [],i,σ,st,K,h=>⟨0,σ,st,rfl,h⟩
 | o::r,i,σ,st,K,h=>by
  obtain ⟨n,σ1,st1,h1,h2⟩:=W1.run (show W1 prog d (id*4096+i) (base+i) o σ st _ from h)
  obtain ⟨m,σ2,st2,h3,h4⟩:=WO.run h2
  refine ⟨max n m,σ2,st2,?_,h4⟩
  simp only [aregL,aai_mono (acall_mono (Nat.le_max_left n m)) h1,aregL_mono (acall_mono (Nat.le_max_right n m)) h3]
def W (prog:Prog) (d:Nat) (c:AC) (σ:Sl) (st:St) (Q:AE→Sl→St→Prop):Prop:=
 ∃n e σ' st',acode (acall prog n) n d c σ st=some (e,σ',st')∧Q e σ' st'
section
variable {prog:Prog} {d:Nat} {σ:Sl} {st:St} {Q:AE→Sl→St→Prop}
theorem acode_max {n m:Nat} {c:AC} {r:AE × Sl × St} (h:acode (acall prog n) n d c σ st=some r) (hm:n≤m):acode (acall prog m) m d c σ st=some r:=
 acode_mono (acall_mono hm) hm h
theorem W.skip (h:Q .normal σ st):W prog d .skip σ st Q:=⟨0,_,_,_,rfl,h⟩
theorem W.hand {f:Sl→St→Option (AE × Sl × St)} {e:AE} {σ':Sl} {st':St} (h:f σ st=some (e,σ',st')) (hq:Q e σ' st'):W prog d (.hand f) σ st Q:=⟨0,_,_,_,h,hq⟩
theorem W.exit {id:Nat} (h:Q (.exit id) σ st):W prog d (.exit id) σ st Q:=⟨0,_,_,_,rfl,h⟩
theorem W.ret (h:Q .ret σ st):W prog d .ret σ st Q:=⟨0,_,_,_,rfl,h⟩
theorem W.goto {l:Nat} (h:Q (.goto l) σ st):W prog d (.goto l) σ st Q:=⟨0,_,_,_,rfl,h⟩
theorem W.reg {id:Nat} {ops:List AI} (h:WO prog d id st.nx 0 ops σ { st with nx:=st.nx+ops.length,bx:=pre d id st.nx 0 ops st.bx } fun σ' st'=>Q .normal σ' st'):W prog d (.reg id ops) σ st Q:=by
 obtain ⟨n,σ',st',h1,h2⟩:=h.run
 exact ⟨n,_,σ',st',by simp only [acode,areg,h1,Option.map_some],h2⟩
def noAlloc:List AI→Bool
 | []=>true
 | o::r=>(match o.op with | .alloc _=>false | _=>true)&&noAlloc r
theorem pre_noAlloc {d id base:Nat} :∀{ops:List AI} {i:Nat} {bx:List (Key × Nat × List AV)},noAlloc ops=true→pre d id base i ops bx=bx
 | [],_,_,_=>rfl
 | o::r,i,bx,h=>by
  simp only [noAlloc,Bool.and_eq_true] at h
  unfold pre
  split
  ·rename_i z hz
   rw [hz] at h
   exact absurd h.1 (by simp)
  ·exact pre_noAlloc h.2
theorem W.reg0 {id:Nat} {ops:List AI} (hn:noAlloc ops=true) (h :∀nx,st.nx≤nx→WO prog d id st.nx 0 ops σ ⟨nx,st.bx,st.ow⟩ fun σ' st'=>Q .normal σ' st'):W prog d (.reg id ops) σ st Q:=by
 refine W.reg ?_
 rw [pre_noAlloc hn]
 exact h _ (Nat.le_add_right _ _)
def thenW (prog:Prog) (d:Nat) (c:AC) (Q:AE→Sl→St→Prop):AE→Sl→St→Prop
 | .normal,σ,st=>W prog d c σ st Q
 | e,σ,st=>Q e σ st
theorem W.seq {a b:AC} (h:W prog d a σ st (thenW prog d b Q)):W prog d (.seq a b) σ st Q:=by
 obtain ⟨n,e,σ1,st1,h1,h2⟩:=h
 cases e with
 | normal=>
  obtain ⟨m,e2,σ2,st2,h3,h4⟩:=h2
  exact ⟨max n m,e2,σ2,st2,by simp only [acode,acode_max h1 (Nat.le_max_left n m),acode_max h3 (Nat.le_max_right n m)],h4⟩
 | exit id=>exact ⟨n,_,σ1,st1,by simp only [acode,h1],h2⟩
 | ret=>exact ⟨n,_,σ1,st1,by simp only [acode,h1],h2⟩
 | goto l=>exact ⟨n,_,σ1,st1,by simp only [acode,h1],h2⟩
def onB (v:AV) (K:Bool→Prop):Prop:=
 match v with
 | .b t=>K t
 | _=>False
theorem W.cond {c:Opd} {a b:AC} (h:onB (c.ev σ) fun t=>(t=true→W prog d a σ st Q)∧(t=false→W prog d b σ st Q)):W prog d (.cond c a b) σ st Q:=by
 unfold onB at h
 split at h
 ·rename_i t hc
  cases t with
  | true=>
   obtain ⟨n,e,σ1,st1,h1,h2⟩:=h.1 rfl
   exact ⟨n,e,σ1,st1,by simp only [acode,hc,h1],h2⟩
  | false=>
   obtain ⟨n,e,σ1,st1,h1,h2⟩:=h.2 rfl
   exact ⟨n,e,σ1,st1,by simp only [acode,hc,h1],h2⟩
 ·exact h.elim
theorem W.split {c:Opd} {a b:AC} {p:Prop} [hd:Decidable p] (hc:c.ev σ=.b (decide p)) (h1:p→W prog d a σ st Q) (h2:¬ p→W prog d b σ st Q):W prog d (.cond c a b) σ st Q:=by
 refine W.cond ?_
 rw [hc]
 exact ⟨fun h=>h1 (of_decide_eq_true h),fun h=>h2 (of_decide_eq_false h)⟩
theorem W.yes {c:Opd} {a b:AC} {p:Prop} [hd:Decidable p] (hc:c.ev σ=.b (decide p)) (hp:p) (h1:W prog d a σ st Q):W prog d (.cond c a b) σ st Q:=
 W.split hc (fun _=>h1) fun h=>absurd hp h
theorem W.no {c:Opd} {a b:AC} {p:Prop} [hd:Decidable p] (hc:c.ev σ=.b (decide p)) (hp:¬ p) (h1:W prog d b σ st Q):W prog d (.cond c a b) σ st Q:=
 W.split hc (fun h=>absurd h hp) fun _=>h1
theorem W.tt {c:Opd} {a b:AC} (hc:c.ev σ=.b true) (h1:W prog d a σ st Q):W prog d (.cond c a b) σ st Q:=
 W.yes (p:=True) hc trivial h1
theorem W.ff {c:Opd} {a b:AC} (hc:c.ev σ=.b false) (h1:W prog d b σ st Q):W prog d (.cond c a b) σ st Q:=
 W.no (p:=False) hc id h1
theorem W.cnd {c:Opd} {a b:AC} {t:Bool} (hc:c.ev σ=.b t) (h1:t=true→W prog d a σ st Q) (h2:t=false→W prog d b σ st Q):W prog d (.cond c a b) σ st Q:=by
 refine W.cond ?_
 rw [hc]
 exact ⟨h1,h2⟩
def blockW (id:Nat) (Q:AE→Sl→St→Prop):AE→Sl→St→Prop
 | .exit id',σ,st=>if id'=id then Q .normal σ st else Q (.exit id') σ st
 | e,σ,st=>Q e σ st
theorem W.block {id:Nat} {c:AC} (h:W prog d c σ st (blockW id Q)):W prog d (.block id c) σ st Q:=by
 obtain ⟨n,e,σ1,st1,h1,h2⟩:=h
 cases e with
 | exit id'=>
  simp only [blockW] at h2
  split at h2
  ·rename_i hid
   exact ⟨n,_,σ1,st1,by simp only [acode,h1,hid,if_true],h2⟩
  ·rename_i hid
   exact ⟨n,_,σ1,st1,by simp only [acode,h1,hid,if_false],h2⟩
 | normal=>exact ⟨n,_,σ1,st1,by simp only [acode,h1],h2⟩
 | ret=>exact ⟨n,_,σ1,st1,by simp only [acode,h1],h2⟩
 | goto l=>exact ⟨n,_,σ1,st1,by simp only [acode,h1],h2⟩
theorem W.loop {c:AC} (h:W prog d c σ st (thenW prog d (.loop c) Q)):W prog d (.loop c) σ st Q:=by
 obtain ⟨n,e,σ1,st1,h1,h2⟩:=h
 cases e with
 | normal=>
  obtain ⟨m,e2,σ2,st2,h3,h4⟩:=h2
  refine ⟨max n m+1,e2,σ2,st2,?_,h4⟩
  have hm:m≤max n m+1:=Nat.le_trans (Nat.le_max_right n m) (Nat.le_succ _)
  simp only [acode] at h3 ⊢
  rw [iter,acode_max h1 (Nat.le_trans (Nat.le_max_left n m) (Nat.le_succ _))]
  exact iter_mono (fun σ st r h=>acode_max h hm) (Nat.le_max_right n m) h3
 | exit id=>exact ⟨n+1,_,σ1,st1,by simp only [acode];rw [iter,acode_max h1 (Nat.le_succ _)],h2⟩
 | ret=>exact ⟨n+1,_,σ1,st1,by simp only [acode];rw [iter,acode_max h1 (Nat.le_succ _)],h2⟩
 | goto l=>exact ⟨n+1,_,σ1,st1,by simp only [acode];rw [iter,acode_max h1 (Nat.le_succ _)],h2⟩
theorem W.mono {c:AC} {Q':AE→Sl→St→Prop} (h:W prog d c σ st Q) (hq :∀e σ st,Q e σ st→Q' e σ st):W prog d c σ st Q':=by
 obtain ⟨n,e,σ1,st1,h1,h2⟩:=h
 exact ⟨n,e,σ1,st1,h1,hq _ _ _ h2⟩
def retW (d:Nat) (res:List ARes) (r:AV) (K:St→Prop):AE→Sl→St→Prop
 | .normal,σ,st | .ret,σ,st=>ares σ st res=some r∧K { st with bx:=st.bx.filter fun x=>x.1.1<d }
 | _,_,_=>False
theorem Fn.of {f:Nat} {F:AF} {args:List AV} {r:AV} {K:St→Prop} (hf:prog.fn f=some F) (hn:args.length≤F.nt) (h:W prog d F.body (sl0 args) st (retW d F.res r K)) :∃st',Fn prog d f args st r st'∧K st':=by
 obtain ⟨n,e,σ1,st1,h1,h2⟩:=h
 cases e with
 | normal=>exact ⟨_,⟨n+1,by simp only [acall,hf,if_pos hn,h1,h2.1,Option.map_some]⟩,h2.2⟩
 | ret=>exact ⟨_,⟨n+1,by simp only [acall,hf,if_pos hn,h1,h2.1,Option.map_some]⟩,h2.2⟩
 | exit id=>exact h2.elim
 | goto l=>exact h2.elim
theorem Pu.of {f:Nat} {F:AF} {args:List AV} {r:AV} (hf:prog.fn f=some F) (hn:args.length≤F.nt) (h:W prog 0 F.body (sl0 args) st0 (retW 0 F.res r fun _=>True)):Pu prog f args r:=by
 obtain ⟨st',h1,_⟩:=Fn.of hf hn h
 exact ⟨st',h1⟩
end
end Go.AM

/- Parts of the proof. -/
namespace Go.AM
open Go
section
variable {α β:Type}
theorem onO_some (v:α) (K:α→Prop):onO (some v) K=K v:=rfl
theorem onO_none (K:α→Prop):onO none K=False:=rfl
theorem onO_map (x:Option α) (f:α→β) (K:β→Prop):onO (x.map f) K=onO x fun v=>K (f v):=by cases x<;>rfl
theorem onO_ite (c:Prop) [Decidable c] (x:Option α) (K:α→Prop):onO (if c then x else none) K=(c∧onO x K):=by
  by_cases h:c<;>simp [h,onO_none]
end
section
variable {prog:Prog} {d id base i site ver:Nat} {σ:Sl} {st:St}
def onG (prog:Prog) (d site ver:Nat) (dst:Option Nat) (op:AOp) (t:Nat) (w:Bool) (σ:Sl) (st:St) (K:Sl→St→Prop) (v:AV):Prop:=
  match v with
  | .b x=>if x=w then WOp prog d site ver σ st (fun v st'=>K (updO σ dst v) st') op else K (updO σ dst (.tup [])) st
  | .tup []=>K (updO σ dst (.tup [])) st
  | _=>False
section
variable {dst:Option Nat} {op:AOp} {t:Nat} {K:Sl→St→Prop}
theorem W1_some {w:Bool}:W1 prog d site ver ⟨dst,op,some (t,w)⟩ σ st K=onG prog d site ver dst op t w σ st K (σ t):=by
  unfold W1 onG
  all_goals try dsimp only
  all_goals first
    | rfl
    | (generalize σ t=z
       cases z with
       | tup cs=>cases cs<;>rfl
       | _=>rfl)
theorem upd_self {v:AV} (h:σ t=v):upd σ t v=σ:=by
  funext x
  unfold upd
  split
  · rename_i hx;rw [hx,h]
  · rfl
end
theorem onB_true (K:Bool→Prop):onB (.b true) K=K true:=rfl
theorem onB_false (K:Bool→Prop):onB (.b false) K=K false:=rfl
section
variable (K:AV→St→Prop)
theorem WOp_mv (x:Opd):WOp prog d site ver σ st K (.mv x)=K (x.ev σ) st:=rfl
theorem WOp_pick (c a b:Opd):WOp prog d site ver σ st K (.pick c a b)=onB (c.ev σ) fun t=>K (if t then a.ev σ else b.ev σ) st:=by
  simp only [WOp,aexec,apure]
  cases c.ev σ<;>rfl
theorem WOp_bin (op:BinOp) (x y:Opd):WOp prog d site ver σ st K (.bin op x y)=onO (abin op (x.ev σ) (y.ev σ)) fun v=>K v st:=by
  simp only [WOp,aexec,apure,onO_map]
def onS (v:AV) (K:List UInt8→Prop):Prop:=
  match v with
  | .s l=>K l
  | _=>False
theorem onS_s (l:List UInt8) (K:List UInt8→Prop):onS (.s l) K=K l:=rfl
def onL (v:AV) (K:Own→List (List AV)→Prop):Prop:=
  match v with
  | .sl o rows=>K o rows
  | _=>False
theorem onL_sl (o:Own) (rows:List (List AV)) (K:Own→List (List AV)→Prop):onL (.sl o rows) K=K o rows:=rfl
def onN (v:AV) (K:Nat→Prop):Prop:=
  match v with
  | .i _ n=>0≤n∧K n.toNat
  | _=>False
theorem onN_i (k:IntKind) (n:Int) (K:Nat→Prop):onN (.i k n) K=(0≤n∧K n.toNat):=rfl
def onI (v:AV) (K:IntKind→Int→Prop):Prop:=
  match v with
  | .i k n=>K k n
  | _=>False
theorem onI_i (k:IntKind) (n:Int) (K:IntKind→Int→Prop):onI (.i k n) K=K k n:=rfl
def onT (v:AV) (K:List AV→Prop):Prop:=
  match v with
  | .tup cs=>K cs
  | _=>False
theorem onT_tup (cs:List AV) (K:List AV→Prop):onT (.tup cs) K=K cs:=rfl
theorem onN_pos (k:IntKind) (n:Int) (K:Nat→Prop) (h:0≤n):onN (.i k n) K=K n.toNat:=by simp [onN,h]
theorem WOp_lenS (x:Opd):WOp prog d site ver σ st K (.len true x)=onS (x.ev σ) fun l=>K (.i .i64 l.length) st:=by
  simp only [WOp,aexec,apure]
  cases x.ev σ<;>rfl
theorem WOp_lenL (x:Opd):WOp prog d site ver σ st K (.len false x)=onL (x.ev σ) fun _ rows=>K (.i .i64 rows.length) st:=by
  simp only [WOp,aexec,apure]
  cases x.ev σ<;>rfl
theorem WOp_ixS (x i:Opd):WOp prog d site ver σ st K (.ixS x i)=onS (x.ev σ) fun l=>onN (i.ev σ) fun j=>onO l[j]? fun c=>K (.i .u8 c.toNat) st:=by
  simp only [WOp,aexec,apure]
  cases x.ev σ<;>try rfl
  cases i.ev σ<;>try rfl
  rename_i l k n
  simp only [AV.nat,onS_s,onN_i]
  by_cases h:0≤n
  · simp [onO_map,h]
  · simp [onO_none,h]
theorem WOp_bslice (zero:List AV) (n:Nat) (parts:List (Nat × Opd)):WOp prog d site ver σ st K (.bslice zero n parts)=onO (softs zero) fun z=>(0<z.length∧n*z.length≤65536)∧onO (fillRows z σ (List.replicate n z) parts) fun rows=>K (.sl .full rows) st:=by
  simp only [WOp,aexec,apure]
  cases softs zero with
  | none=>rfl
  | some z=>simp only [onO_map,onO_ite,onO_some]
theorem WOp_ext (k:Nat) (x:Opd):WOp prog d site ver σ st K (.ext k x)=onT (x.ev σ) fun vs=>onO vs[k]? fun v=>K v st:=by
  simp only [WOp,aexec,apure]
  cases x.ev σ<;>simp [onO_map,onO_none,onT]
theorem WOp_cvi (k:IntKind) (x:Opd):WOp prog d site ver σ st K (.cvi k x)=onI (x.ev σ) fun _ n=>K (.i k (k.wrap n)) st:=by
  simp only [WOp,aexec,apure]
  cases x.ev σ<;>rfl
theorem WOp_b2s (x:Opd):WOp prog d site ver σ st K (.b2s x)=onL (x.ev σ) fun _ rows=>onO (bytesOf rows) fun l=>K (.s l) st:=by
  simp only [WOp,aexec,apure]
  cases x.ev σ<;>try rfl
  simp only [onO_map,onL_sl]
theorem WOp_slS (x:Opd) (lo hi:Option Opd):WOp prog d site ver σ st K (.slS x lo hi)=onS (x.ev σ) fun l=>onO (bnds σ l.length l.length lo hi) fun p=>K (.s ((l.drop p.1).take (p.2-p.1))) st:=by
  simp only [WOp,aexec,apure]
  cases x.ev σ<;>try rfl
  simp only [onO_map,onS_s]
theorem WOp_slL (size:Nat) (x:Opd) (lo hi:Option Opd):WOp prog d site ver σ st K (.slL size x lo hi)=onL (x.ev σ) fun _ rows=>(rows.all (·.length==size)=true)∧onO (bnds σ rows.length rows.length lo hi) fun p=>K (.sl .ext ((rows.drop p.1).take (p.2-p.1))) st:=by
  simp only [WOp,aexec,apure]
  cases x.ev σ<;>try rfl
  simp only [onO_map,onL_sl,onO_ite]
theorem WOp_call (f:Nat) (args:List Opd):WOp prog d site ver σ st K (.call false f args)=onO (AV.strips (evs σ args)) fun vs=>WC prog f vs fun r=>onO r.strip fun r'=>K r' st:=rfl
theorem WOp_callp (f:Nat) (args:List Opd):WOp prog d site ver σ st K (.call true f args)=WF prog (d+1) f (evs σ args) st K:=rfl
theorem WOp_app (size bytes:Nat) (s x:Opd):WOp prog d site ver σ st K (.app size bytes s x)=onL (x.ev σ) fun _ news=>onO (aapp (d,site) ver size bytes (s.ev σ) news st) fun r=>K r.1 r.2:=by
  simp only [WOp,aexec]
  cases x.ev σ<;>rfl
theorem WOp_appS (s x:Opd):WOp prog d site ver σ st K (.appS s x)=onS (x.ev σ) fun l=>onO (aapp (d,site) ver 1 1 (s.ev σ) (l.map row8) st) fun r=>K r.1 r.2:=by
  simp only [WOp,aexec]
  cases x.ev σ<;>rfl
end
end
section
variable (k:IntKind) (a b:Int)
theorem abin_add:abin .add (.i k a) (.i k b)=some (.i k (k.wrap (a+b))):=by simp [abin,aint]
theorem abin_sub:abin .sub (.i k a) (.i k b)=some (.i k (k.wrap (a-b))):=by simp [abin,aint]
theorem abin_mul:abin .mul (.i k a) (.i k b)=some (.i k (k.wrap (a*b))):=by simp [abin,aint]
theorem abin_quo:abin .quo (.i k a) (.i k b)=if b=0 then none else some (.i k (k.wrap (a.tdiv b))):=by simp [abin,aint]
theorem abin_and:abin .and (.i k a) (.i k b)=some (.i k (k.wrap (BitVec.ofInt k.bits a &&& BitVec.ofInt k.bits b).toNat)):=by simp [abin,aint]
theorem abin_eql:abin .eql (.i k a) (.i k b)=some (.b (decide (a=b))):=by simp [abin,aint,BEq.beq]
theorem abin_neq:abin .neq (.i k a) (.i k b)=some (.b (decide (a≠b))):=by simp [abin,aint,bne,BEq.beq]
theorem abin_lss:abin .lss (.i k a) (.i k b)=some (.b (decide (a<b))):=by simp [abin,aint]
theorem abin_leq:abin .leq (.i k a) (.i k b)=some (.b (decide (a≤b))):=by simp [abin,aint]
theorem abin_gtr:abin .gtr (.i k a) (.i k b)=some (.b (decide (a>b))):=by simp [abin,aint]
theorem abin_geq:abin .geq (.i k a) (.i k b)=some (.b (decide (a≥b))):=by simp [abin,aint]
theorem abin_shr (k':IntKind):abin .shr (.i k a) (.i k' b)=if b<0 then none else some (.i k (a.fdiv (2 ^ (min b.toNat k.bits)))):=by simp [abin,ashift]
theorem abin_cat (x y:List UInt8):abin .add (.s x) (.s y)=if x.length+y.length≤maxStr then some (.s (x++y)) else none:=by simp [abin]
theorem abin_seq (x y:List UInt8):abin .eql (.s x) (.s y)=some (.b (decide (x=y))):=by
  simp only [abin]
  congr 2
  rw [Bool.eq_iff_iff]
  simp
theorem abin_sne (x y:List UInt8):abin .neq (.s x) (.s y)=some (.b (decide (x≠y))):=by
  simp only [abin]
  congr 2
  rw [Bool.eq_iff_iff]
  simp
end
theorem wr_i64 {z:Int} (h:-9223372036854775808≤z) (h':z<9223372036854775808):IntKind.i64.wrap z=z:=by
  rw [IntKind.wrap_i64]
  omega
theorem wr_u64 {z:Int} (h:0≤z) (h':z<18446744073709551616):IntKind.u64.wrap z=z:=by
  rw [IntKind.wrap_u64]
  omega
theorem wr_u8 {z:Int} (h:0≤z) (h':z<256):IntKind.u8.wrap z=z:=by
  rw [IntKind.wrap_u8]
  omega
def App (ow:List (Key × Nat × Nat)) (o:Own) (n:Nat):Prop:=
  match o with
  | .ext=>False
  | .full=>True
  | .id k v=>lk ow k=some (v,n)∧0<n
def ownKey:Own→Option Key
  | .id k _=>some k
  | _=>none
theorem lk_st' {α:Type} (l:List (Key × α)) (k:Key) (a:α) (k':Key):lk (st_ l k a) k'=if k=k' then some a else lk l k':=by
  induction l with
  | nil=>simp [st_,lk]
  | cons x r ih=>
    obtain ⟨k1,b⟩:=x
    simp only [st_]
    split
    · rename_i h;subst h;simp only [lk];split<;>rfl
    · rename_i h
      simp only [lk]
      split
      · rename_i h2;subst h2;rw [if_neg (fun e=>h e.symm)]
      · rw [ih]
theorem lk_del' {α:Type} (l:List (Key × α)) (k k':Key):lk (del l k) k'=if k'=k then none else lk l k':=by
  induction l with
  | nil=>simp [del,lk]
  | cons x r ih=>
    obtain ⟨k1,b⟩:=x
    unfold del at ih ⊢
    simp only [List.filter_cons]
    by_cases h:k1=k
    · subst h
      simp only [ne_eq,not_true_eq_false,decide_false,Bool.false_eq_true,if_false,ih,lk]
      split
      · rfl
      · rename_i h;rw [if_neg (fun e=>h e.symm)]
    · simp only [ne_eq,h,not_false_eq_true,decide_true,if_true,lk]
      split
      · rename_i h2;subst h2;rw [if_neg h]
      · exact ih
theorem aapp_app {key:Key} {ver size bytes:Nat} {o:Own} {rows news:List (List AV)} {st:St} (hs:key.2<bigSite∨∀k v,o=.id k v→bigSite≤k.2) (ha:App st.ow o rows.length) (h1:(rows.length+news.length)*bytes≤maxBytes) (h2:rows.length+news.length≤maxBytes) (h3:0<size) (h4:(rows.all (·.length==size))=true) (h5:(news.all (·.length==size))=true)
    {K:AV→St→Prop} (hK :∀o' ow',App ow' o' (rows++news).length→(∀k,some k≠ownKey o→k≠key→lk ow' k=lk st.ow k)→(ownKey o'=ownKey o∨ownKey o'=some key)→K (.sl o' (rows++news)) ⟨st.nx,st.bx,ow'⟩):onO (aapp key ver size bytes (.sl o rows) news st) fun r=>K r.1 r.2:=by
  simp only [aapp]
  rw [if_pos ⟨h1,h2,h3,h4,h5⟩]
  by_cases hn:news.isEmpty=true
  · rw [if_pos hn,onO_some]
    have:news=[]:=by simpa using hn
    subst this
    have:=hK o st.ow (by rw [List.append_nil];cases o<;>exact ha) (fun _ _ _=>rfl) (.inl rfl)
    rwa [List.append_nil] at this
  · rw [if_neg hn]
    have hpos:0<(rows++news).length:=by
      cases news with
      | nil=>simp at hn
      | cons=>simp;omega
    cases o with
    | ext=>exact ha.elim
    | full=>
      simp only [onO_some]
      refine hK (.id key ver) _ ⟨by rw [lk_st',if_pos rfl,List.length_append],hpos⟩ (fun k _ hk=>by rw [lk_st',if_neg (fun e=>hk e.symm)]) (.inr rfl)
    | id k v=>
      obtain ⟨ha1,ha2⟩:=ha
      have hs':key.2<bigSite∨bigSite≤k.2:=hs.imp_right fun h=>h k v rfl
      simp only [ha1,true_and,ha2,hs',and_self,if_true,onO_some]
      refine hK (.id key ver) _ ⟨by rw [lk_st',if_pos rfl,List.length_append],hpos⟩ (fun k' hk1 hk2=>?_) (.inr rfl)
      rw [lk_st',if_neg (fun e=>hk2 e.symm),lk_del',if_neg (fun e=>hk1 (by rw [e];rfl))]
theorem WOp_app_ok {prog:Prog} {d site ver size bytes:Nat} {σ:Sl} {st:St} {s x:Opd} {o o2:Own} {rows news:List (List AV)} (hb:site<bigSite) (hs:s.ev σ=.sl o rows) (hx:x.ev σ=.sl o2 news) (ha:App st.ow o rows.length) (h1:(rows.length+news.length)*bytes≤maxBytes) (h2:rows.length+news.length≤maxBytes) (h3:0<size) (h4:(rows.all (·.length==size))=true) (h5:(news.all (·.length==size))=true)
    {K:AV→St→Prop} (hK :∀o' ow',App ow' o' (rows++news).length→(∀k,some k≠ownKey o→k≠(d,site)→lk ow' k=lk st.ow k)→(ownKey o'=ownKey o∨ownKey o'=some (d,site))→K (.sl o' (rows++news)) ⟨st.nx,st.bx,ow'⟩):WOp prog d site ver σ st K (.app size bytes s x):=by
  rw [WOp_app,hx,onL_sl,hs]
  exact aapp_app (.inl hb) ha h1 h2 h3 h4 h5 hK
def bs (l:List UInt8):List (List AV):=l.map row8
theorem bytesOf_bs :∀(l:List UInt8),bytesOf (bs l)=some l
  | []=>rfl
  | c::l=>by
    have ih:=bytesOf_bs l
    unfold bs at ih ⊢
    have hc:(c.toNat:Int)<256:=by have:=c.toNat_lt;omega
    have hc':(0:Int)≤c.toNat:=by omega
    simp only [List.map_cons,bytesOf,byteOf,row8,ih,hc,hc',and_self,if_true]
    simp
section
variable {prog:Prog} {d id base i site ver:Nat} {st:St}
end
end Go.AM

/- Parts of the proof. -/
namespace Go.AM
open Go
def up (σ:Sl) (d:Nat) (v:AV):Sl:=fun t=>cond (Nat.beq t d) v (σ t)
theorem up_eq (σ:Sl) (d:Nat) (v:AV):upd σ d v=up σ d v:=by
 funext t
 unfold upd up
 by_cases h:t=d
 ·rw [if_pos h,h,Nat.beq_refl];rfl
 ·rw [if_neg h]
  have:Nat.beq t d=false:=by
   cases hb:Nat.beq t d with
   | false=>rfl
   | true=>exact absurd (Nat.eq_of_beq_eq_true hb) h
  rw [this];rfl
def upO (σ:Sl) (d:Option Nat) (v:AV):Sl:=match d with | some d=>up σ d v | none=>σ
theorem upO_eq (σ:Sl) (d:Option Nat) (v:AV):updO σ d v=upO σ d v:=by cases d<;>simp [updO,upO,up_eq]
def Pus (prog:Prog) (f:Nat) (args:List AV) (r:AV):Prop:=∃r',Pu prog f args r'∧r'.strip=some r
theorem Pus.det {prog:Prog} {f:Nat} {args:List AV} {r r':AV} (h:Pus prog f args r) (k:Pus prog f args r'):r=r':=by
 obtain ⟨a,h1,h2⟩:=h
 obtain ⟨b,h3,h4⟩:=k
 rw [h1.det h3,h4] at h2
 injection h2 with h2
 exact h2.symm
def rep {α:Type} (n:Nat) (a:α):List α:=List.replicate n a
theorem rep_eq {α:Type} (n:Nat) (a:α):rep n a=List.replicate n a:=rfl
attribute [irreducible] rep
def Fit (n bytes:Nat):Prop:=n*bytes≤maxBytes∧n≤maxBytes
def PuA (prog:Prog) (f:Nat) (rows:List (List AV)) (args:List AV) (rows':List (List AV)):Prop:=
 ∀d st o,App st.ow o rows.length→∃o' st',Fn prog d f (.sl o rows::args) st (.sl o' rows') st'∧App st'.ow o' rows'.length
section
variable {prog:Prog} {d id base i:Nat} {σ:Sl} {st:St} {K:Sl→St→Prop} {r:List AI} {t:Option Nat} {x y:Opd}
theorem s_nil (h:K σ st):WO prog d id base i [] σ st K:=h
theorem s_one {op:AOp} (h:WOp prog d (id*4096+i) (base+i) σ st (fun v st'=>WO prog d id base (i+1) r (upO σ t v) st' K) op):WO prog d id base i (⟨t,op,none⟩::r) σ st K:=by
 show WOp prog d (id*4096+i) (base+i) σ st (fun v st'=>WO prog d id base (i+1) r (updO σ t v) st' K) op
 simp only [upO_eq]
 exact h
theorem s_pure {op:AOp} {v:AV} (hv :∀K:AV→St→Prop,WOp prog d (id*4096+i) (base+i) σ st K op=K v st) (h:WO prog d id base (i+1) r (upO σ t v) st K):WO prog d id base i (⟨t,op,none⟩::r) σ st K:=by
 refine s_one ?_
 rw [hv]
 exact h
theorem s_mv {v:AV} (hx:x.ev σ=v) (h:WO prog d id base (i+1) r (upO σ t v) st K):WO prog d id base i (⟨t,.mv x,none⟩::r) σ st K:=
 s_pure (fun K=>by rw [WOp_mv,hx]) h
theorem s_bin {op:BinOp} {a b v:AV} (hx:x.ev σ=a) (hy:y.ev σ=b) (hv:abin op a b=some v) (h:WO prog d id base (i+1) r (upO σ t v) st K):WO prog d id base i (⟨t,.bin op x y,none⟩::r) σ st K:=
 s_pure (fun K=>by rw [WOp_bin,hx,hy,hv,onO_some]) h
theorem s_bne {a b:Bool} (hx:x.ev σ=.b a) (hy:y.ev σ=.b b) (h:WO prog d id base (i+1) r (upO σ t (.b (decide (a≠b)))) st K):WO prog d id base i (⟨t,.beq true x y,none⟩::r) σ st K:=
 s_pure (fun K=>by
  simp only [WOp,aexec,apure,hx,hy,Option.map_some,onO_some]
  cases a<;>cases b<;>rfl) h
theorem s_not {a:Bool} (hx:x.ev σ=.b a) (h:WO prog d id base (i+1) r (upO σ t (.b (!a))) st K):WO prog d id base i (⟨t,.un .not x,none⟩::r) σ st K:=
 s_pure (fun K=>by simp only [WOp,aexec,apure,hx,Option.map_some,onO_some]) h
theorem s_notp {p:Prop} [Decidable p] (hx:x.ev σ=.b (decide p)) (h:WO prog d id base (i+1) r (upO σ t (.b (decide (¬p)))) st K):WO prog d id base i (⟨t,.un .not x,none⟩::r) σ st K:=
 s_not hx (by rw [← decide_not];exact h)
theorem s_neg {k:IntKind} {n:Int} (hx:x.ev σ=.i k n) (h:WO prog d id base (i+1) r (upO σ t (.i k (k.wrap (0-n)))) st K):WO prog d id base i (⟨t,.un .neg x,none⟩::r) σ st K:=
 s_pure (fun K=>by simp only [WOp,aexec,apure,hx,Option.map_some,onO_some]) h
theorem s_lenS {l:List UInt8} (hx:x.ev σ=.s l) (h:WO prog d id base (i+1) r (upO σ t (.i .i64 (l.length:Int))) st K):WO prog d id base i (⟨t,.len true x,none⟩::r) σ st K:=
 s_pure (fun K=>by rw [WOp_lenS,hx,onS_s]) h
theorem s_lenL {α:Type} {f:α→List AV} {l:List α} {o:Own} (hx:x.ev σ=.sl o (l.map f)) (h:WO prog d id base (i+1) r (upO σ t (.i .i64 (l.length:Int))) st K):WO prog d id base i (⟨t,.len false x,none⟩::r) σ st K:=
 s_pure (fun K=>by rw [WOp_lenL,hx,onL_sl,List.length_map]) h
theorem s_ixS {l:List UInt8} {k:IntKind} {n:Int} {c:UInt8} (hx:x.ev σ=.s l) (hy:y.ev σ=.i k n) (h0:0≤n) (hc:l[n.toNat]?=some c) (h:WO prog d id base (i+1) r (upO σ t (.i .u8 (c.toNat:Int))) st K):WO prog d id base i (⟨t,.ixS x y,none⟩::r) σ st K:=
 s_pure (fun K=>by rw [WOp_ixS,hx,onS_s,hy,onN_pos _ _ _ h0,hc,onO_some]) h
theorem s_cvi {k k':IntKind} {n:Int} (hx:x.ev σ=.i k' n) (h:WO prog d id base (i+1) r (upO σ t (.i k (k.wrap n))) st K):WO prog d id base i (⟨t,.cvi k x,none⟩::r) σ st K:=
 s_pure (fun K=>by rw [WOp_cvi,hx,onI_i]) h
theorem s_b2s {l:List UInt8} {o:Own} (hx:x.ev σ=.sl o (l.map row8)) (h:WO prog d id base (i+1) r (upO σ t (.s l)) st K):WO prog d id base i (⟨t,.b2s x,none⟩::r) σ st K:=
 s_pure (fun K=>by
  have:=bytesOf_bs l
  unfold bs at this
  rw [WOp_b2s,hx,onL_sl,this,onO_some]) h
theorem s_ext {k:Nat} {vs:List AV} {v:AV} (hx:x.ev σ=.tup vs) (hv:vs[k]?=some v) (h:WO prog d id base (i+1) r (upO σ t v) st K):WO prog d id base i (⟨t,.ext k x,none⟩::r) σ st K:=
 s_pure (fun K=>by rw [WOp_ext,hx,onT_tup,hv,onO_some]) h
theorem s_slS_lo {z:Opd} {l:List UInt8} {k:IntKind} {n:Int} (hx:x.ev σ=.s l) (hz:z.ev σ=.i k n) (h0:0≤n) (h1:n.toNat≤l.length) (h:WO prog d id base (i+1) r (upO σ t (.s (l.drop n.toNat))) st K):WO prog d id base i (⟨t,.slS x (some z) none,none⟩::r) σ st K:=
 s_pure (fun K=>by
  rw [WOp_slS,hx,onS_s]
  have hb:bnds σ l.length l.length (some z) none=some (n.toNat,l.length):=by
   simp only [bnds,hz,AV.nat,h0,if_true]
   rw [if_pos ⟨h1,Nat.le_refl _⟩]
  rw [hb,onO_some]
  simp only
  rw [List.take_of_length_le (by simp)]) h
theorem s_slS_hi {z:Opd} {l:List UInt8} {k:IntKind} {n:Int} (hx:x.ev σ=.s l) (hz:z.ev σ=.i k n) (h0:0≤n) (h1:n.toNat≤l.length) (h:WO prog d id base (i+1) r (upO σ t (.s (l.take n.toNat))) st K):WO prog d id base i (⟨t,.slS x none (some z),none⟩::r) σ st K:=
 s_pure (fun K=>by
  rw [WOp_slS,hx,onS_s]
  have hb:bnds σ l.length l.length none (some z)=some (0,n.toNat):=by
   simp only [bnds,hz,AV.nat,h0,if_true]
   rw [if_pos ⟨Nat.zero_le _,h1⟩]
  rw [hb,onO_some]
  simp only [List.drop_zero,Nat.sub_zero]) h
theorem s_slS {z z':Opd} {l:List UInt8} {k k':IntKind} {n m:Int} (hx:x.ev σ=.s l) (hz:z.ev σ=.i k n) (hz':z'.ev σ=.i k' m) (h0:0≤n) (h1:n≤m) (h2:m.toNat≤l.length) (h:WO prog d id base (i+1) r (upO σ t (.s ((l.drop n.toNat).take (m.toNat-n.toNat)))) st K):WO prog d id base i (⟨t,.slS x (some z) (some z'),none⟩::r) σ st K:=
 s_pure (fun K=>by
  rw [WOp_slS,hx,onS_s]
  have hb:bnds σ l.length l.length (some z) (some z')=some (n.toNat,m.toNat):=by
   simp only [bnds,hz,hz',AV.nat,h0,show (0:Int)≤m by omega,if_true]
   rw [if_pos ⟨by omega,h2⟩]
  rw [hb,onO_some]) h
theorem s_slL_lo {α:Type} {f:α→List AV} {l:List α} {o:Own} {size:Nat} {z:Opd} {k:IntKind} {n:Int} (hf :∀a,(f a).length=size) (hx:x.ev σ=.sl o (l.map f)) (hz:z.ev σ=.i k n) (h0:0≤n) (h1:n.toNat≤l.length) (h:WO prog d id base (i+1) r (upO σ t (.sl .ext ((l.drop n.toNat).map f))) st K):WO prog d id base i (⟨t,.slL size x (some z) none,none⟩::r) σ st K:=
 s_pure (fun K=>by
  rw [WOp_slL,hx,onL_sl]
  have hb:bnds σ (l.map f).length (l.map f).length (some z) none=some (n.toNat,(l.map f).length):=by
   simp only [bnds,hz,AV.nat,h0,if_true]
   rw [if_pos ⟨by simpa using h1,Nat.le_refl _⟩]
  have hall:((l.map f).all fun c=>c.length==size)=true:=by simp [hf]
  rw [hb,onO_some]
  simp only [hall,true_and]
  rw [List.take_of_length_le (by simp),List.map_drop]) h
theorem s_slL_hi {α:Type} {f:α→List AV} {l:List α} {o:Own} {size:Nat} {z:Opd} {k:IntKind} {n:Int} (hf :∀a,(f a).length=size) (hx:x.ev σ=.sl o (l.map f)) (hz:z.ev σ=.i k n) (h0:0≤n) (h1:n.toNat≤l.length) (h:WO prog d id base (i+1) r (upO σ t (.sl .ext ((l.take n.toNat).map f))) st K):WO prog d id base i (⟨t,.slL size x none (some z),none⟩::r) σ st K:=
 s_pure (fun K=>by
  rw [WOp_slL,hx,onL_sl]
  have hb:bnds σ (l.map f).length (l.map f).length none (some z)=some (0,n.toNat):=by
   simp only [bnds,hz,AV.nat,h0,if_true]
   rw [if_pos ⟨Nat.zero_le _,by simpa using h1⟩]
  have hall:((l.map f).all fun c=>c.length==size)=true:=by simp [hf]
  rw [hb,onO_some]
  simp only [hall,true_and,List.drop_zero,Nat.sub_zero,List.map_take]) h
theorem s_slL {α:Type} {f:α→List AV} {l:List α} {o:Own} {size:Nat} {z z':Opd} {k k':IntKind} {n m:Int} (hf :∀a,(f a).length=size) (hx:x.ev σ=.sl o (l.map f)) (hz:z.ev σ=.i k n) (hz':z'.ev σ=.i k' m) (h0:0≤n) (h1:n≤m) (h2:m.toNat≤l.length) (h:WO prog d id base (i+1) r (upO σ t (.sl .ext (((l.drop n.toNat).take (m.toNat-n.toNat)).map f))) st K):WO prog d id base i (⟨t,.slL size x (some z) (some z'),none⟩::r) σ st K:=
 s_pure (fun K=>by
  rw [WOp_slL,hx,onL_sl]
  have hb:bnds σ (l.map f).length (l.map f).length (some z) (some z')=some (n.toNat,m.toNat):=by
   simp only [bnds,hz,hz',AV.nat,h0,show (0:Int)≤m by omega,if_true]
   rw [if_pos ⟨by omega,by simpa using h2⟩]
  have hall:((l.map f).all fun c=>c.length==size)=true:=by simp [hf]
  rw [hb,onO_some]
  simp only [hall,true_and,List.map_take,List.map_drop]) h
theorem s_build {zero:List AV} {parts:List (Nat × Nat × Opd)} {cs:List AV} (hp:fillCells σ zero parts=some cs) (h:WO prog d id base (i+1) r (upO σ t (.ag cs)) st K):WO prog d id base i (⟨t,.build zero parts,none⟩::r) σ st K:=
 s_pure (fun K=>by simp only [WOp,aexec,apure,hp,Option.map_some,onO_some]) h
theorem f_nil {cs:List AV}:fillCells σ cs []=some cs:=rfl
theorem f_cons {cells cs:List AV} {off n:Nat} {v:AV} {ps:List (Nat × Nat × Opd)} (hx:x.ev σ=v) (hc:(Nat.beq v.cells.length n&&Nat.ble (off+n) cells.length&&v.cells.all AV.one)=true) (h:fillCells σ (setAt cells off v.cells) ps=some cs):fillCells σ cells ((off,n,x)::ps)=some cs:=by
 simp only [Bool.and_eq_true] at hc
 simp only [fillCells,hx]
 rw [if_pos ⟨Nat.eq_of_beq_eq_true hc.1.1,Nat.le_of_ble_eq_true hc.1.2,hc.2⟩]
 exact h
theorem s_ixA {α:Type} {f:α→AV} {l:List α} {n:Nat} {k:IntKind} {m:Int} {c:α} (hn:l.length=n) (hx:x.ev σ=.ag (l.map f)) (hy:y.ev σ=.i k m) (h0:0≤m) (hc:l[m.toNat]?=some c) (h:WO prog d id base (i+1) r (upO σ t (f c)) st K):WO prog d id base i (⟨t,.ixA n 1 false x y,none⟩::r) σ st K:=
 s_pure (fun K=>by
  have hl:m.toNat<l.length:=by
   rcases Nat.lt_or_ge m.toNat l.length with h | h
   ·exact h
   ·rw [List.getElem?_eq_none h] at hc;cases hc
  have hd:((l.map f).drop m.toNat).take 1=[f c]:=by
   rw [List.drop_eq_getElem_cons (by simpa using hl)]
   simp only [List.getElem_map,List.take_succ_cons,List.take_zero]
   rw [List.getElem?_eq_getElem hl] at hc
   injection hc with hc
   rw [hc]
  simp only [WOp,aexec,apure,hx,hy,AV.nat,h0,if_true,Nat.mul_one]
  rw [if_pos ⟨by omega,by simp;omega⟩,hd]
  simp only [ofCells,Bool.false_eq_true,if_false,Option.map_some,onO_some]) h
theorem s_bslice {zero z:List AV} {n:Nat} {parts:List (Nat × Opd)} {rows:List (List AV)} (hz:softs zero=some z) (hn:(Nat.blt 0 z.length&&Nat.ble (n*z.length) 65536)=true) (hp:fillRows z σ (List.replicate n z) parts=some rows) (h:WO prog d id base (i+1) r (upO σ t (.sl .full rows)) st K):WO prog d id base i (⟨t,.bslice zero n parts,none⟩::r) σ st K:=
 s_pure (fun K=>by
  simp only [Bool.and_eq_true] at hn
  have h1:0<z.length:=Nat.le_of_ble_eq_true hn.1
  rw [WOp_bslice,hz,onO_some,hp,onO_some]
  simp only [h1,Nat.le_of_ble_eq_true hn.2,and_self,true_and]) h
theorem g_nil {z:List AV} {rows:List (List AV)}:fillRows z σ rows []=some rows:=rfl
theorem g_cons {z:List AV} {rows rows':List (List AV)} {j:Nat} {v:AV} {cs:List AV} {ps:List (Nat × Opd)} (hx:x.ev σ=v) (hc:softs v.cells=some cs) (hn:(Nat.blt j rows.length&&Nat.beq cs.length z.length)=true) (h:fillRows z σ (rows.set j cs) ps=some rows'):fillRows z σ rows ((j,x)::ps)=some rows':=by
 simp only [Bool.and_eq_true] at hn
 have h1:j<rows.length:=Nat.le_of_ble_eq_true hn.1
 simp only [fillRows,hx,hc]
 rw [if_pos ⟨h1,Nat.eq_of_beq_eq_true hn.2⟩]
 exact h
theorem s_iaL {α:Type} {f:α→List AV} {l:List α} {o:Own} {size:Nat} {k:IntKind} {n:Int} {c:α} {cs:List AV} (hx:x.ev σ=.sl o (l.map f)) (hy:y.ev σ=.i k n) (h0:0≤n) (hc:l[n.toNat]?=some c) (hf:f c=cs) (hs:(Nat.beq cs.length size&&Nat.blt 0 size)=true) (h:WO prog d id base (i+1) r (upO σ t (.fp cs)) st K):WO prog d id base i (⟨t,.iaL size x y,none⟩::r) σ st K:=
 s_pure (fun K=>by
  simp only [Bool.and_eq_true] at hs
  have h1:0<size:=Nat.le_of_ble_eq_true hs.2
  have h2:(l.map f)[n.toNat]?=some cs:=by rw [List.getElem?_map,hc,Option.map_some,hf]
  simp only [WOp,aexec,apure,hx,hy,AV.nat,h0,if_true,h2]
  rw [if_pos ⟨Nat.eq_of_beq_eq_true hs.1,h1⟩,Option.map_some,onO_some]) h
theorem s_loadF {n:Nat} {agg:Bool} {cs:List AV} {v:AV} (hx:x.ev σ=.fp cs) (hn:Nat.ble n cs.length=true) (hv:ofCells agg (cs.take n)=some v) (h:WO prog d id base (i+1) r (upO σ t v) st K):WO prog d id base i (⟨t,.load n agg x,none⟩::r) σ st K:=
 s_pure (fun K=>by simp only [WOp,aexec,aload,hx,Nat.le_of_ble_eq_true hn,if_true,hv,Option.map_some,onO_some]) h
theorem s_ldf {n:Nat} {agg:Bool} {cs:List AV} {v:AV} (hx:x.ev σ=.fp cs) (hn:Nat.ble n cs.length=true) (hv:ofCells agg (cs.take n)=some v) (h:WO prog d id base (i+1) r (upO σ t v) st K):WO prog d id base i (⟨t,.ldf n agg x,none⟩::r) σ st K:=
 s_pure (fun K=>by simp only [WOp,aexec,apure,hx,Nat.le_of_ble_eq_true hn,if_true,hv,Option.map_some,onO_some]) h
theorem s_fadF {off:Nat} {cs:List AV} (hx:x.ev σ=.fp cs) (h:WO prog d id base (i+1) r (upO σ t (.fp (cs.drop off))) st K):WO prog d id base i (⟨t,.fad off x,none⟩::r) σ st K:=
 s_pure (fun K=>by simp only [WOp,aexec,apure,hx,Option.map_some,onO_some]) h
theorem s_mks {α:Type} {f:α→List AV} {a:α} {zero z:List AV} {bytes:Nat} {k k':IntKind} {n m:Int} (hz:softs zero=some z) (hf:f a=z) (hz0:Nat.blt 0 z.length=true) (hx:x.ev σ=.i k n) (hy:y.ev σ=.i k' m) (h0:0≤n) (hm:n=m) (hs:Fit n.toNat bytes) (h:WO prog d id base (i+1) r (upO σ t (.sl .full ((rep n.toNat a).map f))) st K):WO prog d id base i (⟨t,.mks zero bytes x y,none⟩::r) σ st K:=
 s_pure (fun K=>by
  subst hm
  have h1:0<z.length:=Nat.le_of_ble_eq_true hz0
  simp only [WOp,aexec,hx,hy,AV.nat,h0,if_true,hz]
  rw [if_pos ⟨trivial,hs.1,hs.2,h1⟩,onO_some,rep_eq,List.map_replicate,hf]) h
theorem s_alloc {zero:List AV} (h:WO prog d id base (i+1) r (upO σ t (.p (d,id*4096+i) (base+i) 0)) st K):WO prog d id base i (⟨t,.alloc zero,none⟩::r) σ st K:=
 s_pure (fun _=>rfl) h
theorem s_fadP {off o v:Nat} {k:Key} (hx:x.ev σ=.p k v o) (h:WO prog d id base (i+1) r (upO σ t (.p k v (o+off))) st K):WO prog d id base i (⟨t,.fad off x,none⟩::r) σ st K:=
 s_pure (fun K=>by simp only [WOp,aexec,apure,hx,Option.map_some,onO_some]) h
theorem s_nilP {o v:Nat} {k:Key} (hx:x.ev σ=.p k v o) (h:WO prog d id base (i+1) r (upO σ t (.p k v o)) st K):WO prog d id base i (⟨t,.nilc x,none⟩::r) σ st K:=
 s_pure (fun K=>by simp only [WOp,aexec,apure,hx,Option.map_some,onO_some]) h
theorem s_loadP {n o v:Nat} {agg:Bool} {k:Key} {cs:List AV} {w:AV} (hx:x.ev σ=.p k v o) (hb:lk st.bx k=some (v,cs)) (hn:Nat.ble (o+n) cs.length=true) (hv:ofCells agg ((cs.drop o).take n)=some w) (h:WO prog d id base (i+1) r (upO σ t w) st K):WO prog d id base i (⟨t,.load n agg x,none⟩::r) σ st K:=
 s_pure (fun K=>by simp only [WOp,aexec,aload,hx,hb,Nat.le_of_ble_eq_true hn,and_self,if_true,hv,Option.map_some,onO_some]) h
theorem s_storeP {n o v:Nat} {k:Key} {cs cs':List AV} {w:AV} (hx:x.ev σ=.p k v o) (hb:lk st.bx k=some (v,cs)) (hy:y.ev σ=w) (hn:(Nat.ble (o+n) cs.length&&Nat.beq w.cells.length n&&w.cells.all AV.one)=true) (hs:setAt cs o w.cells=cs') (h:WO prog d id base (i+1) r (upO σ t (.tup [])) { st with bx:=st_ st.bx k (v,cs') } K) (hok:okSt k w=true:=by first | rfl | exact okSt_r rfl):WO prog d id base i (⟨t,.store n x y,none⟩::r) σ st K:=by
 refine s_one ?_
 simp only [Bool.and_eq_true] at hn
 simp only [WOp,aexec,astore,hx,hb,hy]
 rw [if_pos ⟨trivial,Nat.le_of_ble_eq_true hn.1.1,Nat.eq_of_beq_eq_true hn.1.2,hn.2,hok⟩,hs]
 simp only [Option.map_some,onO_some]
 exact h
theorem s_mkfz {f v:Nat} {k:Key} {cs cs' A B:List AV} {a b:List Opd} (ha:a.map (·.ev σ)=A) (hx:x.ev σ=.p k v 0) (hb:b.map (·.ev σ)=B) (hk:lk st.bx k=some (v,cs)) (hs:softs cs=some cs') (h:WO prog d id base (i+1) r (upO σ t (.fn f (A++.fp cs'::B))) { st with bx:=del st.bx k } K):WO prog d id base i (⟨t,.mkfz f a x b,none⟩::r) σ st K:=by
 refine s_one ?_
 simp only [WOp,aexec,hx,hk,hs,ha,hb,if_true,onO_some]
 exact h
theorem s_aeqN {ks:List Nat} {cs ds:List AV} {b:Bool} {y:Opd} (hx:x.ev σ=.ag cs) (hy:y.ev σ=.ag ds) (hb:cellsEq ks cs ds=some b) (h:WO prog d id base (i+1) r (upO σ t (.b (!b))) st K):WO prog d id base i (⟨t,.aeq true ks x y,none⟩::r) σ st K:=
 s_pure (fun K=>by simp only [WOp,aexec,apure,hx,hy,hb,Option.map_some,onO_some,if_true]) h
theorem s_lkp {l:List (List UInt8 × Int)} {s:List UInt8} {y:Opd} (hx:x.ev σ=.mp l) (hy:y.ev σ=.s s) (h:WO prog d id base (i+1) r (upO σ t (.i .u8 (mpAt l s))) st K):WO prog d id base i (⟨t,.lkp x y,none⟩::r) σ st K:=
 s_pure (fun K=>by simp only [WOp,aexec,apure,hx,hy,Option.map_some,onO_some]) h
theorem s_boxf {n:Nat} {v:AV} {cs:List AV} (hx:x.ev σ=v) (hn:Nat.beq v.cells.length n=true) (hs:softs v.cells=some cs) (h:WO prog d id base (i+1) r (upO σ t (.fp cs)) st K):WO prog d id base i (⟨t,.boxf n x,none⟩::r) σ st K:=
 s_pure (fun K=>by simp only [WOp,aexec,apure,hx,Nat.eq_of_beq_eq_true hn,if_true,hs,Option.map_some,onO_some]) h
theorem s_box {n:Nat} {v:AV} (hx:x.ev σ=v) (hn:(Nat.beq v.cells.length n&&v.cells.all AV.one)=true) (h:WO prog d id base (i+1) r (upO σ t (.p (d,id*4096+i) (base+i) 0)) { st with bx:=st_ st.bx (d,id*4096+i) (base+i,v.cells) } K):WO prog d id base i (⟨t,.box n x,none⟩::r) σ st K:=by
 refine s_one ?_
 simp only [Bool.and_eq_true] at hn
 simp only [WOp,aexec,hx]
 rw [if_pos ⟨Nat.eq_of_beq_eq_true hn.1,hn.2⟩,onO_some]
 exact h
theorem s_iaP {n size o v:Nat} {k:Key} {k':IntKind} {m:Int} (hx:x.ev σ=.p k v o) (hy:y.ev σ=.i k' m) (h0:0≤m) (h1:m.toNat<n) (h:WO prog d id base (i+1) r (upO σ t (.p k v (o+m.toNat*size))) st K):WO prog d id base i (⟨t,.iaA n size x y,none⟩::r) σ st K:=
 s_pure (fun K=>by
  simp only [WOp,aexec,apure,hx,hy,AV.nat,h0,if_true,h1,Option.map_some,onO_some]) h
theorem s_app {α:Type} {f:α→List AV} {size bytes:Nat} {l m:List α} {o o2:Own} (hf :∀a,(f a).length=size) (hsz:Nat.blt 0 size=true) (hx:x.ev σ=.sl o (l.map f)) (hy:y.ev σ=.sl o2 (m.map f)) (ha:App st.ow o l.length) (hs:Fit (l.length+m.length) bytes) (hb:Nat.blt (id*4096+i) bigSite=true)
  (h :∀o' ow',App ow' o' (l++m).length→(∀k,some k≠ownKey o→k≠(d,id*4096+i)→lk ow' k=lk st.ow k)→(ownKey o'=ownKey o∨ownKey o'=some (d,id*4096+i))→WO prog d id base (i+1) r (upO σ t (.sl o' ((l++m).map f))) ⟨st.nx,st.bx,ow'⟩ K):WO prog d id base i (⟨t,.app size bytes x y,none⟩::r) σ st K:=by
 refine s_one ?_
 have h1:0<size:=Nat.le_of_ble_eq_true hsz
 refine WOp_app_ok (Nat.le_of_ble_eq_true hb) hx hy (by simpa using ha) (by simpa using hs.1) (by simpa using hs.2) h1 (by simp [hf]) (by simp [hf]) fun o' ow' h2 h3 h4=>?_
 rw [← List.map_append] at h2 ⊢
 exact h o' ow' (by simpa using h2) h3 h4
theorem sn:AV.strips (evs σ [])=some []:=rfl
theorem sc {v w:AV} {xs:List Opd} {ws:List AV} (hx:x.ev σ=v) (hw:v.strip=some w) (h:AV.strips (evs σ xs)=some ws):AV.strips (evs σ (x::xs))=some (w::ws):=by
 simp only [evs,AV.strips,hx,hw,h]
theorem s_call {f:Nat} {args:List Opd} {vs:List AV} {v:AV} (hs:AV.strips (evs σ args)=some vs) (hp:Pus prog f vs v) (h:WO prog d id base (i+1) r (upO σ t v) st K):WO prog d id base i (⟨t,.call false f args,none⟩::r) σ st K:=by
 refine s_one ?_
 obtain ⟨r',h1,h2⟩:=hp
 rw [WOp_call,hs,onO_some,WC_eq h1,h2,onO_some]
 exact h
theorem sen:evs σ []=[]:=rfl
theorem sec {v:AV} {xs:List Opd} {vs:List AV} (hx:x.ev σ=v) (h:evs σ xs=vs):evs σ (x::xs)=v::vs:=by simp only [evs,hx,h]
theorem s_callA {f:Nat} {args:List Opd} {vs:List AV} {o:Own} {rows rows':List (List AV)} (hs:evs σ args=.sl o rows::vs) (hp:PuA prog f rows vs rows') (ha:App st.ow o rows.length)
  (h :∀o' st',App st'.ow o' rows'.length→WO prog d id base (i+1) r (upO σ t (.sl o' rows')) st' K):WO prog d id base i (⟨t,.call true f args,none⟩::r) σ st K:=by
 refine s_one ?_
 obtain ⟨o',st',h1,h2⟩:=hp (d+1) st o ha
 rw [WOp_callp,hs]
 exact ⟨_,_,h1,h o' st' h2⟩
section
variable {dst:Option Nat} {op:AOp} {g:Nat} {w:Bool}
theorem s_gy (hg:σ g=.b w) (h:WO prog d id base i (⟨dst,op,none⟩::r) σ st K):WO prog d id base i (⟨dst,op,some (g,w)⟩::r) σ st K:=by
 show W1 prog d _ _ ⟨dst,op,some (g,w)⟩ σ st _
 rw [W1_some,hg]
 cases w<;>exact h
theorem s_gn {b:Bool} (hg:σ g=.b b) (hb:(b != w)=true) (h:WO prog d id base (i+1) r (upO σ dst (.tup [])) st K):WO prog d id base i (⟨dst,op,some (g,w)⟩::r) σ st K:=by
 show W1 prog d _ _ ⟨dst,op,some (g,w)⟩ σ st _
 rw [← upO_eq] at h
 rw [W1_some,hg]
 cases w<;>cases b<;>first | exact absurd hb (by decide) | exact h
theorem s_gt (hg:σ g=.tup []) (h:WO prog d id base (i+1) r (upO σ dst (.tup [])) st K):WO prog d id base i (⟨dst,op,some (g,w)⟩::r) σ st K:=by
 show W1 prog d _ _ ⟨dst,op,some (g,w)⟩ σ st _
 rw [← upO_eq] at h
 rw [W1_some,hg]
 exact h
end
theorem s_em {ops:List AI} {g:Nat} {p:Prop} [Decidable p] (hg:σ g=.b (decide p)) (h1:p→WO prog d id base i ops (up σ g (.b true)) st K) (h2:¬p→WO prog d id base i ops (up σ g (.b false)) st K):WO prog d id base i ops σ st K:=by
 by_cases h:p
 ·have:=h1 h
  rwa [← up_eq,upd_self (by rw [hg,decide_eq_true h])] at this
 ·have:=h2 h
  rwa [← up_eq,upd_self (by rw [hg,decide_eq_false h])] at this
theorem s_emb {ops:List AI} {g:Nat} {b:Bool} (hg:σ g=.b b) (h1:b=true→WO prog d id base i ops (up σ g (.b true)) st K) (h2:b=false→WO prog d id base i ops (up σ g (.b false)) st K):WO prog d id base i ops σ st K:=by
 cases b with
 | true=>have:=h1 rfl;rwa [← up_eq,upd_self hg] at this
 | false=>have:=h2 rfl;rwa [← up_eq,upd_self hg] at this
theorem s_pickT {a b:Opd} {v:AV} (hx:x.ev σ=.b true) (ha:a.ev σ=v) (h:WO prog d id base (i+1) r (upO σ t v) st K):WO prog d id base i (⟨t,.pick x a b,none⟩::r) σ st K:=
 s_pure (fun K=>by rw [WOp_pick,hx,onB_true,ha];rfl) h
theorem s_pickF {a b:Opd} {v:AV} (hx:x.ev σ=.b false) (hb:b.ev σ=v) (h:WO prog d id base (i+1) r (upO σ t v) st K):WO prog d id base i (⟨t,.pick x a b,none⟩::r) σ st K:=
 s_pure (fun K=>by rw [WOp_pick,hx,onB_false,hb];rfl) h
end
section
variable {prog:Prog} {d:Nat} {σ:Sl} {st:St} {Q:AE→Sl→St→Prop}
theorem c_split {c:Opd} {a b:AC} {p:Prop} [Decidable p] (hc:c.ev σ=.b (decide p)) (h1:p→W prog d a σ st Q) (h2:¬p→W prog d b σ st Q):W prog d (.cond c a b) σ st Q:=W.split hc h1 h2
theorem c_bool {c:Opd} {a b:AC} {t:Bool} (hc:c.ev σ=.b t) (h1:t=true→W prog d a σ st Q) (h2:t=false→W prog d b σ st Q):W prog d (.cond c a b) σ st Q:=W.cnd hc h1 h2
theorem c_tt {c:Opd} {a b:AC} (hc:c.ev σ=.b true) (h1:W prog d a σ st Q):W prog d (.cond c a b) σ st Q:=W.tt hc h1
theorem c_ff {c:Opd} {a b:AC} (hc:c.ev σ=.b false) (h1:W prog d b σ st Q):W prog d (.cond c a b) σ st Q:=W.ff hc h1
def endW (d:Nat) (res:List ARes) (K:AV→St→Prop):AE→Sl→St→Prop
 | .normal,σ,st | .ret,σ,st=>∃r,ares σ st res=some r∧K r { st with bx:=st.bx.filter fun x=>x.1.1<d }
 | _,_,_=>False
theorem Fn.of' {f:Nat} {F:AF} {args:List AV} {K:AV→St→Prop} (hf:prog.fn f=some F) (hn:args.length≤F.nt) (h:W prog d F.body (sl0 args) st (endW d F.res K)) :∃r st',Fn prog d f args st r st'∧K r st':=by
 obtain ⟨n,e,σ1,st1,h1,h2⟩:=h
 cases e with
 | normal=>
  obtain ⟨r,h3,h4⟩:=h2
  exact ⟨r,_,⟨n+1,by simp only [acall,hf,if_pos hn,h1,h3,Option.map_some]⟩,h4⟩
 | ret=>
  obtain ⟨r,h3,h4⟩:=h2
  exact ⟨r,_,⟨n+1,by simp only [acall,hf,if_pos hn,h1,h3,Option.map_some]⟩,h4⟩
 | exit id=>exact h2.elim
 | goto l=>exact h2.elim
theorem Pus.of {f:Nat} {F:AF} {args:List AV} {K:AV→Prop} (hf:prog.fn f=some F) (hn:Nat.ble args.length F.nt=true) (h:W prog 0 F.body (sl0 args) st0 (endW 0 F.res fun r _=>∃v,r.strip=some v∧K v)) :∃v,Pus prog f args v∧K v:=by
 obtain ⟨r,st',h1,v,h2,h3⟩:=Fn.of' hf (Nat.le_of_ble_eq_true hn) h
 exact ⟨v,⟨r,⟨st',h1⟩,h2⟩,h3⟩
theorem Pus.orac {f:Nat} {args:List AV} {r v:AV} (hf:prog.fn f=none) (hr:prog.orac f args=some r) (hv:r.strip=some v):Pus prog f args v:=
 ⟨r,⟨st0,1,by simp only [acall,hf,hr,Option.map_some]⟩,hv⟩
end
theorem abin_quo' {k:IntKind} {a b:Int} (h:b≠0):abin .quo (.i k a) (.i k b)=some (.i k (k.wrap (a.tdiv b))):=by rw [abin_quo,if_neg h]
theorem abin_rem' {k:IntKind} {a b:Int} (h:b≠0):abin .rem (.i k a) (.i k b)=some (.i k (a.tmod b)):=by simp [abin,aint,h]
theorem abin_shr' {k k':IntKind} {a b:Int} (h:0≤b):abin .shr (.i k a) (.i k' b)=some (.i k (a.fdiv (2 ^ (min b.toNat k.bits)))):=by rw [abin_shr,if_neg (by omega)]
theorem abin_andNot (k:IntKind) (a b:Int):abin .andNot (.i k a) (.i k b)=some (.i k (k.wrap (BitVec.ofInt k.bits a &&& ~~~(BitVec.ofInt k.bits b)).toNat)):=by simp [abin,aint]
theorem abin_cat' {x y:List UInt8} (h:x.length+y.length≤maxStr):abin .add (.s x) (.s y)=some (.s (x++y)):=by rw [abin_cat,if_pos h]
def rowS (x:List UInt8):List AV:=[.s x]
def c8 (x:UInt8):AV:=.i .u8 (x.toNat:Int)
theorem row8_len (x:UInt8):(row8 x).length=1:=rfl
theorem rowS_len (x:List UInt8):(rowS x).length=1:=rfl
theorem App.full {ow:List (Key × Nat × Nat)} {n:Nat}:App ow .full n:=trivial
theorem lk_here {α:Type} {l:List (Key × α)} {k:Key} {a:α}:lk (st_ l k a) k=some a:=by rw [lk_st',if_pos rfl]
theorem lk_other {α:Type} {l:List (Key × α)} {d s s':Nat} {a:α} {b:Option α} (h:Nat.beq s s'=false) (hb:lk l (d,s')=b):lk (st_ l (d,s) a) (d,s')=b:=by
 rw [lk_st',if_neg ?_,hb]
 intro e
 injection e with _ e
 rw [e,Nat.beq_refl] at h
 cases h
theorem setAt_map {α:Type} (f:α→AV) (l:List α) (n:Nat) (a:α):setAt (l.map f) n [f a]=(l.set n a).map f:=by
 simp only [setAt,List.map_set]
theorem softs_c8 :∀l:List UInt8,softs (l.map c8)=some (l.map c8)
 | []=>rfl
 | c::l=>by simp only [List.map_cons,softs,softs_c8 l,c8,AV.soft]
theorem chunk_c8 (l:List UInt8):chunk 1 l.length (l.map c8)=l.map row8:=by
 unfold chunk
 apply List.ext_getElem
 ·simp
 ·intro j h1 h2
  simp at h1
  simp only [List.getElem_map,List.getElem_range,Nat.mul_one]
  rw [List.drop_eq_getElem_cons (by simpa using h1)]
  simp [c8,row8]
section
variable {prog:Prog} {d id base i:Nat} {σ:Sl} {st:St} {K:Sl→St→Prop} {r:List AI} {t:Option Nat} {x y:Opd}
theorem s_slA_lo {z:Opd} {l:List UInt8} {k:Key} {k':IntKind} {n v:Nat} {m:Int} (hx:x.ev σ=.p k v 0) (hb:lk st.bx k=some (v,l.map c8)) (hn:l.length=n) (hn0:Nat.blt 0 n=true) (hz:z.ev σ=.i k' m) (h0:0≤m) (h1:m.toNat≤n) (h:WO prog d id base (i+1) r (upO σ t (.sl .ext ((l.drop m.toNat).map row8))) { st with bx:=del st.bx k } K):WO prog d id base i (⟨t,.slA n 1 x (some z) none,none⟩::r) σ st K:=by
 refine s_one ?_
 have hbd:bnds σ n n (some z) none=some (m.toNat,n):=by
  simp only [bnds,hz,AV.nat,h0,if_true]
  rw [if_pos ⟨h1,Nat.le_refl _⟩]
 simp only [WOp,aexec,hx,hb]
 rw [if_pos ⟨trivial,trivial,by simp [hn],Nat.one_pos⟩]
 subst hn
 simp only [softs_c8,hbd,Option.map_some,onO_some,chunk_c8]
 rw [List.take_of_length_le (by simp),← List.map_drop]
 exact h
theorem s_storeA {α:Type} {f:α→AV} {l:List α} {a:α} {v o:Nat} {k:Key} (hf :∀a,(f a).cells=[f a]∧(f a).one=true) (hx:x.ev σ=.p k v o) (hb:lk st.bx k=some (v,l.map f)) (hy:y.ev σ=f a) (hn:o<l.length) (h:WO prog d id base (i+1) r (upO σ t (.tup [])) { st with bx:=st_ st.bx k (v,(l.set o a).map f) } K) (hok:okSt k (f a)=true:=by first | rfl | exact okSt_r rfl):WO prog d id base i (⟨t,.store 1 x y,none⟩::r) σ st K:=by
 refine s_one ?_
 simp only [WOp,aexec,astore,hx,hb,hy,(hf a).1]
 rw [if_pos ⟨trivial,by simp;omega,rfl,by simp [(hf a).2],hok⟩,setAt_map]
 simp only [Option.map_some,onO_some]
 exact h
end
theorem c8_one (a:UInt8):(c8 a).cells=[c8 a]∧(c8 a).one=true:=⟨rfl,rfl⟩
section
variable {prog:Prog} {d id base i:Nat} {σ:Sl} {st:St} {K:Sl→St→Prop} {r:List AI} {t:Option Nat} {x y:Opd}
theorem s_mvI {k:IntKind} {n:Int} (hx:x.ev σ=.i k n) (h:WO prog d id base (i+1) r (upO σ t (.i k n)) st K):WO prog d id base i (⟨t,.mv x,none⟩::r) σ st K:=s_mv hx h
theorem s_mvB {b:Bool} (hx:x.ev σ=.b b) (h:WO prog d id base (i+1) r (upO σ t (.b b)) st K):WO prog d id base i (⟨t,.mv x,none⟩::r) σ st K:=s_mv hx h
theorem s_mvS {l:List UInt8} (hx:x.ev σ=.s l) (h:WO prog d id base (i+1) r (upO σ t (.s l)) st K):WO prog d id base i (⟨t,.mv x,none⟩::r) σ st K:=s_mv hx h
theorem s_mvL {α:Type} {f:α→List AV} {l:List α} {o:Own} (hx:x.ev σ=.sl o (l.map f)) (h:WO prog d id base (i+1) r (upO σ t (.sl o (l.map f))) st K):WO prog d id base i (⟨t,.mv x,none⟩::r) σ st K:=s_mv hx h
section
variable {a b:Opd}
theorem s_pickTB {v:Bool} (hx:x.ev σ=.b true) (ha:a.ev σ=.b v) (h:WO prog d id base (i+1) r (upO σ t (.b v)) st K):WO prog d id base i (⟨t,.pick x a b,none⟩::r) σ st K:=s_pickT hx ha h
theorem s_pickFB {v:Bool} (hx:x.ev σ=.b false) (hb:b.ev σ=.b v) (h:WO prog d id base (i+1) r (upO σ t (.b v)) st K):WO prog d id base i (⟨t,.pick x a b,none⟩::r) σ st K:=s_pickF hx hb h
end
theorem g_u8 {n:Int} {c:UInt8} (hx:x.ev σ=.i .u8 n) (hc:n=(c.toNat:Int)):x.ev σ=.i .u8 (c.toNat:Int):=by rw [hx,hc]
theorem s_bslM {α:Type} {f:α→List AV} {l:List α} {zero z:List AV} {n:Nat} {parts:List (Nat × Opd)} {rows:List (List AV)} (hz:softs zero=some z) (hn:(Nat.blt 0 z.length&&Nat.ble (n*z.length) 65536)=true) (hp:fillRows z σ (List.replicate n z) parts=some rows) (hr:rows=l.map f) (h:WO prog d id base (i+1) r (upO σ t (.sl .full (l.map f))) st K):WO prog d id base i (⟨t,.bslice zero n parts,none⟩::r) σ st K:=
 s_bslice hz hn hp (by rw [hr];exact h)
theorem s_buildM {α:Type} {f:α→AV} {l:List α} {zero:List AV} {parts:List (Nat × Nat × Opd)} {cs:List AV} (hp:fillCells σ zero parts=some cs) (hr:cs=l.map f) (h:WO prog d id base (i+1) r (upO σ t (.ag (l.map f))) st K):WO prog d id base i (⟨t,.build zero parts,none⟩::r) σ st K:=
 s_build hp (by rw [hr];exact h)
end
def bAnd (k:IntKind) (a b:Int):Int:=k.wrap (BitVec.ofInt k.bits a &&& BitVec.ofInt k.bits b).toNat
def bAndNot (k:IntKind) (a b:Int):Int:=k.wrap (BitVec.ofInt k.bits a &&& ~~~(BitVec.ofInt k.bits b)).toNat
def bShr (k:IntKind) (a:Int) (n:Nat):Int:=a.fdiv (2 ^ (min n k.bits))
def PuAK (prog:Prog) (f:Nat) (rows:List (List AV)) (args:List AV) (KK:List (List AV)→Prop):Prop:=
 ∀d st o,App st.ow o rows.length→∃o' st' rows',KK rows'∧Fn prog d f (.sl o rows::args) st (.sl o' rows') st'∧App st'.ow o' rows'.length
def appK (KK:List (List AV)→Prop) (r:AV) (st':St):Prop:=∃o' rows',r=.sl o' rows'∧App st'.ow o' rows'.length∧KK rows'
theorem PuAK.of {prog:Prog} {f:Nat} {F:AF} {rows:List (List AV)} {args:List AV} {KK:List (List AV)→Prop} (hf:prog.fn f=some F) (hn:Nat.ble (args.length+1) F.nt=true) (h :∀d st o,App st.ow o rows.length→W prog d F.body (sl0 (.sl o rows::args)) st (endW d F.res (appK KK))):PuAK prog f rows args KK:=by
 intro d st o ha
 obtain ⟨r,st',h1,o',rows',rfl,h2,h3⟩:=Fn.of' (args:=.sl o rows::args) hf (by simpa using Nat.le_of_ble_eq_true hn) (h d st o ha)
 exact ⟨o',st',rows',h3,h1,h2⟩
theorem PuAK.to {prog:Prog} {f:Nat} {rows rows':List (List AV)} {args:List AV} (h:PuAK prog f rows args fun x=>x=rows'):PuA prog f rows args rows':=by
 intro d st o ha
 obtain ⟨o',st',x,rfl,h1,h2⟩:=h d st o ha
 exact ⟨o',st',h1,h2⟩
section
variable {prog:Prog} {d id base i:Nat} {σ:Sl} {st:St} {K:Sl→St→Prop} {r:List AI} {t:Option Nat} {x y:Opd}
theorem s_iaP1 {n v:Nat} {k:Key} {k':IntKind} {m:Int} (hx:x.ev σ=.p k v 0) (hy:y.ev σ=.i k' m) (h0:0≤m) (h1:m.toNat<n) (h:WO prog d id base (i+1) r (upO σ t (.p k v m.toNat)) st K):WO prog d id base i (⟨t,.iaA n 1 x y,none⟩::r) σ st K:=
 s_iaP hx hy h0 h1 (by rw [Nat.zero_add,Nat.mul_one];exact h)
end
end Go.AM

/- Parts of the proof. -/
namespace Go.AM
open Go Go.RowKit Go.ChangeShapes Go.WideShapes
def ArgOk (T:TTab) (t:TypeId) (a:AV):Prop:=
 match T t with
 | some i=>match i.kind with
  | .st _=>∃f vsA,a=.ag vsA∧vsA.length=i.size∧HasC T f t vsA
  | _=>∃f,HasC T f t [a]
 | none=>False
def ArgsOk (T:TTab):List TypeId→List AV→Prop
 | [],[]=>True
 | t::ts,a::vsA=>ArgOk T t a∧ArgsOk T ts vsA
 | _,_=>False
section
variable {H:Type} {enc:TypeId × Value→H} {P:Program} {X:Cx} {W:World} {L:List Nat}
def G0 (X:Cx) (W:World):Gh:=⟨H0 W,fun _ _=>none,fun _ _=>none,X.fm,fun _=>none⟩
theorem G0_rel:Rel (G0 X W) W st0 W where
 bel:=.refl _ _
 ext:=fun g o v h=>H0_inv h
 bx:=by intro k ver cs g h;cases h
 inj:=by intro k k' ver ver' cs cs' g h;cases h
 ow:=by intro k ver n h;cases h
 owinj:=by intro k k' ver ver' n n' g cap size cap' size' h;cases h
 fresh:=fun k ver _=>⟨rfl,rfl⟩
 bxT:=by intro k ver cs g hb h;cases h
 owT:=by intro k ver n hb h;cases h
 mp:=by intro b l h;cases h
theorem arg_read (hT:TTok P X.T) (hL :∀t,L.contains t=true→okTy X.T L t=true) {t:TypeId} (ht:L.contains t=true) {v:Value} {d:DataW H} {ps:List MemPlace} {b:Nat} {r:Reach} {held:Bool} {sp:Nat→Bool}
  (hval:Value.okWide P W r b t v) (hd:DataW.Trod enc P W 0 sp held t v d ps) :∃a,R (G0 X W) a v∧ArgOk X.T t a:=by
 obtain ⟨f,hf⟩:=hd
 obtain ⟨vsA,h1,h2⟩:=read_good hT hL f t ht _ _ hf
 have hok:=hL t ht
 unfold okTy at hok
 split at hok
 case h_2=>cases hok
 rename_i i hi
 have hk:=(hT t i hi).kind
 have plain:(∀us,v≠.agg us)→(∀fs,i.kind≠.st fs)→vsA.length=1→∃a,R (G0 X W) a v∧ArgOk X.T t a:=by
  intro hv hst hlen
  have hc:v.cells.toList=[v]:=by
   cases v with
   | agg us=>exact absurd rfl (hv us)
   | _=>rfl
  match vsA,hlen with
  | [a],_=>
   rw [hc] at h1
   refine ⟨a,.fz _ _ (h1.2 0 a v rfl rfl).1,?_⟩
   unfold ArgOk
   rw [hi]
   have key :∀kk:TK,(∀fs,kk≠.st fs)→(match kk with | .st _=>∃f vsA,a=.ag vsA∧vsA.length=i.size∧HasC X.T f t vsA | _=>∃f,HasC X.T f t [a]):=by
    intro kk hk
    cases kk with
    | st fs=>exact absurd rfl (hk fs)
    | int k=>exact ⟨f,h2⟩
    | bool=>exact ⟨f,h2⟩
    | str=>exact ⟨f,h2⟩
    | sl e=>exact ⟨f,h2⟩
    | arr n e=>exact ⟨f,h2⟩
    | other=>exact ⟨f,h2⟩
    | ptr e=>exact ⟨f,h2⟩
    | uptr=>exact ⟨f,h2⟩
    | mp=>exact ⟨f,h2⟩
   exact key i.kind hst
 have one :∀{vsA:List AV},Good W vsA v.cells.toList→(∀us,v≠.agg us)→vsA.length=1:=by
  intro vsA h hv
  rw [h.1]
  cases v with
  | agg us=>exact absurd rfl (hv us)
  | _=>rfl
 generalize hkk:i.kind=kk at hk hok
 cases kk with
 | int k=>
  obtain ⟨n,rfl⟩:=okWide_int hk hval
  exact plain (by intro us h;cases h) (by rw [hkk];intro fs h;cases h) (one h1 (by intro us h;cases h))
 | bool=>
  obtain ⟨n,rfl⟩:=okWide_bool hk hval
  exact plain (by intro us h;cases h) (by rw [hkk];intro fs h;cases h) (one h1 (by intro us h;cases h))
 | str=>
  obtain ⟨n,rfl⟩:=okWide_string hk hval
  exact plain (by intro us h;cases h) (by rw [hkk];intro fs h;cases h) (one h1 (by intro us h;cases h))
 | sl e=>
  obtain ⟨a,l,c,rfl⟩:=okWide_slice hk hval
  exact plain (by intro us h;cases h) (by rw [hkk];intro fs h;cases h) (one h1 (by intro us h;cases h))
 | st fs=>
  obtain ⟨fields,hu,_⟩:=hk
  obtain ⟨cs,rfl,hcs⟩:=okWide_struct hu hval
  refine ⟨.ag vsA,?_,?_⟩
  ·have hsz:vsA.length=cs.toList.length:=h1.1
   have e:Value.agg cs=.agg cs.toList.toArray:=by simp
   rw [e]
   exact .ag vsA cs.toList hsz fun j a u ha hu=>.fz _ _ (h1.2 j a u ha hu).1
  ·unfold ArgOk
   rw [hi]
   simp only [hkk]
   refine ⟨f,vsA,rfl,?_,h2⟩
   rw [h1.1]
   simp only [Value.cells]
   rw [← cellsOf_T hT hi,← hcs]
   simp
 | arr n e=>simp at hok
 | other=>simp at hok
 | ptr e=>simp at hok
 | mp=>cases hok
 | uptr=>simp at hok
theorem args_read (hT:TTok P X.T) (hL :∀t,L.contains t=true→okTy X.T L t=true) {b:Nat} {r:Reach} {held:Bool} {sp:Nat→Bool} :∀{ts:List TypeId} {vs:List Value} {ds:List (DataW H)} {ps:List MemPlace},(ts.all fun t=>L.contains t)=true→
  (∀(j:Nat) t v,ts[j]?=some t→vs[j]?=some v→Value.okWide P W r b t v)→DataW.TrodAll enc P W 0 sp held ts vs ds ps→∃vsA,Rs (G0 X W) vsA vs∧ArgsOk X.T ts vsA
 | [],vs,ds,ps,_,_,h=>by
  obtain ⟨rfl,rfl,rfl⟩:=trodAll_nil h
  exact ⟨[],⟨rfl,by simp⟩,trivial⟩
 | t::ts,vs,ds,ps,ht,hv,h=>by
  obtain ⟨v,vs1,d,ds1,p,q,rfl,rfl,rfl,h1,h2⟩:=trodAll_cons h
  simp only [List.all_cons,Bool.and_eq_true] at ht
  obtain ⟨a,h3,h4⟩:=arg_read hT hL ht.1 (hv 0 t v rfl rfl) h1
  obtain ⟨vsA,h5,h6⟩:=args_read hT hL ht.2 (fun j t v h1 h2=>hv (j+1) t v (by simpa using h1) (by simpa using h2)) h2
  refine ⟨a::vsA,⟨by simp [h5.1],fun j x u hx hu=>?_⟩,h4,h6⟩
  cases j with
  | zero=>simp at hx hu;subst hx;subst hu;exact h3
  | succ j=>exact h5.2 j x u (by simpa using hx) (by simpa using hu)
theorem args_below (hl:laidOutB P=true) {W':World} (hb:Below W.heap.size W W') :∀{ts:List TypeId} {vs:List Value} {ds:List (DataW H)} {ps:List MemPlace},(ts.all fun t=>P.readableRec t&&decide (t<P.types.size))=true→
  DataW.TrodAll enc P W 0 (fun _=>true) true ts vs ds ps→(∀x∈ps,x.block<W.heap.size)→DataW.TrodAll enc P W' 0 (fun b=>decide (b<W.heap.size)) true ts vs ds ps
 | [],vs,ds,ps,_,h,_=>by
  obtain ⟨rfl,rfl,rfl⟩:=trodAll_nil h
  exact trodAll_mk0
 | t::ts,vs,ds,ps,ht,h,hps=>by
  obtain ⟨v,vs1,d,ds1,p,q,rfl,rfl,rfl,h1,h2⟩:=trodAll_cons h
  simp only [List.all_cons,Bool.and_eq_true,decide_eq_true_eq] at ht
  exact trodAll_cons_mk (Below.trod hl ht.1.1 ht.1.2 h1 hb fun x hx=>hps x (List.mem_append_left _ hx)) (args_below hl hb ht.2 h2 fun x hx=>hps x (List.mem_append_right _ hx))
theorem args_lt :∀{ts:List TypeId} {vs:List Value} {ds:List (DataW H)} {ps:List MemPlace} {sp:Nat→Bool} {held:Bool},DataW.TrodAll enc P W 0 sp held ts vs ds ps→∀x∈ps,x.block<W.heap.size
 | [],vs,ds,ps,_,_,h=>by
  obtain ⟨rfl,rfl,rfl⟩:=trodAll_nil h
  simp
 | t::ts,vs,ds,ps,_,_,h=>by
  obtain ⟨v,vs1,d,ds1,p,q,rfl,rfl,rfl,h1,h2⟩:=trodAll_cons h
  intro x hx
  rcases List.mem_append.1 hx with hx | hx
  ·obtain ⟨m,hm⟩:=h1
   exact DataW.trod_lt m _ _ _ hm x hx
  ·exact args_lt h2 x hx
structure LawAt (P:Program) (X:Cx) (prog:Prog) (L:List Nat):Prop where
 T:TTok P X.T
 mixed:P.follows .mixedOrders=true
 fns:ProgOk P X prog.fn
 orac:OracOk P X prog
 oracS:OracSOk P X prog
 types :∀t,L.contains t=true→okTy X.T L t=true
theorem law_calls {prog:Prog} (h:LawAt P X prog L) {f c:Nat} (hfm:X.fm f=some c) {args:Array Value} (hen:(callFunc f args).run P W=.ok (.enter f args) W) {avs:List AV} (hR:Rs (G0 X W) avs args.toList) (hlaw:Pus prog c avs (.b true)) :
  Calls P f args W fun e W'=>e=.returned (.bool true)∧Below W.heap.size W W':=by
 obtain ⟨r,⟨st',n,hr⟩,hs⟩:=hlaw
 have hrb:r=.b true:=by
  cases r with
  | b x=>simpa [AV.strip] using hs
  | bf f cs=>simp [AV.strip] at hs
  | sl o rows=>simp [AV.strip] at hs
  | ag cs=>simp only [AV.strip] at hs;split at hs<;>cases hs
  | tup cs=>simp only [AV.strip] at hs;split at hs<;>cases hs
  | p k v o=>simp [AV.strip] at hs
  | fn f cap=>simp [AV.strip] at hs
  | i k n=>simp [AV.strip] at hs
  | s l=>simp [AV.strip] at hs
  | fp cs=>simp [AV.strip] at hs
  | np=>simp [AV.strip] at hs
  | nf=>simp [AV.strip] at hs
  | ni=>simp [AV.strip] at hs
  | u=>simp [AV.strip] at hs
  | mp=>simp [AV.strip] at hs
 subst hrb
 have hg:=calls_ok h.T h.mixed h.fns h.orac h.oracS n 0 c avs st0 _ st' hr f hfm (G0 X W) W W args.toList rfl G0_rel hR
 have ea:args.toList.toArray=args:=by simp
 rw [ea] at hg
 rcases hg with ⟨_,h2⟩ | ⟨v,w',h2,_⟩
 ·refine h2.mono fun e w' he=>?_
  cases e with
  | returned v=>
   obtain ⟨G',h3,h4⟩:=he
   exact ⟨by rw [h3.bool_inv],h4.rel.bel⟩
  | panicked c=>exact he.elim
  | outgrown=>exact he.elim
 ·rw [hen] at h2
  cases h2
theorem FnOk.of {f:Nat} {F:AF} {fn:Func} (h1:P.funcs[f]?=some fn) (h2:(fn.name== "runtime.NumGoroutine")=false) (h3:fn.body.bind (cCode { X with fz:=F.fz } F.nt)=some F.body) (h4:fn.ntmps=F.nt) (h5:cRess X fn.results.toList=some F.res) (h6:Nat.ble F.res.length 4=true):FnOk P X f F:=by
 rw [Option.bind_eq_some_iff] at h3
 obtain ⟨code,h7,h8⟩:=h3
 exact ⟨fn,code,h1,h2,h7,h4,GoodF.of h8,h5,Nat.le_of_ble_eq_true h6⟩
theorem FnOk.ofG {f:Nat} {F:AF} {fn:Func} {code:Code} (h1:P.funcs[f]?=some fn) (h2:(fn.name== "runtime.NumGoroutine")=false) (h3:fn.body=some code) (hg:GoodF P X F code) (h4:fn.ntmps=F.nt) (h5:cRess X fn.results.toList=some F.res) (h6:Nat.ble F.res.length 4=true):FnOk P X f F:=
 ⟨fn,code,h1,h2,h3,h4,hg,h5,Nat.le_of_ble_eq_true h6⟩
theorem FnOk.enters {f:Nat} {F:AF} (h:FnOk P X f F) (args:Array Value) (w:World):(callFunc f args).run P w=.ok (.enter f args) w:=by
 obtain ⟨fn,code,h1,h2,h3,_⟩:=h.ok
 exact callFunc_enter h1 h2 h3 args
def tabOf (l:List (Nat × TI)):TTab:=fun t=>(l.find? fun x=>x.1==t).map (·.2)
theorem tab_ok {l:List (Nat × TI)} (h :∀x∈l,TOk P x.1 x.2):TTok P (tabOf l):=by
 intro t i hi
 unfold tabOf at hi
 rw [Option.map_eq_some_iff] at hi
 obtain ⟨x,h1,rfl⟩:=hi
 have h2:=List.find?_some h1
 have h3:=List.mem_of_find?_eq_some h1
 have:x.1=t:=by simpa using h2
 rw [← this]
 exact h x h3
def fnOf (l:List (Nat × AF)):Nat→Option AF:=fun c=>(l.find? fun x=>x.1==c).map (·.2)
def fmOf (l:List (Nat × Nat)):FM:=fun f=>(l.find? fun x=>x.1==f).map (·.2)
theorem prog_ok {fm:List (Nat × Nat)} {fs:List (Nat × AF)} (h :∀x∈fm,∀F,fnOf fs x.2=some F→FnOk P X x.1 F) (hX:X.fm=fmOf fm):ProgOk P X (fnOf fs):=by
 intro f c F hf hc
 rw [hX] at hf
 unfold fmOf at hf
 rw [Option.map_eq_some_iff] at hf
 obtain ⟨x,h1,rfl⟩:=hf
 have h2:=List.find?_some h1
 have h3:=List.mem_of_find?_eq_some h1
 have:x.1=f:=by simpa using h2
 rw [← this]
 exact h x h3 F hc
theorem orac_index {G:Gh} {w0 w:World} {st:St} {f:FuncId} {fn:Func} {d:Nat} (h1:P.funcs[f]?=some fn) (h2:(fn.name== "runtime.NumGoroutine")=false) (h3:fn.body.isNone=true) (h4:Extern.findNext fn=none) (h5:Extern.find fn=some Extern.BytealgIndexByte.indexByte)
  {s:List UInt8} {c:UInt8} {vals:List Value} (hR:Rel G w0 st w) (hV:Rs G [.s s,.i .u8 (c.toNat:Int)] vals):Goes P f vals.toArray w fun v w'=>∃G',R G' (.i .i64 (Lib.indexByte s c)) v∧Run G G' w0 st st w' d:=by
 have hlen:=hV.1
 match vals,hlen with
 | [v1,v2],_=>
  have e1:=(hV.2 0 _ v1 rfl rfl).str_inv
  have e2:=(hV.2 1 _ v2 rfl rfl).int_inv
  subst e1;subst e2
  refine .inr ⟨.int .i64 (Lib.indexByte s c),w,?_,G,.fz _ _ (.i _ _),.refl hR⟩
  rw [run_callFunc_extern h1 h2 h3 h4 h5]
  have:=Lib.run_indexByteString (P:=P) ⟨s.toArray⟩ (c.toNat:Int) w
  rw [this]
  simp [Result.andThen]
end
end Go.AM
namespace Go.AM
open Go
theorem TOk.of {P:Program} {t:TypeId} {i:TI} {ti:TypeInfo} (h1:P.info? t=some ti) (h2:(Nat.beq ti.size i.size&&Nat.beq ti.bytes i.bytes)=true) (h3:(ti.zero.bind fun z=>if z.cells.size=i.size then cVals z.cells.toList else none)=some i.zero) (h4:i.kind.ok P t):TOk P t i:=by
 simp only [Bool.and_eq_true] at h2
 rw [Option.bind_eq_some_iff] at h3
 obtain ⟨z,h5,h6⟩:=h3
 split at h6
 ·rename_i h7
  exact ⟨⟨ti,z,h1,Nat.eq_of_beq_eq_true h2.1,Nat.eq_of_beq_eq_true h2.2,h5,h6,h7⟩,h4⟩
 ·cases h6
theorem TK.ok_st {P:Program} {t:TypeId} {fs:List (Nat × Nat)} (h:((P.underlying t).bind fun d=>match d with | .struct f=>if (!P.stoodInHeld t&&!P.eqGuardType P.depth t&&f.toList.all (fun f=>!(f.name== "_")))=true then some (f.toList.map fun f=>(f.type,f.offset)) else none | _=>none)=some fs):TK.ok P t (.st fs):=by
 rw [Option.bind_eq_some_iff] at h
 obtain ⟨d,h1,h2⟩:=h
 cases d with
 | struct f=>
  simp only at h2
  split at h2
  case isFalse=>cases h2
  rename_i h3
  simp only [Bool.and_eq_true,Bool.not_eq_true',List.all_eq_true] at h3
  simp only [Option.some.injEq] at h2
  exact ⟨f,h1,h2,h3.1.1,h3.1.2,h3.2⟩
 | _=>cases h2
end Go.AM

/- Parts of the proof. -/
namespace Go.AM
open Go Go.RowKit Go.ChangeShapes
section
variable {T:TTab} {t:TypeId} {a:AV} {i:TI}
theorem ArgOk.plain (hi:T t=some i) (hk :∀fs,i.kind≠.st fs) (h:ArgOk T t a) :∃f,HasC T f t [a]:=by
 unfold ArgOk at h
 rw [hi] at h
 obtain ⟨kk,s1,s2,s3⟩:=i
 simp only at hk
 cases kk with
 | st fs=>exact absurd rfl (hk fs)
 | int k=>simpa only using h
 | bool=>simpa only using h
 | str=>simpa only using h
 | sl e=>simpa only using h
 | arr n e=>simpa only using h
 | other=>simpa only using h
 | ptr e=>simpa only using h
 | uptr=>simpa only using h
 | mp=>simpa only using h
theorem HasC.int {f:Nat} {vsA:List AV} {k:IntKind} (hi:T t=some i) (hk:i.kind=.int k) (h:HasC T f t vsA) :∃n,vsA=[.i k n]∧k.min≤n∧n≤k.max:=by
 cases f with
 | zero=>exact h.elim
 | succ f=>
  unfold HasC at h
  rw [hi] at h
  simp only [hk] at h
  exact h
theorem HasC.bool {f:Nat} {vsA:List AV} (hi:T t=some i) (hk:i.kind=.bool) (h:HasC T f t vsA) :∃b,vsA=[.b b]:=by
 cases f with
 | zero=>exact h.elim
 | succ f=>
  unfold HasC at h
  rw [hi] at h
  simp only [hk] at h
  exact h
theorem HasC.str {f:Nat} {vsA:List AV} (hi:T t=some i) (hk:i.kind=.str) (h:HasC T f t vsA) :∃s,vsA=[.s s]∧s.length≤maxLen:=by
 cases f with
 | zero=>exact h.elim
 | succ f=>
  unfold HasC at h
  rw [hi] at h
  simp only [hk] at h
  exact h
theorem HasC.sl {f e:Nat} {vsA:List AV} (hi:T t=some i) (hk:i.kind=.sl e) (h:HasC T f t vsA) :∃g rows,f=g+1∧vsA=[.sl .ext rows]∧rows.length≤maxLen∧(∀r∈rows,HasC T g e r)∧∀j,T e=some j→∀r∈rows,r.length=j.size:=by
 cases f with
 | zero=>exact h.elim
 | succ f=>
  unfold HasC at h
  rw [hi] at h
  simp only [hk] at h
  obtain ⟨rows,h1,h2,h3⟩:=h
  exact ⟨f,rows,rfl,h1,h2,h3⟩
theorem HasC.st {f:Nat} {vsA:List AV} {fs:List (Nat × Nat)} (hi:T t=some i) (hk:i.kind=.st fs) (h:HasC T f t vsA) :∃g,f=g+1∧∀x∈fs,∃j,T x.1=some j∧HasC T g x.1 ((vsA.drop x.2).take j.size):=by
 cases f with
 | zero=>exact h.elim
 | succ f=>
  unfold HasC at h
  rw [hi] at h
  simp only [hk] at h
  exact ⟨f,rfl,h⟩
theorem ArgOk.int {k:IntKind} (hi:T t=some i) (hk:i.kind=.int k) (h:ArgOk T t a) :∃n,a=.i k n∧k.min≤n∧n≤k.max:=by
 obtain ⟨f,h⟩:=h.plain hi (by rw [hk];intro fs h;cases h)
 obtain ⟨n,h1,h2⟩:=h.int hi hk
 injection h1 with h1
 exact ⟨n,h1,h2⟩
theorem ArgOk.bool (hi:T t=some i) (hk:i.kind=.bool) (h:ArgOk T t a) :∃b,a=.b b:=by
 obtain ⟨f,h⟩:=h.plain hi (by rw [hk];intro fs h;cases h)
 obtain ⟨n,h1⟩:=h.bool hi hk
 injection h1 with h1
 exact ⟨n,h1⟩
theorem ArgOk.str (hi:T t=some i) (hk:i.kind=.str) (h:ArgOk T t a) :∃s,a=.s s∧s.length≤maxLen:=by
 obtain ⟨f,h⟩:=h.plain hi (by rw [hk];intro fs h;cases h)
 obtain ⟨n,h1,h2⟩:=h.str hi hk
 injection h1 with h1
 exact ⟨n,h1,h2⟩
end
theorem i64_bd {n:Int} (h:IntKind.i64.min≤n∧n≤IntKind.i64.max):-9223372036854775808≤n∧n<9223372036854775808:=by
 have h1:IntKind.i64.min = -9223372036854775808:=rfl
 have h2:IntKind.i64.max=9223372036854775807:=rfl
 omega
theorem u8_bd {n:Int} (h:IntKind.u8.min≤n∧n≤IntKind.u8.max):0≤n∧n<256:=by
 have h1:IntKind.u8.min=0:=rfl
 have h2:IntKind.u8.max=255:=rfl
 omega
def FnsOk (P:Program) (X:Cx) (fs:List (Nat × AF)):List (Nat × Nat)→Prop
 | []=>True
 | x::r=>(∀F,fnOf fs x.2=some F→FnOk P X x.1 F)∧FnsOk P X fs r
theorem FnsOk.all {P:Program} {X:Cx} {fs:List (Nat × AF)} :∀{l:List (Nat × Nat)},FnsOk P X fs l→∀x∈l,∀F,fnOf fs x.2=some F→FnOk P X x.1 F
 | [],_,_,hx=>by cases hx
 | y::l,h,x,hx=>by
  rcases List.mem_cons.1 hx with rfl | hx
  ·exact h.1
  ·exact FnsOk.all h.2 x hx
theorem fm_inv {l:List (Nat × Nat)} {f c:Nat} (h:fmOf l f=some c):(f,c)∈l:=by
 unfold fmOf at h
 rw [Option.map_eq_some_iff] at h
 obtain ⟨x,h1,rfl⟩:=h
 have h2:=List.find?_some h1
 have h3:=List.mem_of_find?_eq_some h1
 have:x.1=f:=by simpa using h2
 rw [← this]
 exact h3
def orc48 (k:Nat):Nat→List AV→Option AV:=fun c args=>
 if c=k then match args with
  | [.s s,.i .u8 n]=>if 0≤n∧n<256 then some (.i .i64 (Lib.indexByte s n.toNat.toUInt8)) else none
  | _=>none
 else none
theorem orc48_at (k:Nat) (s:List UInt8) (c:UInt8):orc48 k k [.s s,.i .u8 (c.toNat:Int)]=some (.i .i64 (Lib.indexByte s c)):=by
 have:=c.toNat_lt
 unfold orc48
 rw [if_pos rfl]
 simp only
 rw [if_pos ⟨by omega,by omega⟩]
 simp
theorem orc48_ok {P:Program} {X:Cx} {fs:List (Nat × AF)} {k f0:Nat} {fn:Func} (hf :∀f,X.fm f=some k→f=f0) (h1:P.funcs[f0]?=some fn) (h2:(fn.name== "runtime.NumGoroutine")=false) (h3:fn.body.isNone=true) (h4:Extern.findNext fn=none) (h5:Extern.find fn=some Extern.BytealgIndexByte.indexByte):OracOk P X { fn:=fnOf fs,orac:=orc48 k }:=by
 intro f c hfc _ args r hr G w0 st w vals d _ hR hV
 simp only [orc48] at hr
 split at hr
 case isFalse=>cases hr
 rename_i hc
 subst hc
 have:=hf f hfc
 subst this
 split at hr
 case h_2=>cases hr
 rename_i s n
 split at hr
 case isFalse=>cases hr
 rename_i hn
 cases hr
 have e:n=((n.toNat.toUInt8).toNat:Int):=by
  have:(n.toNat.toUInt8).toNat=n.toNat:=by simp;omega
  omega
 have hV':Rs G [.s s,.i .u8 ((n.toNat.toUInt8).toNat:Int)] vals:=by rw [← e];exact hV
 exact orac_index h1 h2 h3 h4 h5 hR hV'
section
variable {H:Type} {enc:TypeId × Value→H} {P:Program} {W:World}
theorem trod_len {held:Bool} {sp:Nat→Bool} :∀{ts:List TypeId} {vs:List Value} {ds:List (DataW H)} {ps:List MemPlace},DataW.TrodAll enc P W 0 sp held ts vs ds ps→ds.length=ts.length
 | [],vs,ds,ps,h=>by
  obtain ⟨rfl,rfl,rfl⟩:=trodAll_nil h
  rfl
 | t::ts,vs,ds,ps,h=>by
  obtain ⟨v,vs1,d,ds1,p,q,rfl,rfl,rfl,h1,h2⟩:=trodAll_cons h
  simp [trod_len h2]
theorem ds4 {α:Type} {ds:List α} (h:ds.length=4) :∃a b c d,ds=[a,b,c,d]:=by match ds,h with | [a,b,c,d],_=>exact ⟨a,b,c,d,rfl⟩
end
theorem noneF {α:Type} {x:α} {p:Prop} (h:(none:Option α)=some x):p:=by cases h
end Go.AM
