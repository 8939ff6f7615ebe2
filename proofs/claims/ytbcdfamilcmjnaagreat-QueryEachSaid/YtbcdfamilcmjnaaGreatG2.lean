/- Parts of the proof: AmB, R3, S1, S2, B0, D38, V03, V03b, V03c, V38, R4, D38f, R5, Pk, U30a, U30b. -/
import Derived.Test.YtbcdfamilcmjnaaGreatG1
import Derived.Shelf.Strings.Builder1
import Derived.Lib.Builder
import Derived.Lib.Bytealg
set_option linter.all false
/- Parts of the proof. -/
namespace Go.AM
open Go Go.RowKit Go.Proofs Go.Shelf
section
variable {P:Program} {ρ:Ren}
set_option maxHeartbeats 1000000 in
set_option maxRecDepth 100000 in
theorem string_run (L:Lays.n169 P ρ) (X:Builder.Extra P ρ) {b g cap:Nat} {p:Value} {cur:Array Value} {l:List UInt8} {w:World} (hbk:w.heap[b]?=some (.cells #[p,.slice (some ⟨g,0,none⟩) l.length cap] (ρ.t 72) (0,0)))
  (hg:w.heap[g]?=some (.cells cur (ρ.t 5) (0,0))) (h0:l≠[]) (hcs:l.length≤cur.size) (hcap:cap≠0) (h63:l.length≤9223372036854775807)
  (hcell :∀j x,l[j]?=some x→w.cell? ⟨g,j,none⟩=some (.int .u8 x.toNat)) :
  Calls P (ρ.f 169) #[.pointer (some ⟨b,0,none⟩)] w fun e w'=>e=.returned (.string ⟨l.toArray⟩)∧w'=w.drew.freeze ⟨g,0,none⟩ l.length:=by
 have c1:w.drew.cell? ⟨b,1,none⟩=some (.slice (some ⟨g,0,none⟩) l.length cap):=by
  have:w.drew.heap[b]?=some (.cells #[p,.slice (some ⟨g,0,none⟩) l.length cap] (ρ.t 72) (0,0)):=hbk
  rw [Lib.cell_of_heap this];rfl
 have hSD:(Builtin.unsafeSliceData_ #[(ρ.t 37)] (ρ.t 127) #[.slice (some ⟨g,0,none⟩) l.length cap]).run P w.drew=.ok (.pointer (some ⟨g,0,none⟩)) w.drew:=
  Lib.run_unsafeSliceData_row _ _ _ _ _ _ hcap
 have hUS:(Builtin.unsafeString_ #[(ρ.t 127),(ρ.t 3)] (ρ.t 9) #[.pointer (some ⟨g,0,none⟩),.int .i64 l.length]).run P w.drew=.ok (.string ⟨l.toArray⟩) (w.drew.freeze ⟨g,0,none⟩ l.length):=by
  refine Lib.run_unsafeString_row w.drew (ρ.t 127) (ρ.t 3) (ρ.t 9) (ρ.t 5) L.t127 X.cellsByte g cur.size (by have hg':w.drew.heap[g]?=some (.cells cur (ρ.t 5) (0,0)):=hg;simp [World.shape?,hg']) l h0 hcs h63 ?_
  intro j x hx
  rw [Addr.add_lit,Nat.zero_add]
  exact hcell j x hx
 clear hcap hcell hg hbk
 have mixed:=L.mixed
 have t72:=L.t72;have a72:=L.a72;have z72:=L.z72;have v72:=L.v72;have u72:=run_underlying L.t72
 have t70:=L.t70;have a70:=L.a70;have z70:=L.z70;have v70:=L.v70;have u70:=run_underlying L.t70
 have t37:=L.t37;have a37:=L.a37;have z37:=L.z37;have v37:=L.v37;have u37:=run_underlying L.t37
 have t127:=L.t127;have a127:=L.a127;have z127:=L.z127;have v127:=L.v127;have u127:=run_underlying L.t127
 have t3:=L.t3;have a3:=L.a3;have z3:=L.z3;have v3:=L.v3;have u3:=run_underlying L.t3
 have t9:=L.t9;have a9:=L.a9;have z9:=L.z9;have v9:=L.v9;have u9:=run_underlying L.t9
 have t5:=X.t5;have a5:=X.a5;have z5:=X.z5;have v5:=X.v5;have u5:=run_underlying X.t5
 go_enter L.f169,Body.n169_ntmps ρ
 go_wp2
 go_region_o
 all_goals (go_wp2;go_ret;exact ⟨rfl,rfl⟩)
set_option maxHeartbeats 1000000 in
set_option maxRecDepth 100000 in
theorem string_run0 (L:Lays.n169 P ρ) (X:Builder.Extra P ρ) {b:Nat} {p:Value} {w:World} (hbk:w.heap[b]?=some (.cells #[p,.slice none 0 0] (ρ.t 72) (0,0))) :
  Calls P (ρ.f 169) #[.pointer (some ⟨b,0,none⟩)] w fun e w'=>e=.returned (.string .empty)∧w'=w.drew:=by
 have c1:w.drew.cell? ⟨b,1,none⟩=some (.slice none 0 0):=by
  have:w.drew.heap[b]?=some (.cells #[p,.slice none 0 0] (ρ.t 72) (0,0)):=hbk
  rw [Lib.cell_of_heap this];rfl
 have hSD:(Builtin.unsafeSliceData_ #[(ρ.t 37)] (ρ.t 127) #[.slice none 0 0]).run P w.drew=.ok (.pointer none) w.drew:=
  Lib.run_unsafeSliceData_nil _ _ _ _ _
 have hUS:(Builtin.unsafeString_ #[(ρ.t 127),(ρ.t 3)] (ρ.t 9) #[.pointer none,.int .i64 0]).run P w.drew=.ok (.string .empty) w.drew:=Lib.run_unsafeString_none _ _ _ _ _
 clear hbk
 have mixed:=L.mixed
 have t72:=L.t72;have a72:=L.a72;have z72:=L.z72;have v72:=L.v72;have u72:=run_underlying L.t72
 have t70:=L.t70;have a70:=L.a70;have z70:=L.z70;have v70:=L.v70;have u70:=run_underlying L.t70
 have t37:=L.t37;have a37:=L.a37;have z37:=L.z37;have v37:=L.v37;have u37:=run_underlying L.t37
 have t127:=L.t127;have a127:=L.a127;have z127:=L.z127;have v127:=L.v127;have u127:=run_underlying L.t127
 have t3:=L.t3;have a3:=L.a3;have z3:=L.z3;have v3:=L.v3;have u3:=run_underlying L.t3
 have t9:=L.t9;have a9:=L.a9;have z9:=L.z9;have v9:=L.v9;have u9:=run_underlying L.t9
 have t5:=X.t5;have a5:=X.a5;have z5:=X.z5;have v5:=X.v5;have u5:=run_underlying X.t5
 go_enter L.f169,Body.n169_ntmps ρ
 go_wp2
 go_region_o
 all_goals (go_wp2;go_ret;exact ⟨rfl,rfl⟩)
end
theorem cell_freeze (w:World) (a:Addr) (n:Nat) (p:Addr):(w.freeze a n).cell? p=w.cell? p:=by
 unfold World.freeze
 split
 ·rfl
 ·simp only [World.cell?,Array.getElem?_modify]
  by_cases h:a.block=p.block
  ·rw [if_pos h]
   cases w.heap[p.block]? with
   | none=>rfl
   | some o=>cases o<;>rfl
  ·rw [if_neg h]
theorem heap_freeze (w:World) (a:Addr) (n i:Nat) (h:i≠a.block):(w.freeze a n).heap[i]?=w.heap[i]?:=by
 unfold World.freeze
 split
 ·rfl
 ·simp only [Array.getElem?_modify]
  rw [if_neg (fun e=>h e.symm)]
theorem Rel.freezeOwn {G:Gh} {w0 w:World} {st:St} (hR:Rel G w0 st w) {k:Key} {ver n g cap size:Nat} (hk:lk st.ow k=some (ver,n)) (hω:G.ω k ver=some (g,cap,size)) (m:Nat):Rel G w0 { st with ow:=del st.ow k } (w.drew.freeze ⟨g,0,none⟩ m):=by
 obtain ⟨g1,cap1,size1,e1,hown,hbox⟩:=hR.ow k ver n hk
 rw [hω] at e1
 cases e1
 have hge:w0.heap.size≤g:=by obtain ⟨_,_,h,_⟩:=hown;exact h
 have hh :∀i,i≠g→(w.drew.freeze ⟨g,0,none⟩ m).heap[i]?=w.heap[i]?:=fun i hi=>heap_freeze w.drew ⟨g,0,none⟩ m i hi
 have hget :∀k' v,lk (del st.ow k) k'=some v→k'≠k∧lk st.ow k'=some v:=by
  intro k' v h
  rw [lk_del] at h
  split at h
  ·cases h
  ·rename_i hn;exact ⟨hn,h⟩
 have hne :∀k' v' n' g' c s,lk (del st.ow k) k'=some (v',n')→G.ω k' v'=some (g',c,s)→g'≠g:=by
  rintro k' v' n' g' c s h h2 rfl
  obtain ⟨hn,h⟩:=hget _ _ h
  exact hn (hR.owinj k' k v' ver n' n _ _ _ _ _ h hk h2 hω)
 refine ⟨hR.bel.trans (Lib.below_freeze (Below.drew (Below.refl _ w)) (p:=⟨g,0,none⟩) hge m),?_,?_,hR.inj,?_,?_,hR.fresh,?_,?_,fun b l hb=>(hR.mp b l hb).keep fun es clock h=>hh b (fun e=>by obtain ⟨_,_,_,h2,_⟩:=hown;rw [e,h2] at h;cases h)⟩
 ·intro g' o v h
  obtain ⟨h1,h2⟩:=hR.ext g' o v h
  exact ⟨by rw [cell_freeze];exact h1,h2⟩
 ·intro k' v' cs g' h hg'
  obtain ⟨us,e,a1,a2,a3,a4,a5⟩:=hR.bx k' v' cs g' h hg'
  exact ⟨us,e,a1,by rw [hh g' (by rintro rfl;exact hbox k' v' cs h hg')];exact a2,a3,a4,a5⟩
 ·intro k' v' n' h
  obtain ⟨hn,h0⟩:=hget _ _ h
  obtain ⟨g',c,s,b1,⟨cur,e,a1,a2,a3⟩,b3⟩:=hR.ow k' v' n' h0
  exact ⟨g',c,s,b1,⟨cur,e,a1,by rw [hh g' (hne _ _ _ _ _ _ h b1)];exact a2,a3⟩,b3⟩
 ·intro k1 k2 v1 v2 n1 n2 g' c s c' s' h1 h2
  exact hR.owinj k1 k2 v1 v2 n1 n2 g' c s c' s' (hget _ _ h1).2 (hget _ _ h2).2
 ·intro k' v' cs g' hb h hg'
  obtain ⟨us,h1,h1n⟩:=hR.bxT k' v' cs g' hb h hg'
  exact ⟨us,by rw [hh g' (by rintro rfl;exact hbox k' v' cs h hg')];exact h1,h1n⟩
 ·intro k' v' n' hb h g' c s h2
  obtain ⟨us,h1⟩:=hR.owT k' v' n' hb (hget _ _ h).2 g' c s h2
  exact ⟨us,by rw [hh g' (hne _ _ _ _ _ _ h h2)];exact h1⟩
theorem Rel.drewed {G:Gh} {w0 w:World} {st:St} (hR:Rel G w0 st w):Rel G w0 st w.drew:=
 ⟨hR.bel.trans (Below.drew (Below.refl _ w)),hR.ext,hR.bx,hR.inj,hR.ow,hR.owinj,hR.fresh,hR.bxT,hR.owT,hR.mp⟩
def bStr (args:List AV) (st:St):Option (AV × St):=
 match args with
 | [.p k v 0]=>match lk st.bx k with
  | some (v',[_,.sl .full []])=>if v'=v∧bigSite≤k.2 then some (.s [],st) else none
  | some (v',[_,.sl (.id k2 v2) rows])=>
   match bytesOf rows,lk st.ow k2 with
   | some l,some (v3,n)=>if v'=v∧bigSite≤k.2∧v3=v2∧n=rows.length∧0<n∧bigSite≤k2.2∧n≤maxBytes then some (.s l,{ st with ow:=del st.ow k2 }) else none
   | _,_=>none
  | _=>none
 | _=>none
theorem bStr_ok {P:Program} {ρ:Ren} {fm:FM} (L:Lays.n169 P ρ) (X:Builder.Extra P ρ) (hb:ρ.t 72=btOf fm) (he:ρ.t 5=etOf fm) (hc :∀args w,(callFunc (ρ.f 169) args).run P w=.ok (.enter (ρ.f 169) args) w) {args:List AV} {st st':St} {r:AV} (h:bStr args st=some (r,st'))
  {G:Gh} {w0 w:World} {vals:List Value} {d:Nat} (hfm:G.fm=fm) (hR:Rel G w0 st w) (hV:Rs G args vals):Goes P (ρ.f 169) vals.toArray w fun v w'=>∃G',R G' r v∧Run G G' w0 st st' w' d:=by
 subst hfm
 unfold bStr at h
 split at h
 case h_2=>cases h
 rename_i k v
 split at h
 case h_3=>cases h
 ·rename_i v' c0 hlk
  split at h
  case isFalse=>cases h
  rename_i hcond
  obtain ⟨rfl,hbig⟩:=hcond
  cases h
  match vals,hV.1 with
  | [p],_=>
   obtain ⟨g,rfl,hρ⟩:=(hV.2 0 _ p rfl rfl).p_inv
   obtain ⟨us,e,hge,hheap,hr,h1,hnone⟩:=hR.bx k v' _ g hlk hρ
   obtain ⟨us',h3,h3n⟩:=hR.bxT k v' _ g hbig hlk hρ
   rw [hheap] at h3
   injection h3 with h3
   injection h3 with h4 h3
   subst h3
   subst h4
   match us,hr.1 with
   | [u0,u1],_=>
    have e1:u1=.slice none 0 0:=by simpa using h3n rfl
    subst e1
    have hrun:=string_run0 L X (b:=g) (p:=u0) (w:=w) (by rw [hb];exact hheap)
    refine .inl ⟨hc _ _,hrun.mono fun e w' ⟨h5,h6⟩=>?_⟩
    subst h5
    subst h6
    exact ⟨G,.fz _ _ (.s []),⟨.refl G,hR.drewed,Nat.le_refl _,fun _ _ _=>⟨rfl,rfl⟩,fun _ _ _ _ _ _ h=>h,fun _ _ _ h=>.inl h⟩⟩
 rename_i v' c0 k2 v2 rows hlk
 split at h
 case h_2=>cases h
 rename_i l v3 n hl how
 split at h
 case isFalse=>cases h
 rename_i hcond
 obtain ⟨rfl,hbig,rfl,rfl,hpos,hbig2,hmax⟩:=hcond
 cases h
 match vals,hV.1 with
 | [p],_=>
  obtain ⟨g,rfl,hρ⟩:=(hV.2 0 _ p rfl rfl).p_inv
  obtain ⟨us,e,hge,hheap,hr,h1,hnone⟩:=hR.bx k v' _ g hlk hρ
  obtain ⟨us',h3,_⟩:=hR.bxT k v' _ g hbig hlk hρ
  rw [hheap] at h3
  injection h3 with h3
  injection h3 with _ h3
  subst h3
  match us,hr.1 with
  | [u0,u1],_=>
   obtain ⟨A,cap,rfl,hF,hO⟩:=(hr.2 1 _ u1 rfl rfl).sl_inv
   obtain ⟨g2,size,hω,rfl,hrow⟩:=hO
   have hrows:=bytesOf_inv hl
   subst hrows
   have hl0:l≠[]:=by rintro rfl;simp at hpos
   obtain ⟨g3,cap3,size3,e1,⟨cur,e2,hge2,hheap2,hcur,hncap,hsz,_⟩,_⟩:=hR.ow k2 v3 _ how
   rw [hω] at e1
   cases e1
   obtain ⟨us2,h4⟩:=hR.owT k2 v3 _ hbig2 how g2 cap size hω
   rw [hheap2] at h4
   injection h4 with h4
   injection h4 with _ h4
   subst h4
   have hcell :∀j x,l[j]?=some x→w.cell? ⟨g2,j,none⟩=some (.int .u8 x.toNat):=by
    intro j x hx
    cases hF with
    | sl _ A cap size' g' off us hA hcap hsz' hH hFz=>
    have hAe:=hA (by simpa using hl0)
    injection hAe with hAe
    injection hAe with e3 e4
    subst e3;subst e4
    have hsize:size'=1:=by
     cases l with
     | nil=>exact absurd rfl hl0
     | cons c l=>rw [← hsz' 0 (row8 c) rfl];rfl
    subst hsize
    have hrow':(l.map row8)[j]?=some (row8 x):=by simp only [List.getElem?_map,hx,Option.map_some]
    have q1:=hH j (row8 x) 0 _ hrow' rfl
    have q2:=hFz j (row8 x) 0 _ hrow' rfl
    have q3:=(hR.ext _ _ _ q1).1
    generalize us j 0=v0 at q2 q3
    cases q2
    simpa using q3
   have hsize:size=1:=by
    cases l with
    | nil=>exact absurd rfl hl0
    | cons c l=>rw [← (hrow 0 (row8 c) rfl).1];rfl
   subst hsize
   simp only [List.length_map,maxBytes] at hncap hpos hheap how hmax ⊢
   have hrun:=string_run L X (b:=g) (g:=g2) (cap:=cap) (p:=u0) (cur:=cur) (l:=l) (w:=w) (by rw [hb];exact hheap) (by rw [he];exact hheap2) hl0 (by omega) (by omega) ?_ hcell
   ·refine .inl ⟨hc _ _,hrun.mono fun e w' ⟨h5,h6⟩=>?_⟩
    subst h5
    subst h6
    exact ⟨G,.fz _ _ (.s _),⟨.refl G,hR.freezeOwn how hω _,Nat.le_refl _,fun _ _ _=>⟨rfl,rfl⟩,fun _ _ _ _ _ _ h=>h,fun _ _ _ h=>.inl h⟩⟩
   ·omega
end Go.AM

/- Parts of the proof. -/
namespace Go.AM
open Go Go.RowKit Go.Shelf Go.Proofs
theorem TK.ok_other {P:Program} {t:TypeId} (h:(match P.underlying t with | none=>false | some (.struct _)=>false | some (.array _ _)=>false | some _=>true)=true):TK.ok P t .other:=by
 show∃d,P.underlying t=some d∧(match d with | .struct _ | .array _ _=>False | _=>True)
 split at h
 ·cases h
 ·cases h
 ·cases h
 ·rename_i d h1 h2 h3
  refine ⟨d,h3,?_⟩
  split
  ·exact absurd rfl (h1 _)
  ·exact absurd rfl (h2 _ _)
  ·trivial
def orcB:Nat→List AV→Option AV:=fun c args=>
 if c=146 then (match args with | [x]=>some x | _=>none) else orc48 48 c args
def orsB:Nat→List AV→St→Option (AV × St):=fun c args st=>if c=105 then bStr args st else none
theorem orcB_48 (s:List UInt8) (c:UInt8):orcB 48 [.s s,.i .u8 (c.toNat:Int)]=some (.i .i64 (Lib.indexByte s c)):=by
 unfold orcB
 rw [if_neg (by decide)]
 exact orc48_at 48 s c
theorem orcB_105 (args:List AV):orcB 105 args=none:=by
 unfold orcB orc48
 rw [if_neg (by decide),if_neg (by decide)]
theorem orsB_105 (args:List AV) (st:St):orsB 105 args st=bStr args st:=rfl
section
variable {P:Program} {X:Cx}
theorem orcB_ok {fs:List (Nat × AF)} (h48:OracOk P X { fn:=fnOf fs,orac:=orc48 48 }) {f0:Nat} {fn:Func} (hf :∀f,X.fm f=some 146→f=f0) (h1:P.funcs[f0]?=some fn) (h2:(fn.name== "runtime.NumGoroutine")=false) (h3:fn.body.isNone=true) (h4:Extern.findNext fn=none) (h5:Extern.find fn=some Extern.AbiNoEscape.same):OracOk P X ⟨fnOf fs,orcB,orsB⟩:=by
 intro f c hfc hfn args r hr G w0 st w vals d hG hR hV
 simp only [orcB] at hr
 split at hr
 ·rename_i hc
  subst hc
  have:=hf f hfc
  subst this
  split at hr
  case h_2=>cases hr
  rename_i x
  cases hr
  have hlen:=hV.1
  match vals,hlen with
  | [v1],_=>
   refine .inr ⟨v1,w,?_,G,hV.2 0 _ v1 rfl rfl,.refl hR⟩
   rw [run_callFunc_extern h1 h2 h3 h4 h5]
   have:=Lib.run_noEscape (P:=P) w v1
   rw [this]
   simp [Result.andThen]
 ·exact h48 f c hfc hfn args r hr G w0 st w vals d hG hR hV
theorem orsB_ok {fs:List (Nat × AF)} {ρ:Ren} (L:Lays.n169 P ρ) (E:Builder.Extra P ρ) (hf :∀f,X.fm f=some 105→f=ρ.f 169) (hb:X.fm 1000000000000=some (ρ.t 72+1000000000)) (he:X.fm 1000000000001=some (ρ.t 5+1000000000)) {fn:Func} {code:Code} (h1:P.funcs[ρ.f 169]?=some fn) (h2:(fn.name== "runtime.NumGoroutine")=false) (h3:fn.body=some code):OracSOk P X ⟨fnOf fs,orcB,orsB⟩:=by
 intro f c hfc _ args st r st' hr G w0 w vals d hG hR hV
 simp only [orsB] at hr
 split at hr
 case isFalse=>cases hr
 rename_i hc
 subst hc
 have:=hf f hfc
 subst this
 have e1:btOf X.fm=ρ.t 72:=by unfold btOf;rw [hb];simp
 have e2:etOf X.fm=ρ.t 5:=by unfold etOf;rw [he];simp
 exact bStr_ok L E e1.symm e2.symm (fun args w=>callFunc_enter h1 h2 h3 args) hr hG hR hV
end
end Go.AM

/- Parts of the proof. -/
namespace Go.AM
open Go
abbrev Bxs:=List (Key × Nat × List AV)
abbrev Ows:=List (Key × Nat × Nat)
def Fr (d:Nat) (k:Key) (bx:Bxs) (ow:Ows) (bx':Bxs) (ow':Ows):Prop:=
 (∀k':Key,k'.1<d→k'≠k→lk bx' k'=lk bx k')∧(∀k':Key,k'.1<d→k'.2<midSite→lk ow' k'=lk ow k')
theorem lk_filter' {α:Type} (l:List (Key × α)) (p:Key→Bool) (k:Key):lk (l.filter fun x=>p x.1) k=if p k then lk l k else none:=by
 induction l with
 | nil=>simp [lk]
 | cons x r ih=>
  obtain ⟨k1,b⟩:=x
  simp only [List.filter_cons]
  by_cases h:k1=k
  ·subst h
   cases hp:p k1 with
   | true=>simp [lk]
   | false=>simp [ih,hp]
  ·split
   ·simp only [lk,if_neg h,ih]
   ·simp only [ih,lk,if_neg h]
section
variable {d:Nat} {k:Key} {bx bx' bx2:Bxs} {ow ow' ow2:Ows}
theorem Fr.refl:Fr d k bx ow bx ow:=⟨fun _ _ _=>rfl,fun _ _ _=>rfl⟩
theorem lk_ne {α:Type} {l:List (Key × α)} {k k':Key} {a:α} (h:k≠k'):lk (st_ l k a) k'=lk l k':=by rw [lk_st',if_neg h]
theorem Fr.box {s:Nat} {a:Nat × List AV} (h:Fr d k bx ow bx' ow'):Fr d k bx ow (st_ bx' (d,s) a) ow':=
 ⟨fun k' h1 h2=>by rw [lk_ne (by rintro rfl;exact Nat.lt_irrefl _ h1)];exact h.1 k' h1 h2,h.2⟩
theorem Fr.own {a:Nat × List AV} (h:Fr d k bx ow bx' ow'):Fr d k bx ow (st_ bx' k a) ow':=
 ⟨fun k' h1 h2=>by rw [lk_ne (fun e=>h2 e.symm)];exact h.1 k' h1 h2,h.2⟩
theorem Fr.del {s:Nat} (h:Fr d k bx ow bx' ow'):Fr d k bx ow (Go.AM.del bx' (d,s)) ow':=
 ⟨fun k' h1 h2=>by rw [lk_del',if_neg (by rintro rfl;exact Nat.lt_irrefl _ h1)];exact h.1 k' h1 h2,h.2⟩
theorem Fr.pass (h:Fr d k bx ow bx' ow') (c:Fr (d+1) k bx' ow' bx2 ow2):Fr d k bx ow bx2 ow2:=
 ⟨fun k' h1 h2=>(c.1 k' (Nat.lt_succ_of_lt h1) h2).trans (h.1 k' h1 h2),fun k' h1 h2=>(c.2 k' (Nat.lt_succ_of_lt h1) h2).trans (h.2 k' h1 h2)⟩
theorem Fr.trans (h:Fr d k bx ow bx' ow') (c:Fr d k bx' ow' bx2 ow2):Fr d k bx ow bx2 ow2:=
 ⟨fun k' h1 h2=>(c.1 k' h1 h2).trans (h.1 k' h1 h2),fun k' h1 h2=>(c.2 k' h1 h2).trans (h.2 k' h1 h2)⟩
theorem Fr.out (h:Fr d k bx ow bx' ow'):Fr d k bx ow (bx'.filter fun x=>x.1.1<d) ow':=
 ⟨fun k' h1 h2=>by
  have:=lk_filter' bx' (fun k=>decide (k.1<d)) k'
  rw [this,if_pos (by simpa using h1)]
  exact h.1 k' h1 h2,h.2⟩
def Mine (d:Nat):Own→Prop
 | .id k _=>k.1=d∧k.2<midSite
 | _=>True
def ApM (d:Nat) (ow:Ows) (o:Own) (n:Nat):Prop:=App ow o n∧Mine d o
theorem ApM.mk {o:Own} {n:Nat} (h:App ow o n) (m:Mine d o):ApM d ow o n:=⟨h,m⟩
theorem ApM.full {n:Nat}:ApM d ow .full n:=⟨trivial,trivial⟩
theorem Mine.app {o o':Own} {site:Nat} (h:Mine d o) (hs:Nat.blt site midSite=true) (he:ownKey o'=ownKey o∨ownKey o'=some (d,site)):Mine d o':=by
 have hs:site<midSite:=Nat.le_of_ble_eq_true hs
 cases o' with
 | ext=>trivial
 | full=>trivial
 | id k v=>
  rcases he with he | he
  ·cases o with
   | ext=>cases he
   | full=>cases he
   | id k' v'=>injection he with he;subst he;exact h
  ·injection he with he;subst he;exact ⟨rfl,hs⟩
theorem Fr.app {o:Own} {site:Nat} (h:Fr d k bx ow bx' ow') (hm:Mine d o) (hw :∀k',some k'≠ownKey o→k'≠(d,site)→lk ow2 k'=lk ow' k'):Fr d k bx ow bx' ow2:=by
 refine ⟨h.1,fun k' h1 h2=>(hw k' ?_ ?_).trans (h.2 k' h1 h2)⟩
 ·intro e
  cases o with
  | ext=>cases e
  | full=>cases e
  | id q v=>injection e with e;subst e;exact absurd hm.1 (Nat.ne_of_lt h1)
 ·rintro rfl;exact Nat.lt_irrefl _ h1
end
abbrev BC:=Bxs→Ows→Key→Nat→Prop
def Bx (cs:List AV):BC:=fun bx _ k v=>lk bx k=some (v,cs)
def AppB (ow:Ows) (o:Own) (n:Nat):Prop:=
 match o with
 | .ext=>False
 | .full=>n=0
 | .id k v=>lk ow k=some (v,n)∧0<n∧bigSite≤k.2
def Bl (b:List UInt8):BC:=fun bx ow k v=>∃c0 o,lk bx k=some (v,[c0,.sl o (b.map row8)])∧(c0=.np∨c0=.p k v 0)∧AppB ow o b.length∧bigSite≤k.2
section
variable {d s s':Nat} {k q:Key} {bx:Bxs} {ow ow':Ows} {v:Nat} {b:List UInt8}
theorem key_LL (h:Nat.beq s s'=false):((d,s):Key)≠(d,s'):=by
 intro e
 injection e with _ e
 rw [e,Nat.beq_refl] at h
 cases h
theorem key_PL (h:k.1<d):k≠(d,s):=by rintro rfl;exact Nat.lt_irrefl _ h
theorem key_LP (h:k.1<d):((d,s):Key)≠k:=fun e=>key_PL h e.symm
theorem Bl.other {a:Nat × List AV} (hn:q≠k) (h:Bl b bx ow k v):Bl b (st_ bx q a) ow k v:=by
 obtain ⟨c0,o,h1,h2⟩:=h
 exact ⟨c0,o,by rw [lk_ne hn];exact h1,h2⟩
theorem Bl.app {o:Own} {site:Nat} (h:Bl b bx ow k v) (hm:Mine d o) (hs:Nat.blt site midSite=true) (hw :∀k',some k'≠ownKey o→k'≠(d,site)→lk ow' k'=lk ow k'):Bl b bx ow' k v:=by
 obtain ⟨c0,o2,h1,h2,h3,h4⟩:=h
 have hs:site<midSite:=Nat.le_of_ble_eq_true hs
 refine ⟨c0,o2,h1,h2,?_,h4⟩
 cases o2 with
 | ext=>exact h3
 | full=>exact h3
 | id q w=>
  refine ⟨(hw q ?_ ?_).trans h3.1,h3.2⟩
  ·intro e
   cases o with
   | ext=>cases e
   | full=>cases e
   | id q' w'=>injection e with e;subst e;exact absurd hm.2 (Nat.not_lt.2 (Nat.le_trans (by decide) h3.2.2))
  ·rintro rfl;exact absurd hs (Nat.not_lt.2 (Nat.le_trans (by decide) h3.2.2))
end
def PuX (prog:Prog) (f:Nat) (B:BC) (args:List AV) (RR:AV→Prop) (B':BC):Prop:=
 ∀d (st:St) (k:Key) (v:Nat),k.1<d→B st.bx st.ow k v→∃r st',Fn prog d f (.p k v 0::args) st r st'∧RR r∧B' st'.bx st'.ow k v∧Fr d k st.bx st.ow st'.bx st'.ow
def PuXK {β:Type} (prog:Prog) (f:Nat) (B:BC) (args:List AV) (KK:AV→β→Prop) (B':β→BC):Prop:=
 ∀d (st:St) (k:Key) (v:Nat),k.1<d→B st.bx st.ow k v→∃r st' b,Fn prog d f (.p k v 0::args) st r st'∧KK r b∧B' b st'.bx st'.ow k v∧Fr d k st.bx st.ow st'.bx st'.ow
theorem PuXK.to {β:Type} {prog:Prog} {f:Nat} {B:BC} {args:List AV} {KK:AV→β→Prop} {B':β→BC} {RR:AV→Prop} {b:β} (h:PuXK prog f B args KK B') (hk :∀r b',KK r b'→RR r∧b'=b):PuX prog f B args RR (B' b):=by
 intro d st k v h1 h2
 obtain ⟨r,st',b',h3,h4,h5,h6⟩:=h d st k v h1 h2
 obtain ⟨h7,rfl⟩:=hk r b' h4
 exact ⟨r,st',h3,h7,h5,h6⟩
section
variable {prog:Prog} {d id base i:Nat} {σ:Sl} {st:St} {K:Sl→St→Prop} {r:List AI} {t:Option Nat} {x y:Opd}
theorem s_callX {f:Nat} {args:List Opd} {vs:List AV} {B B':BC} {F:AV} {k:Key} {v:Nat} (hs:evs σ args=.p k v 0::vs) (hp:PuX prog f B vs (fun r=>r=F) B') (hk:k.1<d+1) (hB:B st.bx st.ow k v)
  (h :∀st':St,B' st'.bx st'.ow k v→Fr (d+1) k st.bx st.ow st'.bx st'.ow→WO prog d id base (i+1) r (upO σ t F) st' K):WO prog d id base i (⟨t,.call true f args,none⟩::r) σ st K:=by
 refine s_one ?_
 obtain ⟨r',st',h1,rfl,h3,h4⟩:=hp (d+1) st k v hk hB
 rw [WOp_callp,hs]
 exact ⟨_,_,h1,h st' h3 h4⟩
end
theorem ares_cell {σ:Sl} {st:St} {t n v:Nat} {agg:Bool} {k:Key} {cs:List AV} {r:AV} (h:σ t=.p k v 0) (hb:lk st.bx k=some (v,cs)) (hn:cs.length=n) (hr:ofCells agg cs=some r):ares1 σ st (.cell t n agg)=some r:=by
 subst hn
 simp only [ares1,h,aload,hb]
 rw [if_pos ⟨trivial,by omega⟩,List.drop_zero,List.take_length,hr]
theorem ares_cellA {σ:Sl} {st:St} {t n v:Nat} {k:Key} {cs:List AV} (h:σ t=.p k v 0) (hb:lk st.bx k=some (v,cs)) (hn:cs.length=n):ares1 σ st (.cell t n true)=some (.ag cs):=ares_cell h hb hn rfl
theorem ares_tmp {σ:Sl} {st:St} {t:Nat}:ares1 σ st (.tmp t)=some (σ t):=rfl
end Go.AM

/- Parts of the proof. -/
namespace Go.AM
open Go
abbrev oM (d s:Nat):AI:=⟨some d,.mv (.t s),none⟩
abbrev oC (d:Nat) (v:AV):AI:=⟨some d,.mv (.c v),none⟩
abbrev oL (d s:Nat):AI:=⟨some d,.load 1 false (.t s),none⟩
abbrev oF (d o s:Nat):AI:=⟨some d,.fad o (.t s),none⟩
abbrev oN (d s:Nat):AI:=⟨some d,.nilc (.t s),none⟩
abbrev oS (n a b:Nat):AI:=⟨none,.store n (.t a) (.t b),none⟩
abbrev oE (d k s:Nat):AI:=⟨some d,.ext k (.t s),none⟩
abbrev oB (d:Nat) (op:BinOp) (x y:Opd):AI:=⟨some d,.bin op x y,none⟩
abbrev oO (d:Nat) (op:AOp):AI:=⟨some d,op,none⟩
abbrev oG (d:Nat) (op:AOp) (g:Nat) (w:Bool):AI:=⟨some d,op,some (g,w)⟩
section
variable {prog:Prog} {d id base i:Nat} {σ:Sl} {st:St} {K:Sl→St→Prop} {r:List AI} {t:Option Nat} {x y:Opd} {Q:AE→Sl→St→Prop}
theorem m_ (h:WO prog d id base (i+1) r (upO σ t (x.ev σ)) st K):WO prog d id base i (⟨t,.mv x,none⟩::r) σ st K:=s_mv rfl h
theorem q_ {ops:List AI} {b:AC} (hn:noAlloc ops=true) (h :∀{nx:Nat} {_:st.nx≤nx},WO prog d id st.nx 0 ops σ ⟨nx,st.bx,st.ow⟩ (fun σ st=>W prog d b σ st Q)):W prog d (.seq (.reg id ops) b) σ st Q:=W.seq (W.reg0 hn fun _ hx=>@h _ hx)
end
end Go.AM
namespace Go.AM
open Go
abbrev e_:=@s_nil
abbrev b_:=@s_bin
abbrev x_:=@s_ext
abbrev l_:=@s_loadP
abbrev f_:=@s_fadP
abbrev gn_:=@s_gn
abbrev gy_:=@s_gy
abbrev gt_:=@s_gt
abbrev pt_:=@s_pickTB
abbrev pf_:=@s_pickFB
abbrev cs_:=@c_split
abbrev cb_:=@c_bool
abbrev ct_:=@c_tt
abbrev cf_:=@c_ff
abbrev sk_:=@W.skip
abbrev rt_:=@W.ret
abbrev bk_:=@W.block
abbrev ex_:=@W.exit
abbrev sq_:=@W.seq
abbrev ca_:=@s_call
abbrev so_:=@s_storeP
abbrev ia_:=@s_iaL
abbrev lf_:=@s_loadF
abbrev ff_:=@s_fadF
abbrev eb_:=@s_emb
abbrev em_:=@s_em
abbrev nt_:=@s_not
abbrev np_:=@s_notp
abbrev ll_:=@s_lenL
abbrev ln_:=@s_lenS
abbrev cX_:=@s_callX
theorem lss_ {k:IntKind} {a b:Int}:abin .lss (.i k a) (.i k b)=some (.b (decide (a<b))):=abin_lss _ _ _
theorem leq_ {k:IntKind} {a b:Int}:abin .leq (.i k a) (.i k b)=some (.b (decide (a≤b))):=abin_leq _ _ _
theorem gtr_ {k:IntKind} {a b:Int}:abin .gtr (.i k a) (.i k b)=some (.b (decide (a>b))):=abin_gtr _ _ _
theorem geq_ {k:IntKind} {a b:Int}:abin .geq (.i k a) (.i k b)=some (.b (decide (a≥b))):=abin_geq _ _ _
theorem eql_ {k:IntKind} {a b:Int}:abin .eql (.i k a) (.i k b)=some (.b (decide (a=b))):=abin_eql _ _ _
theorem neq_ {k:IntKind} {a b:Int}:abin .neq (.i k a) (.i k b)=some (.b (decide (a≠b))):=abin_neq _ _ _
theorem add_ {k:IntKind} {a b:Int}:abin .add (.i k a) (.i k b)=some (.i k (k.wrap (a+b))):=abin_add _ _ _
theorem sub_ {k:IntKind} {a b:Int}:abin .sub (.i k a) (.i k b)=some (.i k (k.wrap (a-b))):=abin_sub _ _ _
theorem seq_ {a b:List UInt8}:abin .eql (.s a) (.s b)=some (.b (decide (a=b))):=abin_seq _ _
theorem sne_ {a b:List UInt8}:abin .neq (.s a) (.s b)=some (.b (decide (a≠b))):=abin_sne _ _
end Go.AM
namespace Go.AM
open Go
def PuN (prog:Prog) (f:Nat) (args:List AV) (RR:AV→Prop):Prop:=
 ∀d (st:St),∃r st',Fn prog d f args st r st'∧RR r∧Fr d (d,0) st.bx st.ow st'.bx st'.ow
theorem PuN.to {prog:Prog} {f:Nat} {args:List AV} {R1 R2:AV→Prop} (h:PuN prog f args R1) (hk :∀r,R1 r→R2 r):PuN prog f args R2:=by
 intro d st
 obtain ⟨r,st',h1,h2,h3⟩:=h d st
 exact ⟨r,st',h1,hk r h2,h3⟩
theorem key_dn {d s:Nat}:((d,s):Key)≠(d+1,0):=by
 intro e
 injection e with e _
 omega
theorem key_dP {d:Nat} {k:Key} (h:k.1<d):k≠(d+1,0):=by
 rintro rfl
 simp at h
 omega
theorem Fr.raw {d:Nat} {k:Key} {bx bx' bx2:Bxs} {ow ow' ow2:Ows} (h:Fr d k bx ow bx' ow') (c:Fr (d+1) (d+1,0) bx' ow' bx2 ow2):Fr d k bx ow bx2 ow2:=
 ⟨fun k' h1 h2=>(c.1 k' (Nat.lt_succ_of_lt h1) (key_dP h1)).trans (h.1 k' h1 h2),fun k' h1 h2=>(c.2 k' (Nat.lt_succ_of_lt h1) h2).trans (h.2 k' h1 h2)⟩
theorem PuN.of {prog:Prog} {f:Nat} {F:AF} {args:List AV} {RR:AV→Prop} (hf:prog.fn f=some F) (hn:Nat.ble args.length F.nt=true)
  (h :∀(d:Nat) (st:St),W prog d F.body (sl0 args) st fun e σ st'=>(e=.normal∨e=.ret)∧∃r,ares σ st' F.res=some r∧RR r∧Fr d (d,0) st.bx st.ow st'.bx st'.ow):PuN prog f args RR:=by
 intro d st
 obtain ⟨r,st',h1,h2⟩:=Fn.of' (prog:=prog) (K:=fun r st'=>RR r∧Fr d (d,0) st.bx st.ow st'.bx st'.ow) hf (Nat.le_of_ble_eq_true hn) ((h d st).mono fun e σ st' hq=>by
  obtain ⟨he,r,h1,h2,h3⟩:=hq
  rcases he with rfl | rfl
  ·exact ⟨r,h1,h2,h3.out⟩
  ·exact ⟨r,h1,h2,h3.out⟩)
 exact ⟨r,st',h1,h2⟩
section
variable {prog:Prog} {d id base i:Nat} {σ:Sl} {st:St} {K:Sl→St→Prop} {r:List AI} {t:Option Nat} {x y:Opd}
theorem s_callN {f:Nat} {args:List Opd} {vs:List AV} {F:AV} (hs:evs σ args=vs) (hp:PuN prog f vs (fun r=>r=F))
  (h :∀st':St,Fr (d+1) (d+1,0) st.bx st.ow st'.bx st'.ow→WO prog d id base (i+1) r (upO σ t F) st' K):WO prog d id base i (⟨t,.call true f args,none⟩::r) σ st K:=by
 refine s_one ?_
 obtain ⟨r',st',h1,rfl,h3⟩:=hp (d+1) st
 rw [WOp_callp,hs]
 exact ⟨_,_,h1,h st' h3⟩
theorem s_callV {f:Nat} {c:List AV} {args:List Opd} {vs:List AV} {F:AV} (hx:x.ev σ=.fn f c) (hs:evs σ args=vs) (hp:PuN prog f (vs++c) (fun r=>r=F))
  (h :∀st':St,Fr (d+1) (d+1,0) st.bx st.ow st'.bx st'.ow→WO prog d id base (i+1) r (upO σ t F) st' K):WO prog d id base i (⟨t,.callv x args,none⟩::r) σ st K:=by
 refine s_one ?_
 obtain ⟨r',st',h1,rfl,h3⟩:=hp (d+1) st
 show onCv (x.ev σ) (evs σ args) (fun g l=>WF prog (d+1) g l st _)
 rw [hx,hs]
 exact ⟨_,_,h1,h st' h3⟩
theorem s_mkbf {f:Nat} {args:List Opd} {vs:List AV} (hs:evs σ args=vs) (h:WO prog d id base (i+1) r (upO σ t (.bf f vs)) st K):WO prog d id base i (⟨t,.mkbf f args,none⟩::r) σ st K:=
 s_pure (fun K=>by
  have e:args.map (·.ev σ)=vs:=by rw [← hs];exact evs_map.symm
  simp only [WOp,aexec,apure,e,Option.map_some,onO_some]) h
theorem s_mkfn {f:Nat} {args:List Opd} {vs:List AV} (hs:evs σ args=vs) (h:WO prog d id base (i+1) r (upO σ t (.fn f vs)) st K):WO prog d id base i (⟨t,.mkfn f args,none⟩::r) σ st K:=
 s_pure (fun K=>by
  have e:args.map (·.ev σ)=vs:=by rw [← hs];exact evs_map.symm
  simp only [WOp,aexec,apure,e,Option.map_some,onO_some]) h
end
end Go.AM
namespace Go.AM
open Go
theorem strips_map {α:Type} (f:α→AV) (hf :∀a,(f a).strip=some (f a)) :∀l:List α,AV.strips (l.map f)=some (l.map f)
 | []=>rfl
 | a::l=>by simp only [List.map_cons,AV.strips,hf a,strips_map f hf l]
theorem strip_ag {α:Type} (f:α→AV) (hf :∀a,(f a).strip=some (f a)) (l:List α):(AV.ag (l.map f)).strip=some (.ag (l.map f)):=by
 simp only [AV.strip,strips_map f hf l]
end Go.AM
namespace Go.AM
open Go
theorem setAt_eq :∀(new cs:List AV) (off:Nat),off+new.length≤cs.length→setAt cs off new=cs.take off++(new++cs.drop (off+new.length))
 | [],cs,off,h=>by simp [setAt]
 | v::r,cs,off,h=>by
  simp only [List.length_cons] at h
  rw [setAt,setAt_eq r (cs.set off v) (off+1) (by simp;omega)]
  have h1:(cs.set off v).take (off+1)=cs.take off++[v]:=by
   rw [List.take_set,List.take_succ_eq_append_getElem (by omega),List.set_append_right _ _ (by simp;omega)]
   congr 1
   simp [List.length_take,Nat.min_eq_left (show off≤cs.length by omega)]
  have h2:(cs.set off v).drop (off+1+r.length)=cs.drop (off+(r.length+1)):=by
   rw [List.drop_set_of_lt (by omega)]
   congr 1
   omega
  rw [h1,h2]
  simp
section
variable {prog:Prog} {d id base i:Nat} {σ:Sl} {st:St} {K:Sl→St→Prop} {r:List AI} {t:Option Nat} {x y:Opd}
theorem s_storeArr {α:Type} {f:α→AV} {l l':List α} {n v:Nat} {k:Key} (hf :∀a,(f a).one=true) (hx:x.ev σ=.p k v 0) (hb:lk st.bx k=some (v,l.map f)) (hl:l.length=n) (hy:y.ev σ=.ag (l'.map f)) (hl':l'.length=n)
  (h:WO prog d id base (i+1) r (upO σ t (.tup [])) { st with bx:=st_ st.bx k (v,l'.map f) } K) (hok:okSt k (.ag (l'.map f))=true:=by first | rfl | exact okSt_r rfl):WO prog d id base i (⟨t,.store n x y,none⟩::r) σ st K:=by
 have e:setAt (l.map f) 0 (l'.map f)=l'.map f:=by
  rw [setAt_eq _ _ _ (by simp;omega)]
  simp [hl,hl']
 refine s_storeP hx hb hy ?_ e h hok
 simp [AV.cells,hl,hl',hf]
end
end Go.AM

/- Parts of the proof. -/
namespace Go.AM
open Go
def Out (B:BC):Prop:=∀(d:Nat) (bx:Bxs) (ow:Ows) (k:Key) (v:Nat),k.1<d→B bx ow k v→B (bx.filter fun x=>x.1.1<d) ow k v
theorem lk_out {bx:Bxs} {d:Nat} {k:Key} (hk:k.1<d):lk (bx.filter fun x=>x.1.1<d) k=lk bx k:=by
 have:=lk_filter' bx (fun k=>decide (k.1<d)) k
 rw [this,if_pos (by simpa using hk)]
theorem Bx.out {cs:List AV}:Out (Bx cs):=fun d bx ow k v hk h=>by
 show lk _ k=_
 rw [lk_out hk]
 exact h
theorem Bl.out {b:List UInt8}:Out (Bl b):=fun d bx ow k v hk ⟨c0,o,h1,h2⟩=>⟨c0,o,by rw [lk_out hk];exact h1,h2⟩
theorem PuX.of {prog:Prog} {f:Nat} {F:AF} {B B':BC} {args:List AV} {RR:AV→Prop} (hf:prog.fn f=some F) (hn:Nat.ble (args.length+1) F.nt=true) (ho:Out B')
  (h :∀(d:Nat) (st:St) (k:Key) (v:Nat),k.1<d→B st.bx st.ow k v→W prog d F.body (sl0 (.p k v 0::args)) st fun e σ st'=>(e=.normal∨e=.ret)∧∃r,ares σ st' F.res=some r∧RR r∧B' st'.bx st'.ow k v∧Fr d k st.bx st.ow st'.bx st'.ow):PuX prog f B args RR B':=by
 intro d st k v hk hB
 obtain ⟨r,st',h1,h2⟩:=Fn.of' (prog:=prog) (K:=fun r st'=>RR r∧B' st'.bx st'.ow k v∧Fr d k st.bx st.ow st'.bx st'.ow) hf (by simpa using Nat.le_of_ble_eq_true hn) ((h d st k v hk hB).mono fun e σ st' hq=>by
  obtain ⟨he,r,h1,h2,h3,h4⟩:=hq
  rcases he with rfl | rfl
  ·exact ⟨r,h1,h2,ho d _ _ k v hk h3,h4.out⟩
  ·exact ⟨r,h1,h2,ho d _ _ k v hk h3,h4.out⟩)
 exact ⟨r,st',h1,h2⟩
theorem PuXK.of {β:Type} {prog:Prog} {f:Nat} {F:AF} {B:BC} {B':β→BC} {args:List AV} {KK:AV→β→Prop} (hf:prog.fn f=some F) (hn:Nat.ble (args.length+1) F.nt=true) (ho :∀b,Out (B' b))
  (h :∀(d:Nat) (st:St) (k:Key) (v:Nat),k.1<d→B st.bx st.ow k v→W prog d F.body (sl0 (.p k v 0::args)) st fun e σ st'=>(e=.normal∨e=.ret)∧∃r b,ares σ st' F.res=some r∧KK r b∧B' b st'.bx st'.ow k v∧Fr d k st.bx st.ow st'.bx st'.ow):PuXK prog f B args KK B':=by
 intro d st k v hk hB
 obtain ⟨r,st',h1,b,h2,h3,h4⟩:=Fn.of' (prog:=prog) (K:=fun r st'=>∃b,KK r b∧B' b st'.bx st'.ow k v∧Fr d k st.bx st.ow st'.bx st'.ow) hf (by simpa using Nat.le_of_ble_eq_true hn) ((h d st k v hk hB).mono fun e σ st' hq=>by
  obtain ⟨he,r,b,h1,h2,h3,h4⟩:=hq
  rcases he with rfl | rfl
  ·exact ⟨r,h1,b,h2,ho b d _ _ k v hk h3,h4.out⟩
  ·exact ⟨r,h1,b,h2,ho b d _ _ k v hk h3,h4.out⟩)
 exact ⟨r,st',b,h1,h2,h3,h4⟩
section
variable {prog:Prog} {d id base i:Nat} {σ:Sl} {st:St} {K:Sl→St→Prop} {r:List AI} {t:Option Nat} {x y:Opd}
theorem s_peq {neg:Bool} {a b v:AV} (hx:x.ev σ=a) (hy:y.ev σ=b) (hv:apeq neg a b=some v) (h:WO prog d id base (i+1) r (upO σ t v) st K):WO prog d id base i (⟨t,.peq neg x y,none⟩::r) σ st K:=
 s_pure (fun K=>by simp only [WOp,aexec,apure,hx,hy,hv,Option.map_some,onO_some]) h
theorem s_cvp {n v:Nat} {k:Key} {cs:List AV} (hx:x.ev σ=.p k v 0) (hb:lk st.bx k=some (v,cs)) (hk:bigSite≤k.2) (hn:cs.length=n) (h:WO prog d id base (i+1) r (upO σ t (.p k v 0)) st K):WO prog d id base i (⟨t,.cvp n x,none⟩::r) σ st K:=
 s_pure (fun K=>by
  simp only [WOp,aexec,acvp,hx,hb]
  rw [if_pos ⟨trivial,hk,hn⟩]
  simp only [Option.map_some,onO_some]) h
theorem s_callO {f:Nat} {args:List Opd} {vs:List AV} {v:AV} (hf:prog.fn f=none) (hs:evs σ args=vs) (ho:prog.orac f vs=some v) (h:WO prog d id base (i+1) r (upO σ t v) st K):WO prog d id base i (⟨t,.call true f args,none⟩::r) σ st K:=by
 refine s_one ?_
 rw [WOp_callp,hs]
 exact ⟨_,_,⟨1,by simp only [acall,hf,ho]⟩,h⟩
end
theorem W.regB {prog:Prog} {d id t:Nat} {σ:Sl} {st:St} {Q:AE→Sl→St→Prop} (hid:Nat.ble 1000000 id=true)
  (h :∀(nx v:Nat) (bx':Bxs),Bl [] bx' st.ow (d,id*4096+0) v→(∀k':Key,(d,id*4096+0)≠k'→lk bx' k'=lk st.bx k')→Q .normal (upO σ (some t) (.p (d,id*4096+0) v 0)) ⟨nx,bx',st.ow⟩):W prog d (.reg id [⟨some t,.alloc [.np,.sl .full []],none⟩]) σ st Q:=by
 refine W.reg (s_alloc (s_nil (h _ _ _ ?_ ?_)))
 ·refine ⟨.np,.full,lk_here,.inl rfl,rfl,?_⟩
  have:=Nat.le_of_ble_eq_true hid
  show 4096000000≤id*4096+0
  omega
 ·intro k' hk
  exact lk_ne hk
def pf145:AF:={ nt:=20,res:=[],body:=
 (.seq (.reg 1000000 [⟨(some 2),.mv (.t 0),none⟩,
  ⟨(some 3),.nilc (.t 2),none⟩,
  ⟨(some 4),.fad 0 (.t 3),none⟩,
  ⟨(some 5),.load 1 false (.t 4),none⟩,
  ⟨(some 6),.peq false (.t 5) (.c (.np)),none⟩])
 (.cond (.t 6)
  (.reg 1000001 [⟨(some 7),.mv (.t 0),none⟩,
   ⟨(some 8),.mv (.t 0),none⟩,
   ⟨(some 9),.cvp 2 (.t 8),none⟩,
   ⟨(some 10),.call true 146 [(.t 9)],none⟩,
   ⟨(some 11),.cvp 2 (.t 10),none⟩,
   ⟨(some 12),.nilc (.t 7),none⟩,
   ⟨(some 13),.fad 0 (.t 12),none⟩,
   ⟨none,.store 1 (.t 13) (.t 11),none⟩])
  (.seq (.reg 1000002 [⟨(some 14),.mv (.t 0),none⟩,
   ⟨(some 15),.nilc (.t 14),none⟩,
   ⟨(some 16),.fad 0 (.t 15),none⟩,
   ⟨(some 17),.load 1 false (.t 16),none⟩,
   ⟨(some 18),.mv (.t 0),none⟩,
   ⟨(some 19),.peq true (.t 17) (.t 18),none⟩])
  (.cond (.t 19)
   (.cond (.c .u) .skip .skip)
   .skip)))) }
def pf126:AF:={ nt:=19,res:=[.tmp 4,.tmp 5],body:=
 (.seq (.reg 0 [⟨(some 4),.mv (.c (.i .i64 0)),none⟩,
  ⟨(some 5),.mv (.c (.ni)),none⟩])
 (.seq (.reg 1 [⟨(some 6),.mv (.t 0),none⟩,
  ⟨(some 7),.call true 145 [(.t 6)],none⟩])
 (.seq (.reg 1000002 [⟨(some 8),.mv (.t 0),none⟩,
  ⟨(some 9),.mv (.t 0),none⟩,
  ⟨(some 10),.nilc (.t 9),none⟩,
  ⟨(some 11),.fad 1 (.t 10),none⟩,
  ⟨(some 12),.load 1 false (.t 11),none⟩,
  ⟨(some 13),.mv (.t 1),none⟩,
  ⟨(some 14),.appS (.t 12) (.t 13),none⟩,
  ⟨(some 15),.nilc (.t 8),none⟩,
  ⟨(some 16),.fad 1 (.t 15),none⟩,
  ⟨none,.store 1 (.t 16) (.t 14),none⟩])
 (.seq (.reg 3 [⟨(some 17),.mv (.t 1),none⟩,
  ⟨(some 18),.len true (.t 17),none⟩,
  ⟨(some 4),.mv (.t 18),none⟩,
  ⟨(some 5),.mv (.c (.ni)),none⟩])
 .ret)))) }
theorem aapp_B {key:Key} {ver:Nat} {o:Own} {l m:List UInt8} {st:St} (ha:AppB st.ow o l.length) (hk:bigSite≤key.2) (hs:l.length+m.length≤maxBytes)
  {K:AV→St→Prop} (hK :∀o' ow',AppB ow' o' (l++m).length→(∀k':Key,k'.2<bigSite→lk ow' k'=lk st.ow k')→K (.sl o' ((l++m).map row8)) ⟨st.nx,st.bx,ow'⟩):onO (aapp key ver 1 1 (.sl o (l.map row8)) (m.map row8) st) fun r=>K r.1 r.2:=by
 simp only [aapp]
 rw [if_pos ⟨by simpa using hs,by simpa using hs,Nat.one_pos,by simp [row8],by simp [row8]⟩]
 cases m with
 | nil=>
  rw [if_pos (show (List.map row8 []).isEmpty=true from rfl),onO_some]
  have:=hK o st.ow (by rw [List.append_nil];exact ha) (fun _ _=>rfl)
  rwa [List.append_nil] at this
 | cons c m=>
  rw [if_neg (by simp)]
  have hpos:0<(l++c::m).length:=by simp;omega
  cases o with
  | ext=>exact ha.elim
  | full=>
   simp only [onO_some]
   rw [← List.map_append]
   refine hK (.id key ver) _ ⟨by rw [lk_st',if_pos rfl];simp,hpos,hk⟩ (fun k' h=>?_)
   rw [lk_st',if_neg (by rintro rfl;exact absurd h (Nat.not_lt.2 hk))]
  | id k v=>
   obtain ⟨ha1,ha2,ha3⟩:=ha
   simp only [ha1]
   rw [if_pos ⟨trivial,by simp,by simpa using ha2,.inr ha3⟩]
   simp only [onO_some]
   rw [← List.map_append]
   refine hK (.id key ver) _ ⟨by rw [lk_st',if_pos rfl];simp,hpos,hk⟩ (fun k' h=>?_)
   rw [lk_st',if_neg (by rintro rfl;exact absurd h (Nat.not_lt.2 hk)),lk_del',if_neg (by rintro rfl;exact absurd h (Nat.not_lt.2 ha3))]
theorem WOp_appB {prog:Prog} {d site ver:Nat} {σ:Sl} {st:St} {s x:Opd} {o:Own} {l m:List UInt8} (hs:s.ev σ=.sl o (l.map row8)) (hx:x.ev σ=.s m) (ha:AppB st.ow o l.length) (hb:bigSite≤site) (h2:l.length+m.length≤maxBytes)
  {K:AV→St→Prop} (hK :∀o' ow',AppB ow' o' (l++m).length→(∀k':Key,k'.2<bigSite→lk ow' k'=lk st.ow k')→K (.sl o' ((l++m).map row8)) ⟨st.nx,st.bx,ow'⟩):WOp prog d site ver σ st K (.appS s x):=by
 rw [WOp_appS,hx,onS_s,hs]
 exact aapp_B ha hb h2 hK
theorem isF0_ne {o:Own} {l:List UInt8} (h:l≠[]):(AV.sl o (l.map row8)).isF0=false:=by
 cases l with
 | nil=>exact absurd rfl h
 | cons c l=>cases o<;>rfl
structure HasB (prog:Prog):Prop where
 f145:prog.fn 145=some pf145
 f126:prog.fn 126=some pf126
 f146:prog.fn 146=none
 f105:prog.fn 105=none
 o146 :∀k v,prog.orac 146 [.p k v 0]=some (.p k v 0)
 o105 :∀args,prog.orac 105 args=none
 s105 :∀args st,prog.oracS 105 args st=bStr args st
def Bl1 (b:List UInt8):BC:=fun bx ow k v=>∃o,lk bx k=some (v,[.p k v 0,.sl o (b.map row8)])∧AppB ow o b.length∧bigSite≤k.2
theorem Bl1.out {b:List UInt8}:Out (Bl1 b):=fun d bx ow k v hk ⟨o,h1,h2⟩=>⟨o,by rw [lk_out hk];exact h1,h2⟩
section
variable {prog:Prog} (H:HasB prog)
include H
theorem c145 (b:List UInt8):PuX prog 145 (Bl b) [] (fun r=>r=.tup []) (Bl1 b):=by
 refine PuX.of H.f145 rfl Bl1.out fun d st k v hk hB=>?_
 obtain ⟨c0,o,hb,hc0,hap,hbig⟩:=hB
 refine W.seq (W.reg0 rfl fun nx _=>?_)
 rcases hc0 with rfl | rfl
 ·refine s_mv (v:=.p k v 0) rfl (s_nilP rfl (s_fadP rfl (s_loadP (w:=.np) rfl hb rfl rfl (s_peq (v:=.b true) rfl rfl rfl (s_nil (W.tt rfl (W.reg0 rfl fun nx2 _=>?_)))))))
  refine s_mv (v:=.p k v 0) rfl (s_mv (v:=.p k v 0) rfl (s_cvp rfl hb hbig rfl (s_callO H.f146 rfl (H.o146 k v) (s_cvp rfl hb hbig rfl (s_nilP rfl (s_fadP rfl (s_storeP rfl hb (w:=.p k v 0) rfl rfl rfl (s_nil ?_))))))))
  exact ⟨.inl rfl,_,rfl,rfl,⟨o,lk_here,hap,hbig⟩,Fr.refl.own⟩
 ·refine s_mv (v:=.p k v 0) rfl (s_nilP rfl (s_fadP rfl (s_loadP (w:=.p k v 0) rfl hb rfl rfl (s_peq (v:=.b false) rfl rfl rfl (s_nil (W.ff rfl (W.seq (W.reg0 rfl fun nx2 _=>?_))))))))
  refine s_mv (v:=.p k v 0) rfl (s_nilP rfl (s_fadP rfl (s_loadP (w:=.p k v 0) rfl hb rfl rfl (s_mv (v:=.p k v 0) rfl (s_peq (a:=.p k v 0) (b:=.p k v 0) (v:=.b false) rfl rfl (by simp [apeq]) (s_nil (W.ff rfl (W.skip ?_))))))))
  exact ⟨.inl rfl,_,rfl,rfl,⟨o,hb,hap,hbig⟩,Fr.refl⟩
theorem c126 {b s:List UInt8} (hs:b.length+s.length≤maxBytes) (hne:s≠[]:=by first | exact List.cons_ne_nil _ _ | simp):PuX prog 126 (Bl b) [.s s] (fun r=>r=.tup [.i .i64 (s.length:Int),.ni]) (Bl (b++s)):=by
 refine PuX.of H.f126 rfl Bl.out fun d st k v hk hB=>?_
 refine W.seq (W.reg0 rfl fun nx _=>s_mv rfl (s_mv rfl (s_nil (W.seq (W.reg0 rfl fun nx2 _=>?_)))))
 refine s_mv (v:=.p k v 0) rfl (s_callX (F:=.tup []) (sec rfl sen) (c145 H b) (Nat.lt_succ_of_lt hk) hB fun st1 hB1 hF1=>s_nil (W.seq (W.reg0 rfl fun nx3 _=>?_)))
 obtain ⟨o,hb,hap,hbig⟩:=hB1
 refine s_mv (v:=.p k v 0) rfl (s_mv (v:=.p k v 0) rfl (s_nilP rfl (s_fadP rfl (s_loadP (w:=.sl o (b.map row8)) rfl hb rfl rfl (s_mv (v:=.s s) rfl (s_one ?_))))))
 refine WOp_appB (st:=⟨nx3,st1.bx,st1.ow⟩) (o:=o) (l:=b) (m:=s) ?_ ?_ hap ?_ hs fun o' ow' h1 h2=>?_
 ·rfl
 ·rfl
 ·exact Nat.le_of_ble_eq_true rfl
 refine s_nilP rfl (s_fadP rfl (s_storeP rfl hb (w:=.sl o' ((b++s).map row8)) rfl rfl rfl (s_nil (W.seq (W.reg0 rfl fun nx4 _=>?_))) (okSt_r (by rw [show (AV.sl o' ((b++s).map row8)).cells=[AV.sl o' ((b++s).map row8)] from rfl,List.any_cons,isF0_ne (by simp [hne])];rfl))))
 refine s_mv (v:=.s s) rfl (s_lenS rfl (s_mv rfl (s_mv rfl (s_nil (W.ret ?_)))))
 refine ⟨.inr rfl,_,rfl,rfl,⟨_,o',lk_here,.inr rfl,h1,hbig⟩,?_⟩
 refine (Fr.own ⟨fun k' q1 q2=>?_,fun k' q1 q2=>?_⟩)
 ·exact hF1.1 k' (Nat.lt_succ_of_lt q1) q2
 ·exact (h2 k' (Nat.lt_trans q2 (by decide))).trans (hF1.2 k' (Nat.lt_succ_of_lt q1) q2)
theorem c105 {b:List UInt8} (hs:b.length≤maxBytes):PuX prog 105 (Bl b) [] (fun r=>r=.s b) fun _ _ _ _=>True:=by
 intro d st k v hk ⟨c0,o,h1,h2,h3,h4⟩
 cases o with
 | ext=>exact h3.elim
 | full=>
  have hb:b=[]:=List.length_eq_zero_iff.1 h3
  subst hb
  refine ⟨.s [],st,⟨1,?_⟩,rfl,trivial,fun _ _ _=>rfl,fun k' _ h8=>rfl⟩
  simp only [acall,H.f105,H.o105,H.s105,bStr,h1]
  exact if_pos ⟨rfl,h4⟩
 | id q w=>
  obtain ⟨h5,h6,h7⟩:=h3
  refine ⟨.s b,{ st with ow:=del st.ow q },⟨1,?_⟩,rfl,trivial,fun _ _ _=>rfl,fun k' _ h8=>?_⟩
  ·simp only [acall,H.f105,H.o105,H.s105,bStr,h1,bytesOf_row8,h5]
   rw [if_pos ⟨trivial,h4,trivial,by simp,h6,h7,hs⟩]
  ·show lk (del st.ow q) k'=_
   rw [lk_del',if_neg (by rintro rfl;exact absurd h8 (Nat.not_lt.2 (Nat.le_trans (by decide) h7)))]
end
end Go.AM

/- Parts of the proof. -/
namespace Go.AM
open Go
inductive Val where
 | mk (kind int:Int) (text:List UInt8) (list:List Val) (cut:Bool)
def Val.kind:Val→Int | .mk k _ _ _ _=>k
def Val.int:Val→Int | .mk _ n _ _ _=>n
def Val.text:Val→List UInt8 | .mk _ _ s _ _=>s
def Val.list:Val→List Val | .mk _ _ _ l _=>l
def Val.cut:Val→Bool | .mk _ _ _ _ c=>c
mutual
def Val.row:Val→List AV
 | .mk k n s l c=>[.i .u8 k,.i .i64 n,.s s,.sl .ext (Val.rows l),.b c]
def Val.rows:List Val→List (List AV)
 | []=>[]
 | v::l=>Val.row v::Val.rows l
end
theorem Val.rows_eq :∀l:List Val,Val.rows l=l.map Val.row
 | []=>rfl
 | v::l=>by rw [Val.rows,Val.rows_eq l];rfl
theorem Val.row_eq (v:Val):v.row=[.i .u8 v.kind,.i .i64 v.int,.s v.text,.sl .ext (v.list.map Val.row),.b v.cut]:=by
 cases v with
 | mk k n s l c=>rw [Val.row,Val.rows_eq];rfl
abbrev Val.av (v:Val):AV:=.ag [.i .u8 v.kind,.i .i64 v.int,.s v.text,.sl .ext (List.map Val.row v.list),.b v.cut]
structure Sc where
 left:List UInt8
def Sc.row (x:Sc):List AV:=[.s x.left]
theorem Sc.row_eq (x:Sc):x.row=[.s x.left]:=rfl
end Go.AM

/- Parts of the proof. -/
namespace Go.AM
open Go
abbrev Bytes:=List UInt8
abbrev DIG:Bytes:=[48,49,50,51,52,53,54,55,56,57,97,98,99,100,101,102]
theorem maxStr_eq:maxStr=1099511627776:=rfl
theorem maxBytes_eq:maxBytes=70368744177664:=rfl
theorem loop_up {α:Type} {P:α→Int→Prop} (A:Nat→α) (n:Nat) (h1:P (A n) (n:Int)) (h2 :∀i:Nat,i<n→P (A (i+1)) ((i+1:Nat):Int)→P (A i) (i:Int)):P (A 0) 0:=by
 have key :∀m i:Nat,i+m=n→P (A i) (i:Int):=by
  intro m
  induction m with
  | zero=>intro i hi;simp only [Nat.add_zero] at hi;subst hi;exact h1
  | succ m ih=>intro i hi;exact h2 i (by omega) (ih (i+1) (by omega))
 exact key n 0 (by omega)
theorem wr_succ {i:Nat} (h:i<4611686018427387904):IntKind.i64.wrap ((i:Int)+1)=((i+1:Nat):Int):=by
 rw [wr_i64 (by omega) (by omega)];omega
theorem toNat_cast (i:Nat):((i:Int)).toNat=i:=rfl
def hexd (n:Nat):UInt8:=DIG.getD n 0
theorem hexd_get {n:Nat} (h:n<16):DIG[n]?=some (hexd n):=by
 unfold hexd
 rw [List.getD_eq_getElem?_getD,List.getElem?_eq_getElem (by simpa using h)]
 rfl
theorem hexd_take {n m:Nat} (h:n<16) (hm:m=n+1):(DIG.drop n).take (m-n)=[hexd n]:=by
 subst hm
 rw [show n+1-n=1 by omega,List.drop_eq_getElem_cons (by simpa using h)]
 simp only [List.take_succ_cons,List.take_zero]
 have:=hexd_get h
 rw [List.getElem?_eq_getElem (by simpa using h)] at this
 injection this with this
 rw [this]
theorem DIG_len:DIG.length=16:=rfl
def chr (c:UInt8):Bytes:=
 if c.toNat=34∨c.toNat=92 then [92,c] else if c.toNat=10 then [92,110] else if c.toNat<32∨126<c.toNat then [92,120,hexd (c.toNat / 16),hexd (c.toNat % 16)] else [c]
def chrs (s:Bytes):Bytes:=s.flatMap chr
def quo (s:Bytes):Bytes:=34::(chrs s++[34])
theorem chr_len (c:UInt8):1≤(chr c).length∧(chr c).length≤4:=by
 unfold chr
 split
 ·exact ⟨by simp,by simp⟩
 ·split
  ·exact ⟨by simp,by simp⟩
  ·split<;>exact ⟨by simp,by simp⟩
theorem chrs_len (s:Bytes):(chrs s).length≤4*s.length:=by
 induction s with
 | nil=>exact Nat.le_refl _
 | cons c s ih=>
  have h:chrs (c::s)=chr c++chrs s:=rfl
  rw [h,List.length_append,List.length_cons]
  have:=chr_len c
  omega
theorem quo_len (s:Bytes):(quo s).length≤4*s.length+2:=by
 have:=chrs_len s
 simp only [quo,List.length_cons,List.length_append,List.length_nil]
 omega
theorem chrs_take {s:Bytes} {i:Nat} (h:i<s.length):chrs (s.take (i+1))=chrs (s.take i)++chr s[i]:=by
 rw [List.take_succ_eq_append_getElem h]
 simp only [chrs,List.flatMap_append,List.flatMap_cons,List.flatMap_nil,List.append_nil]
def ds (b:Nat):Nat→Nat→Bytes
 | 0,_=>[]
 | f+1,n=>if n<b then [hexd n] else ds b f (n / b)++[hexd (n % b)]
theorem ds_len (b:Nat) :∀f n,(ds b f n).length≤f
 | 0,_=>Nat.le_refl _
 | f+1,n=>by
  have:=ds_len b f (n / b)
  unfold ds
  split
  ·simp
  ·simp;omega
def digs (b n:Nat):Bytes:=ds b 64 n
def num (n:Int):Bytes:=if n<0 then 45::digs 10 (-n).toNat else digs 10 n.toNat
def quoR (s:Bytes):Bytes × Int:=if 400<s.length then ([],4) else (quo s,0)
def long (n:Nat) (l:List Bytes):Bool:=l.any fun x=>decide (n<x.length)
def many (l:List Bytes):Bool:=long 400 l||decide (64<l.length)
theorem wr_u64_nat {n:Nat} (h:n<18446744073709551616):IntKind.u64.wrap (n:Int)=(n:Int):=wr_u64 (by omega) (by omega)
end Go.AM

/- Parts of the proof. -/
namespace Go.AM
open Go
def dv (b:Nat) (c:UInt8):Int:=Lib.indexByte (DIG.take b) c
theorem dv_lt {b:Nat} (hb:b≤16) (c:UInt8):-1≤dv b c∧dv b c<b:=by
 have key :∀(l:Bytes),-1≤Lib.indexByte l c∧(Lib.indexByte l c<l.length∨Lib.indexByte l c = -1):=by
  intro l
  induction l with
  | nil=>exact ⟨Int.le_refl _,.inr rfl⟩
  | cons x l ih=>
   unfold Lib.indexByte
   split
   ·simp
   ·split
    ·exact ⟨Int.le_refl _,.inr rfl⟩
    ·simp only [List.length_cons]
     omega
 have:=key (DIG.take b)
 unfold dv
 have hl:(DIG.take b).length=b:=by simp [hb]
 omega
theorem idx_get (c:UInt8) :∀(l:Bytes),0≤Lib.indexByte l c→l[(Lib.indexByte l c).toNat]?=some c
 | [],h=>absurd h (show ¬ (0:Int)≤-1 by decide)
 | x::l,h=>by
  have ih:=idx_get c l
  unfold Lib.indexByte at h ⊢
  split
  ·rename_i hx
   have:x=c:=by simpa using hx
   subst this
   rfl
  ·rename_i hx
   rw [if_neg hx] at h
   split
   ·rename_i h1
    rw [if_pos h1] at h
    exact absurd h (by decide)
   ·rename_i h1
    rw [if_neg h1] at h
    have h2:=Lib.indexByte_ge l c
    have h3:Lib.indexByte l c≠-1:=by simpa using h1
    have h4:0≤Lib.indexByte l c:=by omega
    have h5:(Lib.indexByte l c+1).toNat=(Lib.indexByte l c).toNat+1:=by omega
    rw [h5,List.getElem?_cons_succ]
    exact ih h4
theorem dv_inv {b:Nat} (c:UInt8) (h:0≤dv b c):c=hexd (dv b c).toNat:=by
 have h1:=idx_get c (DIG.take b) h
 have h2:DIG[(dv b c).toNat]?=some c:=by
  have:=(List.getElem?_eq_some_iff.1 h1)
  obtain ⟨h3,h4⟩:=this
  rw [List.getElem_take] at h4
  exact List.getElem?_eq_some_iff.2 ⟨by rw [List.length_take] at h3;exact Nat.lt_of_lt_of_le h3 (Nat.min_le_right _ _),h4⟩
 unfold hexd
 rw [List.getD_eq_getElem?_getD,h2]
 rfl
def vals (b:Nat) (s:Bytes):Nat:=s.foldl (fun n c=>n*b+(dv b c).toNat) 0
def okd (b:Nat) (s:Bytes):Bool:=s.all fun c=>decide (0≤dv b c)
def badn (b:Nat) (s:Bytes):Bool:=decide (s=[])||!okd b s||(decide (1<s.length)&&decide (s.head?=some 48))
def rd (b most:Nat) (s:Bytes):Nat × Int:=if badn b s=true then (0,12) else if most<vals b s then (0,16) else (vals b s,0)
theorem vals_take {b:Nat} {s:Bytes} {i:Nat} (h:i<s.length):vals b (s.take (i+1))=vals b (s.take i)*b+(dv b s[i]).toNat:=by
 unfold vals
 rw [List.take_succ_eq_append_getElem h,List.foldl_append]
 rfl
theorem okd_take {b:Nat} {s:Bytes} {i:Nat} (h:i<s.length):okd b (s.take (i+1))=(okd b (s.take i)&&decide (0≤dv b s[i])):=by
 unfold okd
 rw [List.take_succ_eq_append_getElem h,List.all_append]
 simp
theorem okd_of {b:Nat} {s:Bytes} {i:Nat} (h:i<s.length) (hd:dv b s[i]<0):okd b s=false:=by
 unfold okd
 rw [List.all_eq_false]
 exact ⟨s[i],List.getElem_mem h,by simpa using hd⟩
theorem far_iff {b most n d:Nat} (hb:0<b) (hd:d≤most):(most-d) / b<n↔most<n*b+d:=by
 rw [Nat.div_lt_iff_lt_mul hb]
 omega
def esx:Bytes→Option (UInt8 × Bytes)
 | a::b::r=>if 0≤dv 16 a∧0≤dv 16 b∧(16*dv 16 a+dv 16 b).toNat≠10∧((16*dv 16 a+dv 16 b).toNat<32∨126<(16*dv 16 a+dv 16 b).toNat) then some (UInt8.ofNat (16*dv 16 a+dv 16 b).toNat,r) else none
 | _=>none
def esc:Bytes→Option (UInt8 × Bytes)
 | []=>none
 | c::r=>if c.toNat=34∨c.toNat=92 then some (c,r) else if c.toNat=110 then some (10,r) else if c.toNat=120 then esx r else none
def one:Bytes→Option (UInt8 × Bytes)
 | []=>none
 | c::r=>if c.toNat=34∨c.toNat<32∨126<c.toNat then none else if c.toNat=92 then esc r else some (c,r)
theorem u8_eq {a b:UInt8} (h:a.toNat=b.toNat):a=b:=UInt8.toNat_inj.1 h
theorem one_inv {s:Bytes} {c:UInt8} {r:Bytes} (h:one s=some (c,r)):s=chr c++r:=by
 cases s with
 | nil=>cases h
 | cons x s=>
  simp only [one] at h
  split at h
  ·cases h
  rename_i h1
  split at h
  ·rename_i h2
   have hx:x=92:=u8_eq h2
   subst hx
   cases s with
   | nil=>cases h
   | cons y s=>
    simp only [esc] at h
    split at h
    ·rename_i h3
     cases h
     unfold chr
     rw [if_pos h3]
     rfl
    ·split at h
     ·rename_i h3 h4
      cases h
      have hy:y=110:=u8_eq h4
      subst hy
      rfl
     ·split at h
      ·rename_i h3 h4 h5
       have hy:y=120:=u8_eq h5
       subst hy
       match s,h with
       | a::b::r',h=>
        simp only [esx] at h
        split at h
        ·rename_i h6
         obtain ⟨ha,hb,hv,hw⟩:=h6
         cases h
         have la:=dv_lt (b:=16) (by omega) a
         have lb:=dv_lt (b:=16) (by omega) b
         have hv256:(16*dv 16 a+dv 16 b).toNat<256:=by omega
         have en:(UInt8.ofNat (16*dv 16 a+dv 16 b).toNat).toNat=(16*dv 16 a+dv 16 b).toNat:=by
          simp;omega
         unfold chr
         rw [en,if_neg (by omega),if_neg hv,if_pos hw]
         have e1:(16*dv 16 a+dv 16 b).toNat / 16=(dv 16 a).toNat:=by omega
         have e2:(16*dv 16 a+dv 16 b).toNat % 16=(dv 16 b).toNat:=by omega
         rw [e1,e2,← dv_inv a ha,← dv_inv b hb]
         rfl
        ·cases h
      ·cases h
  ·rename_i h2
   cases h
   unfold chr
   rw [if_neg (by omega),if_neg (by omega),if_neg (by omega)]
   rfl
def nxtB:Nat→Bytes→Bytes→Option (Bytes × Bytes)
 | 0,_,_=>none
 | n+1,out,s=>match s with
  | []=>none
  | c::r=>if c.toNat=34 then some (out,r) else match one (c::r) with
   | none=>none
   | some (x,r')=>nxtB n (out++[x]) r'
def nxt:Bytes→Option (Bytes × Bytes)
 | []=>none
 | c::r=>if c.toNat=34 then nxtB (r.length+1) [] r else none
theorem one_len {s:Bytes} {c:UInt8} {r:Bytes} (h:one s=some (c,r)):r.length<s.length:=by
 have h1:=one_inv h
 have h2:=(chr_len c).1
 rw [h1,List.length_append]
 omega
def unnum (s:Bytes):Int × Int:=
 if 2000<s.length then (0,4) else
 if s.take 1=[45] then
  if (rd 10 9223372036854775808 (s.drop 1)).2=0∧(rd 10 9223372036854775808 (s.drop 1)).1=0 then (0,12) else (-((rd 10 9223372036854775808 (s.drop 1)).1:Int),(rd 10 9223372036854775808 (s.drop 1)).2)
 else (((rd 10 9223372036854775807 s).1:Int),(rd 10 9223372036854775807 s).2)
theorem rd_le (b most:Nat) (s:Bytes):(rd b most s).1≤most:=by
 unfold rd
 split
 ·exact Nat.zero_le _
 ·split
  ·exact Nat.zero_le _
  ·simp only;omega
theorem rd_err {b most:Nat} {s:Bytes} (h:(rd b most s).2≠0):(rd b most s).1=0:=by
 unfold rd at h ⊢
 split
 ·rfl
 ·rename_i h1
  rw [if_neg h1] at h
  split
  ·rfl
  ·rename_i h2
   rw [if_neg h2] at h
   exact absurd rfl h
def unquo (s:Bytes):Bytes × Int:=
 if 2000<s.length then ([],4) else
 match nxt s with
 | some (x,[])=>if 400<x.length then ([],4) else (x,0)
 | _=>([],12)
def nxtR (s:Bytes):Bytes × Bytes × Bool:=match nxt s with | some (x,r)=>(x,r,true) | none=>([],[],false)
end Go.AM

/- Parts of the proof. -/
namespace Go.AM
open Go
end Go.AM

/- Parts of the proof. -/
namespace Go.AM
open Go
theorem loop_inv {α:Type} {P:α→Int→Prop} (A:Nat→α) (n:Nat) (I:Nat→Prop) (h0:I 0) (h1:I n→P (A n) (n:Int)) (h2 :∀i:Nat,i<n→I i→(I (i+1)→P (A (i+1)) ((i+1:Nat):Int))→P (A i) (i:Int)):P (A 0) 0:=by
 have key :∀m i:Nat,i+m=n→I i→P (A i) (i:Int):=by
  intro m
  induction m with
  | zero=>intro i hi h;simp only [Nat.add_zero] at hi;subst hi;exact h1 h
  | succ m ih=>intro i hi h;exact h2 i (by omega) h fun h'=>ih (i+1) (by omega) h'
 exact key n 0 (by omega) h0
theorem loop_inv0 {P:Int→Prop} (n:Nat) (I:Nat→Prop) (h0:I 0) (h1:I n→P (n:Int)) (h2 :∀i:Nat,i<n→I i→(I (i+1)→P ((i+1:Nat):Int))→P (i:Int)):P 0:=
 loop_inv (P:=fun _ i=>P i) (fun _=>()) n I h0 h1 h2
theorem get_at {α:Type} {l:List α} {i:Nat} (h:i<l.length):l[((i:Int)).toNat]?=some l[i]:=by rw [toNat_cast,List.getElem?_eq_getElem h]
abbrev vz:Val:=Val.mk 0 0 [] [] false
theorem Val.eta (v:Val):v=Val.mk v.kind v.int v.text v.list v.cut:=by cases v;rfl
@[simp] theorem Val.kind_mk (k n:Int) (s:Bytes) (l:List Val) (c:Bool):(Val.mk k n s l c).kind=k:=rfl
@[simp] theorem Val.int_mk (k n:Int) (s:Bytes) (l:List Val) (c:Bool):(Val.mk k n s l c).int=n:=rfl
@[simp] theorem Val.text_mk (k n:Int) (s:Bytes) (l:List Val) (c:Bool):(Val.mk k n s l c).text=s:=rfl
@[simp] theorem Val.list_mk (k n:Int) (s:Bytes) (l:List Val) (c:Bool):(Val.mk k n s l c).list=l:=rfl
@[simp] theorem Val.cut_mk (k n:Int) (s:Bytes) (l:List Val) (c:Bool):(Val.mk k n s l c).cut=c:=rfl
inductive Wf:Val→Prop
 | mk {k n:Int} {s:Bytes} {l:List Val} {c:Bool} (hk:0≤k∧k<256) (hn:-9223372036854775808≤n∧n<9223372036854775808) (hl:l.length≤9223372036854775807) (h :∀x∈l,Wf x):Wf (.mk k n s l c)
theorem Wf.k {v:Val} (h:Wf v):0≤v.kind∧v.kind<256:=by cases h;assumption
theorem Wf.n {v:Val} (h:Wf v):-9223372036854775808≤v.int∧v.int<9223372036854775808:=by cases h;assumption
theorem Wf.l {v:Val} (h:Wf v):v.list.length≤9223372036854775807:=by cases h;assumption
theorem Wf.e {v:Val} (h:Wf v) :∀x∈v.list,Wf x:=by cases h;assumption
mutual
def Val.nodes:Val→Nat
 | .mk _ _ _ l _=>1+Val.nodesL l
def Val.nodesL:List Val→Nat
 | []=>0
 | v::l=>Val.nodes v+Val.nodesL l
end
theorem nodes_eq (v:Val):v.nodes=1+Val.nodesL v.list:=by cases v;rw [Val.nodes];rfl
theorem nodesL_app :∀l m:List Val,Val.nodesL (l++m)=Val.nodesL l+Val.nodesL m
 | [],m=>by simp [Val.nodesL]
 | v::l,m=>by rw [List.cons_append,Val.nodesL,Val.nodesL,nodesL_app l m];omega
theorem nodesL_take {l:List Val} {i:Nat} (h:i<l.length):Val.nodesL (l.take (i+1))=Val.nodesL (l.take i)+l[i].nodes:=by
 rw [List.take_succ_eq_append_getElem h,nodesL_app,Val.nodesL,Val.nodesL];rfl
theorem nodesL_le {l:List Val} (i:Nat):Val.nodesL (l.take i)≤Val.nodesL l:=by
 have:=nodesL_app (l.take i) (l.drop i)
 rw [List.take_append_drop] at this
 omega
theorem nodes_pos (v:Val):1≤v.nodes:=by rw [nodes_eq];omega
theorem nodes_mem {l:List Val} {v:Val} (h:v∈l):v.nodes≤Val.nodesL l:=by
 obtain ⟨i,hi,rfl⟩:=List.getElem_of_mem h
 have h1:=nodesL_take hi
 have h2:=nodesL_le (l:=l) (i+1)
 omega
mutual
/-- The number that the reference counts. -/
def rN:Val→Nat
 | .mk _ _ _ l _=>rNs l 1
def rNs:List Val→Nat→Nat
 | [],n=>n
 | v::l,n=>if n≤5000 then rNs l (n+rN v) else n
end
theorem rN_eq (v:Val):rN v=rNs v.list 1:=by cases v;rw [rN];rfl
def Sm:Nat→Val→Prop
 | 0,_=>False
 | d+1,v=>v.list.length≤400∧∀x∈v.list,Sm d x
theorem rNs_le {B:Nat} :∀(l:List Val) (n:Nat),n≤5000+B→(∀x∈l,rN x≤B)→rNs l n≤5000+B
 | [],n,hn,_=>by rw [rNs];exact hn
 | v::l,n,hn,h=>by
  rw [rNs]
  split
  ·exact rNs_le l _ (by have:=h v List.mem_cons_self;omega) fun x hx=>h x (List.mem_cons_of_mem _ hx)
  ·exact hn
theorem rN_le :∀{d:Nat} {v:Val},Sm d v→rN v≤5001*d
 | 0,v,h=>h.elim
 | d+1,v,h=>by
  rw [rN_eq]
  have:=rNs_le (B:=5001*d) v.list 1 (by omega) fun x hx=>rN_le (h.2 x hx)
  omega
mutual
theorem rN_spec :∀v:Val,(v.nodes≤5000→rN v=v.nodes)∧(5000<v.nodes→5000<rN v)
 | .mk k n s l c=>by
  rw [rN,Val.nodes]
  have:=rNs_spec l 1 (by omega)
  exact this
theorem rNs_spec :∀(l:List Val) (n:Nat),n≤5000→(n+Val.nodesL l≤5000→rNs l n=n+Val.nodesL l)∧(5000<n+Val.nodesL l→5000<rNs l n)
 | [],n,hn=>by rw [rNs,Val.nodesL];omega
 | v::l,n,hn=>by
  rw [rNs,Val.nodesL,if_pos hn]
  obtain ⟨h1,h2⟩:=rN_spec v
  by_cases h:n+rN v≤5000
  ·obtain ⟨h3,h4⟩:=rNs_spec l (n+rN v) h
   have hv:v.nodes≤5000:=by
    rcases Nat.lt_or_ge 5000 v.nodes with h5 | h5
    ·have:=h2 h5;omega
    ·exact h5
   have:=h1 hv
   omega
  ·have h5:rNs l (n+rN v)=n+rN v:=by
    cases l with
    | nil=>rw [rNs]
    | cons w l=>rw [rNs,if_neg h]
   rw [h5]
   have:=nodes_pos v
   rcases Nat.lt_or_ge 5000 v.nodes with h6 | h6
   ·have:=h2 h6
    omega
   ·have:=h1 h6
    omega
end
def deepv:Nat→Val→Bool
 | 0,_=>true
 | d+1,v=>decide (100<v.text.length)||decide (400<v.list.length)||v.list.any (deepv d)
def greatv (v:Val):Bool:=deepv 14 v||decide (400<rN v)
theorem deepv_sm :∀{d:Nat} {v:Val},deepv d v=false→Sm d v
 | 0,v,h=>by cases h
 | d+1,v,h=>by
  simp only [deepv,Bool.or_eq_false_iff,decide_eq_false_iff_not,List.any_eq_false] at h
  exact ⟨by omega,fun x hx=>deepv_sm (by simpa using h.2 x hx)⟩
def Okh (k n:Int) (tl ll c:Nat):Prop:=
 (k=1∧ll=0∧c=0∧tl=0∧(n=0∨n=1))∨(k=2∧ll=0∧c=0∧tl=0)∨(k=3∧ll=0∧c=0∧n=0∧tl≤64)∨
 (k=4∧n=0∧tl=0∧ll≤1∧(c=0∨ll=0))∨(k=5∧n=0∧tl=0∧ll≤8∧c=0)∨(k=6∧n=0∧tl=0∧ll≤16∧1≤ll∧c=0)∨(k=7∧n=0∧tl=0∧ll≤16∧(c=0∨ll=0))
instance (k n:Int) (tl ll c:Nat):Decidable (Okh k n tl ll c):=by unfold Okh;infer_instance
abbrev Val.okh (v:Val):Prop:=Okh v.kind v.int v.text.length v.list.length v.cut.toNat
def okv:Nat→Val→Bool
 | 0,_=>false
 | d+1,v=>decide v.okh&&v.list.all (okv d)
theorem okv_head {d:Nat} {v:Val} (h:okv d v=true):v.okh:=by
 cases d with
 | zero=>cases h
 | succ d=>simp only [okv,Bool.and_eq_true,decide_eq_true_eq] at h;exact h.1
theorem okv_sub {d:Nat} {v:Val} (h:okv (d+1) v=true) :∀x∈v.list,okv d x=true:=by
 simp only [okv,Bool.and_eq_true,List.all_eq_true] at h
 exact h.2
theorem okv_sm :∀{d:Nat} {v:Val},okv d v=true→Sm d v
 | 0,v,h=>by cases h
 | d+1,v,h=>by
  have h1:=okv_head h
  refine ⟨?_,fun x hx=>okv_sm (okv_sub h x hx)⟩
  unfold Val.okh Okh at h1
  omega
def fine (v:Val):Bool:=okv 130 v&&decide (v.nodes≤5000)
def cntR (d:Nat) (v:Val):Int × Bool:=if okv d v=true∧v.nodes≤5000 then ((v.nodes:Int),true) else (0,false)
def chkR (v:Val):Int:=if fine v=true then 0 else 8
def tTrue:Bytes:=[116,114,117,101]
def tFalse:Bytes:=[102,97,108,115,101]
def tNil:Bytes:=[110,105,108]
def tCutP:Bytes:=[38,46,46,46]
def tCutS:Bytes:=[60,46,46,46,62]
mutual
def txt:Val→Bytes
 | .mk k n s l c=>if k=1 then (if n=1 then tTrue else tFalse) else if k=2 then num n else if k=3 then quo s else
   if k=5 then 123::(txts l++[125]) else if k=6 then 91::(txts l++[93]) else if k=7 then (if c=true then tCutS else 60::(txts l++[62])) else
   if c=true then tCutP else if l.length=0 then tNil else 38::txts l
def txts:List Val→Bytes
 | []=>[]
 | v::l=>txt v++txtl l
def txtl:List Val→Bytes
 | []=>[]
 | v::l=>44::32::(txt v++txtl l)
end
theorem txt_eq (v:Val):txt v=if v.kind=1 then (if v.int=1 then tTrue else tFalse) else if v.kind=2 then num v.int else if v.kind=3 then quo v.text else
   if v.kind=5 then 123::(txts v.list++[125]) else if v.kind=6 then 91::(txts v.list++[93]) else if v.kind=7 then (if v.cut=true then tCutS else 60::(txts v.list++[62])) else
   if v.cut=true then tCutP else if v.list.length=0 then tNil else 38::txts v.list:=by cases v;rw [txt];rfl
theorem txtl_app :∀l m:List Val,txtl (l++m)=txtl l++txtl m
 | [],m=>by simp [txtl]
 | v::l,m=>by rw [List.cons_append,txtl,txtl,txtl_app l m];simp
theorem txts_snoc (l:List Val) (v:Val):txts (l++[v])=txts l++(if l.length>0 then [44,32] else [])++txt v:=by
 cases l with
 | nil=>simp [txts,txtl]
 | cons a l=>simp [txts,txtl_app,txtl]
theorem txts_take {l:List Val} {i:Nat} (h:i<l.length):txts (l.take (i+1))=txts (l.take i)++(if i>0 then [44,32] else [])++txt l[i]:=by
 rw [List.take_succ_eq_append_getElem h,txts_snoc]
 congr 2
 rw [List.length_take]
 congr 1
 rw [eq_iff_iff]
 omega
theorem txts_one (v:Val):txts [v]=txt v:=by simp [txts,txtl]
theorem num_len (n:Int):(num n).length≤65:=by
 unfold num
 split
 ·have:=ds_len 10 64 (-n).toNat;simp only [List.length_cons,digs];omega
 ·have:=ds_len 10 64 n.toNat;simp only [digs];omega
theorem txt_len :∀{d:Nat} {v:Val},okv d v=true→(txt v).length+2≤260*v.nodes
 | 0,v,h=>by cases h
 | d+1,v,h=>by
  have h1:=okv_head h
  have h2:=okv_sub h
  have hl :∀l:List Val,(∀x∈l,okv d x=true)→(txtl l).length≤260*Val.nodesL l:=by
   intro l
   induction l with
   | nil=>intro _;simp [txtl]
   | cons x l ih=>
    intro hx
    have h3:=txt_len (hx x List.mem_cons_self)
    have h4:=ih fun y hy=>hx y (List.mem_cons_of_mem _ hy)
    rw [txtl,Val.nodesL]
    simp only [List.length_cons,List.length_append]
    omega
  have hs:(txts v.list).length≤260*Val.nodesL v.list:=by
   revert h2
   cases v.list with
   | nil=>intro _;simp [txts]
   | cons x l=>
    intro hx
    have h3:=txt_len (hx x List.mem_cons_self)
    have h4:=hl l fun y hy=>hx y (List.mem_cons_of_mem _ hy)
    rw [txts,Val.nodesL]
    simp only [List.length_append]
    omega
  have h5:=num_len v.int
  have h6:=quo_len v.text
  rw [nodes_eq,txt_eq]
  unfold Val.okh Okh at h1
  repeat' split
  all_goals try simp only [tTrue,tFalse,tNil,tCutP,tCutS,List.length_cons,List.length_append,List.length_nil]
  all_goals omega
theorem fine_len {v:Val} (h:fine v=true):(txt v).length+2≤1300000:=by
 simp only [fine,Bool.and_eq_true,decide_eq_true_eq] at h
 have:=txt_len h.1
 omega
theorem digs_ne (b n:Nat):digs b n≠[]:=by
 unfold digs
 rw [show 64=63+1 from rfl,ds]
 split<;>simp
theorem num_ne (n:Int):num n≠[]:=by
 unfold num
 split
 ·simp
 ·exact digs_ne _ _
theorem txt_ne (v:Val):txt v≠[]:=by
 rw [txt_eq]
 repeat' split
 all_goals first | exact num_ne _ | simp [tTrue,tFalse,tNil,tCutP,tCutS,quo]
end Go.AM

/- Parts of the proof. -/
namespace Go.AM
open Go Go.RowKit
section
variable {T:TTab}
theorem rows_mapP {α:Type} {f:α→List AV} {p:α→Prop} :∀{rows:List (List AV)},(∀r∈rows,∃x,r=f x∧p x)→∃l:List α,rows=l.map f∧∀x∈l,p x
 | [],_=>⟨[],rfl,by simp⟩
 | r::rows,h=>by
  obtain ⟨x,rfl,hx⟩:=h r List.mem_cons_self
  obtain ⟨l,rfl,hl⟩:=rows_mapP fun r hr=>h r (List.mem_cons_of_mem _ hr)
  exact ⟨x::l,rfl,fun y hy=>by rcases List.mem_cons.1 hy with rfl | hy;exact hx;exact hl y hy⟩
theorem fld_of {f t t' off:Nat} {xs:List AV} {fs:List (Nat × Nat)} {i j:TI} (hi:T t=some i) (hk:i.kind=.st fs) (h:HasC T f t xs) (hf:((t',off):Nat × Nat)∈fs) (hj:T t'=some j) :∃g,f=g+1∧HasC T g t' ((xs.drop off).take j.size):=by
 obtain ⟨g,h1,h2⟩:=h.st hi hk
 obtain ⟨j',h3,h4⟩:=h2 _ hf
 rw [hj] at h3
 cases h3
 exact ⟨g,h1,h4⟩
structure ValT (T:TTab) (t a b c d e:Nat):Prop where
 ht :∃i,T t=some i∧i.kind=.st [(a,0),(b,1),(c,2),(d,3),(e,4)]∧i.size=5
 ha :∃i,T a=some i∧i.kind=.int .u8∧i.size=1
 hb :∃i,T b=some i∧i.kind=.int .i64∧i.size=1
 hc :∃i,T c=some i∧i.kind=.str∧i.size=1
 hd :∃i,T d=some i∧i.kind=.sl t∧i.size=1
 he :∃i,T e=some i∧i.kind=.bool∧i.size=1
theorem HasC.val {t a b c d e:Nat} (V:ValT T t a b c d e) :∀(f:Nat) (xs:List AV),xs.length=5→HasC T f t xs→∃v:Val,xs=v.row∧Wf v:=by
 obtain ⟨it,ht,kt,st⟩:=V.ht
 obtain ⟨ia,ha,ka,sa⟩:=V.ha
 obtain ⟨ib,hb,kb,sb⟩:=V.hb
 obtain ⟨ic,hc,kc,sc⟩:=V.hc
 obtain ⟨id,hd,kd,sd⟩:=V.hd
 obtain ⟨ie,he,ke,se⟩:=V.he
 intro f
 induction f using Nat.strongRecOn with
 | _ f ih=>
 intro xs hl h
 obtain ⟨g,rfl,h1⟩:=fld_of ht kt h (t':=a) (off:=0) (by simp) ha
 obtain ⟨g',e',h2⟩:=fld_of ht kt h (t':=b) (off:=1) (by simp) hb;cases e'
 obtain ⟨g',e',h3⟩:=fld_of ht kt h (t':=c) (off:=2) (by simp) hc;cases e'
 obtain ⟨g',e',h4⟩:=fld_of ht kt h (t':=d) (off:=3) (by simp) hd;cases e'
 obtain ⟨g',e',h5⟩:=fld_of ht kt h (t':=e) (off:=4) (by simp) he;cases e'
 rw [sa] at h1;rw [sb] at h2;rw [sc] at h3;rw [sd] at h4;rw [se] at h5
 match xs,hl with
 | [x0,x1,x2,x3,x4],_=>
  obtain ⟨n,e1,q1⟩:=h1.int ha ka
  obtain ⟨m,e2,q2⟩:=h2.int hb kb
  obtain ⟨s,e3,q3⟩:=h3.str hc kc
  obtain ⟨g2,rows,e4,e5,q4,q5,q6⟩:=h4.sl hd kd
  obtain ⟨z,e6⟩:=h5.bool he ke
  simp at e1 e2 e3 e5 e6
  subst e1;subst e2;subst e3;subst e5;subst e6
  have hr :∀r∈rows,∃v:Val,r=v.row∧Wf v:=fun r hr=>ih g2 (by omega) r (by rw [q6 _ ht r hr,st]) (q5 r hr)
  obtain ⟨l,rfl,hl⟩:=rows_mapP hr
  refine ⟨Val.mk n m s l z,?_,.mk (u8_bd q1) (i64_bd q2) (by simpa [maxLen] using q4) hl⟩
  rw [Val.row_eq]
  rfl
end
end Go.AM

/- Parts of the proof. -/
namespace Go.AM
open Go
structure Fld where
 name:List UInt8
 type:Int
def Fld.row (x:Fld):List AV:=[.s x.name,.i .i64 x.type]
theorem Fld.row_eq (x:Fld):x.row=[.s x.name,.i .i64 x.type]:=rfl
def Fld.zero:Fld:=⟨[],0⟩
abbrev Fld.av (x:Fld):AV:=.ag [.s x.name,.i .i64 x.type]
structure Ins where
 op:Int
 a:Int
 b:Int
 c:Int
def Ins.row (x:Ins):List AV:=[.i .u8 x.op,.i .i64 x.a,.i .i64 x.b,.i .i64 x.c]
theorem Ins.row_eq (x:Ins):x.row=[.i .u8 x.op,.i .i64 x.a,.i .i64 x.b,.i .i64 x.c]:=rfl
def Ins.zero:Ins:=⟨0,0,0,0⟩
abbrev Ins.av (x:Ins):AV:=.ag [.i .u8 x.op,.i .i64 x.a,.i .i64 x.b,.i .i64 x.c]
structure Rnn where
 start:Int
 value:Int
def Rnn.row (x:Rnn):List AV:=[.i .i64 x.start,.i .u64 x.value]
theorem Rnn.row_eq (x:Rnn):x.row=[.i .i64 x.start,.i .u64 x.value]:=rfl
abbrev Rnn.av (x:Rnn):AV:=.ag [.i .i64 x.start,.i .u64 x.value]
structure Typ where
 kind:Int
 elem:Int
 len:Int
 fields:List Fld
def Typ.row (x:Typ):List AV:=[.i .u8 x.kind,.i .i64 x.elem,.i .i64 x.len,.sl .ext (List.map Fld.row x.fields)]
theorem Typ.row_eq (x:Typ):x.row=[.i .u8 x.kind,.i .i64 x.elem,.i .i64 x.len,.sl .ext (List.map Fld.row x.fields)]:=rfl
abbrev Typ.av (x:Typ):AV:=.ag [.i .u8 x.kind,.i .i64 x.elem,.i .i64 x.len,.sl .ext (List.map Fld.row x.fields)]
structure Fun where
 name:List UInt8
 params:Int
 result:Int
 slots:List Fld
 code:List Ins
 sizes:List Rnn
 lives:List Rnn
def Fun.row (x:Fun):List AV:=[.s x.name,.i .i64 x.params,.i .i64 x.result,.sl .ext (List.map Fld.row x.slots),.sl .ext (List.map Ins.row x.code),.sl .ext (List.map Rnn.row x.sizes),.sl .ext (List.map Rnn.row x.lives)]
theorem Fun.row_eq (x:Fun):x.row=[.s x.name,.i .i64 x.params,.i .i64 x.result,.sl .ext (List.map Fld.row x.slots),.sl .ext (List.map Ins.row x.code),.sl .ext (List.map Rnn.row x.sizes),.sl .ext (List.map Rnn.row x.lives)]:=rfl
def Fun.zero:Fun:=⟨[],0,0,[],[],[],[]⟩
abbrev Fun.av (x:Fun):AV:=.ag [.s x.name,.i .i64 x.params,.i .i64 x.result,.sl .ext (List.map Fld.row x.slots),.sl .ext (List.map Ins.row x.code),.sl .ext (List.map Rnn.row x.sizes),.sl .ext (List.map Rnn.row x.lives)]
structure Img where
 types:List Typ
 texts:List (List UInt8)
 funcs:List Fun
def Img.row (x:Img):List AV:=[.sl .ext (List.map Typ.row x.types),.sl .ext (List.map rowS x.texts),.sl .ext (List.map Fun.row x.funcs)]
theorem Img.row_eq (x:Img):x.row=[.sl .ext (List.map Typ.row x.types),.sl .ext (List.map rowS x.texts),.sl .ext (List.map Fun.row x.funcs)]:=rfl
abbrev Img.av (x:Img):AV:=.ag [.sl .ext (List.map Typ.row x.types),.sl .ext (List.map rowS x.texts),.sl .ext (List.map Fun.row x.funcs)]
structure Loc where
 slot:Int
 value:Val
def Loc.row (x:Loc):List AV:=[.i .i64 x.slot,.i .u8 x.value.kind,.i .i64 x.value.int,.s x.value.text,.sl .ext (List.map Val.row x.value.list),.b x.value.cut]
theorem Loc.row_eq (x:Loc):x.row=[.i .i64 x.slot,.i .u8 x.value.kind,.i .i64 x.value.int,.s x.value.text,.sl .ext (List.map Val.row x.value.list),.b x.value.cut]:=rfl
abbrev Loc.av (x:Loc):AV:=.ag [.i .i64 x.slot,.i .u8 x.value.kind,.i .i64 x.value.int,.s x.value.text,.sl .ext (List.map Val.row x.value.list),.b x.value.cut]
structure Frm where
 func:Int
 pos:Int
 mode:Int
 locals:List Loc
def Frm.row (x:Frm):List AV:=[.i .i64 x.func,.i .i64 x.pos,.i .u64 x.mode,.sl .ext (List.map Loc.row x.locals)]
theorem Frm.row_eq (x:Frm):x.row=[.i .i64 x.func,.i .i64 x.pos,.i .u64 x.mode,.sl .ext (List.map Loc.row x.locals)]:=rfl
abbrev Frm.av (x:Frm):AV:=.ag [.i .i64 x.func,.i .i64 x.pos,.i .u64 x.mode,.sl .ext (List.map Loc.row x.locals)]
structure Pan where
 tag:Int
 value:Val
 flags:Int
def Pan.row (x:Pan):List AV:=[.i .u64 x.tag,.i .u8 x.value.kind,.i .i64 x.value.int,.s x.value.text,.sl .ext (List.map Val.row x.value.list),.b x.value.cut,.i .u64 x.flags]
theorem Pan.row_eq (x:Pan):x.row=[.i .u64 x.tag,.i .u8 x.value.kind,.i .i64 x.value.int,.s x.value.text,.sl .ext (List.map Val.row x.value.list),.b x.value.cut,.i .u64 x.flags]:=rfl
abbrev Pan.av (x:Pan):AV:=.ag [.i .u64 x.tag,.i .u8 x.value.kind,.i .i64 x.value.int,.s x.value.text,.sl .ext (List.map Val.row x.value.list),.b x.value.cut,.i .u64 x.flags]
structure Dfr where
 frame:Int
 func:Int
 hasArg:Bool
 arg:Val
def Dfr.row (x:Dfr):List AV:=[.i .i64 x.frame,.i .i64 x.func,.b x.hasArg,.i .u8 x.arg.kind,.i .i64 x.arg.int,.s x.arg.text,.sl .ext (List.map Val.row x.arg.list),.b x.arg.cut]
theorem Dfr.row_eq (x:Dfr):x.row=[.i .i64 x.frame,.i .i64 x.func,.b x.hasArg,.i .u8 x.arg.kind,.i .i64 x.arg.int,.s x.arg.text,.sl .ext (List.map Val.row x.arg.list),.b x.arg.cut]:=rfl
abbrev Dfr.av (x:Dfr):AV:=.ag [.i .i64 x.frame,.i .i64 x.func,.b x.hasArg,.i .u8 x.arg.kind,.i .i64 x.arg.int,.s x.arg.text,.sl .ext (List.map Val.row x.arg.list),.b x.arg.cut]
structure Rou where
 status:Int
 key:Int
 frames:List Frm
 defers:List Dfr
 panics:List Pan
def Rou.row (x:Rou):List AV:=[.i .u8 x.status,.i .i64 x.key,.sl .ext (List.map Frm.row x.frames),.sl .ext (List.map Dfr.row x.defers),.sl .ext (List.map Pan.row x.panics)]
theorem Rou.row_eq (x:Rou):x.row=[.i .u8 x.status,.i .i64 x.key,.sl .ext (List.map Frm.row x.frames),.sl .ext (List.map Dfr.row x.defers),.sl .ext (List.map Pan.row x.panics)]:=rfl
abbrev Rou.av (x:Rou):AV:=.ag [.i .u8 x.status,.i .i64 x.key,.sl .ext (List.map Frm.row x.frames),.sl .ext (List.map Dfr.row x.defers),.sl .ext (List.map Pan.row x.panics)]
structure Sta where
 outcome:Int
 failing:Int
 steps:Int
 routines:List Rou
def Sta.row (x:Sta):List AV:=[.i .u8 x.outcome,.i .i64 x.failing,.i .i64 x.steps,.sl .ext (List.map Rou.row x.routines)]
theorem Sta.row_eq (x:Sta):x.row=[.i .u8 x.outcome,.i .i64 x.failing,.i .i64 x.steps,.sl .ext (List.map Rou.row x.routines)]:=rfl
abbrev Sta.av (x:Sta):AV:=.ag [.i .u8 x.outcome,.i .i64 x.failing,.i .i64 x.steps,.sl .ext (List.map Rou.row x.routines)]
abbrev Sta.avo (x:Sta) (o:Own):AV:=.ag [.i .u8 x.outcome,.i .i64 x.failing,.i .i64 x.steps,.sl o (List.map Rou.row x.routines)]
structure Qry where
 kind:Int
 g:Int
 k:Int
 key:Int
 name:List UInt8
def Qry.row (x:Qry):List AV:=[.i .u8 x.kind,.i .i64 x.g,.i .i64 x.k,.i .i64 x.key,.s x.name]
theorem Qry.row_eq (x:Qry):x.row=[.i .u8 x.kind,.i .i64 x.g,.i .i64 x.k,.i .i64 x.key,.s x.name]:=rfl
abbrev Qry.av (x:Qry):AV:=.ag [.i .u8 x.kind,.i .i64 x.g,.i .i64 x.k,.i .i64 x.key,.s x.name]
end Go.AM

/- Parts of the proof. -/
namespace Go.AM
open Go Go.RowKit
theorem u64_bd2 {n:Int} (h:IntKind.u64.min≤n∧n≤IntKind.u64.max):0≤n∧n<18446744073709551616:=by
 have h1:IntKind.u64.min=0:=rfl
 have h2:IntKind.u64.max=18446744073709551615:=rfl
 omega
def IsI (T:TTab) (k:IntKind) (t:Nat):Prop:=∃i,T t=some i∧i.kind=.int k∧i.size=1
def IsB (T:TTab) (t:Nat):Prop:=∃i,T t=some i∧i.kind=.bool∧i.size=1
def IsS (T:TTab) (t:Nat):Prop:=∃i,T t=some i∧i.kind=.str∧i.size=1
def IsL (T:TTab) (t e:Nat):Prop:=∃i,T t=some i∧i.kind=.sl e∧i.size=1
def TyVal (T:TTab) (t:Nat):Prop:=∃a b c d e,ValT T t a b c d e
def IsT (T:TTab) (t:Nat) (fs:List (Nat × Nat)) (n:Nat):Prop:=∃i,T t=some i∧i.kind=.st fs∧i.size=n
section
variable {T:TTab} {f t:Nat} {xs:List AV}
theorem HasC.isI {k:IntKind} (V:IsI T k t) (h:HasC T f t xs) :∃n,xs=[.i k n]∧k.min≤n∧n≤k.max:=by
 obtain ⟨i,h1,h2,_⟩:=V
 exact h.int h1 h2
theorem HasC.isB (V:IsB T t) (h:HasC T f t xs) :∃b,xs=[.b b]:=by
 obtain ⟨i,h1,h2,_⟩:=V
 exact h.bool h1 h2
theorem HasC.isS (V:IsS T t) (h:HasC T f t xs) :∃s,xs=[.s s]∧s.length≤maxLen:=by
 obtain ⟨i,h1,h2,_⟩:=V
 exact h.str h1 h2
theorem HasC.isL {e:Nat} (V:IsL T t e) {α:Type} {row:α→List AV} {p:α→Prop} {n:Nat} (ht :∃i,T e=some i∧i.size=n) (hp :∀g r,r.length=n→HasC T g e r→∃x,r=row x∧p x) (h:HasC T f t xs) :∃l:List α,xs=[.sl .ext (l.map row)]∧l.length≤maxLen∧∀x∈l,p x:=by
 obtain ⟨i,h1,h2,_⟩:=V
 obtain ⟨j,h3,h4⟩:=ht
 obtain ⟨g,rows,rfl,h5,h6,h7,h8⟩:=h.sl h1 h2
 obtain ⟨l,rfl,hl⟩:=rows_mapP (f:=row) (p:=p) fun r hr=>hp g r (by rw [h8 _ h3 r hr,h4]) (h7 r hr)
 exact ⟨l,h5,by simpa using h6,hl⟩
theorem HasC.isT {fs:List (Nat × Nat)} {n:Nat} (V:IsT T t fs n) (h:HasC T f t xs) :∃g,f=g+1∧∀x∈fs,∀m,(∃j,T x.1=some j∧j.size=m)→HasC T g x.1 ((xs.drop x.2).take m):=by
 obtain ⟨i,h1,h2,_⟩:=V
 obtain ⟨g,h3,h4⟩:=h.st h1 h2
 refine ⟨g,h3,fun x hx m ⟨j,h5,h6⟩=>?_⟩
 obtain ⟨j',h7,h8⟩:=h4 x hx
 rw [h5] at h7
 cases h7
 rw [← h6];exact h8
theorem szI {k:IntKind} (V:IsI T k t) :∃j,T t=some j∧j.size=1:=⟨V.choose,V.choose_spec.1,V.choose_spec.2.2⟩
theorem szB (V:IsB T t) :∃j,T t=some j∧j.size=1:=⟨V.choose,V.choose_spec.1,V.choose_spec.2.2⟩
theorem szS (V:IsS T t) :∃j,T t=some j∧j.size=1:=⟨V.choose,V.choose_spec.1,V.choose_spec.2.2⟩
theorem szL {e:Nat} (V:IsL T t e) :∃j,T t=some j∧j.size=1:=⟨V.choose,V.choose_spec.1,V.choose_spec.2.2⟩
theorem szT {fs:List (Nat × Nat)} {n:Nat} (V:IsT T t fs n) :∃j,T t=some j∧j.size=n:=⟨V.choose,V.choose_spec.1,V.choose_spec.2.2⟩
theorem szVal (V:TyVal T t) :∃j,T t=some j∧j.size=5:=by
 obtain ⟨_,_,_,_,_,⟨i,h1,_,h2⟩,_⟩:=V
 exact ⟨i,h1,h2⟩
theorem HasC.isVal (V:TyVal T t) (f:Nat) (xs:List AV) (hl:xs.length=5) (h:HasC T f t xs) :∃v:Val,xs=v.row∧Wf v:=by
 obtain ⟨_,_,_,_,_,V⟩:=V
 exact HasC.val V f xs hl h
theorem HasC.isStr (V:IsS T t) (f:Nat) (xs:List AV) (_:xs.length=1) (h:HasC T f t xs) :∃s,xs=rowS s∧s.length≤maxLen:=h.isS V
theorem ArgOk.isT {α:Type} {row:α→List AV} {p:α→Prop} {fs:List (Nat × Nat)} {n:Nat} {x:AV} (V:IsT T t fs n) (hp :∀g r,r.length=n→HasC T g t r→∃x,r=row x∧p x) (h:ArgOk T t x) :∃v:α,x=.ag (row v)∧p v:=by
 obtain ⟨i,hi,hk,hs⟩:=V
 unfold ArgOk at h
 rw [hi] at h
 simp only [hk] at h
 obtain ⟨f,xs,rfl,h1,h2⟩:=h
 obtain ⟨v,rfl,hv⟩:=hp f xs (by rw [h1,hs]) h2
 exact ⟨v,rfl,hv⟩
end
structure WFld (x:Fld):Prop where
 name:x.name.length≤maxLen
 type:-9223372036854775808≤x.type∧x.type<9223372036854775808
def TyFld (T:TTab) (t:Nat):Prop:=∃t0 t1,IsT T t [(t0,0),(t1,1)] 2∧IsS T t0∧IsI T .i64 t1
theorem szFld {T:TTab} {t:Nat} (V:TyFld T t) :∃j,T t=some j∧j.size=2:=by
 obtain ⟨t0,t1,V,v0,v1⟩:=V
 exact szT V
theorem HasC.isFld {T:TTab} {t:Nat} (V:TyFld T t) (f:Nat) (xs:List AV) (hl:xs.length=2) (h:HasC T f t xs) :∃x:Fld,xs=x.row∧WFld x:=by
 obtain ⟨t0,t1,V,v0,v1⟩:=V
 obtain ⟨g,rfl,hh⟩:=h.isT V
 have h0:=hh (t0,0) (by simp) 1 (szS v0)
 have h1:=hh (t1,1) (by simp) 1 (szI v1)
 match xs,hl with
 | [x0,x1],_=>
  have h0:HasC T g t0 [x0]:=h0
  obtain ⟨a0,e,q0⟩:=h0.isS v0;cases e
  have h1:HasC T g t1 [x1]:=h1
  obtain ⟨a1,e,q1⟩:=h1.isI v1;cases e
  exact ⟨⟨a0,a1⟩,rfl,⟨q0,i64_bd q1⟩⟩
structure WIns (x:Ins):Prop where
 op:0≤x.op∧x.op<256
 a:-9223372036854775808≤x.a∧x.a<9223372036854775808
 b:-9223372036854775808≤x.b∧x.b<9223372036854775808
 c:-9223372036854775808≤x.c∧x.c<9223372036854775808
def TyIns (T:TTab) (t:Nat):Prop:=∃t0 t1 t2 t3,IsT T t [(t0,0),(t1,1),(t2,2),(t3,3)] 4∧IsI T .u8 t0∧IsI T .i64 t1∧IsI T .i64 t2∧IsI T .i64 t3
theorem szIns {T:TTab} {t:Nat} (V:TyIns T t) :∃j,T t=some j∧j.size=4:=by
 obtain ⟨t0,t1,t2,t3,V,v0,v1,v2,v3⟩:=V
 exact szT V
theorem HasC.isIns {T:TTab} {t:Nat} (V:TyIns T t) (f:Nat) (xs:List AV) (hl:xs.length=4) (h:HasC T f t xs) :∃x:Ins,xs=x.row∧WIns x:=by
 obtain ⟨t0,t1,t2,t3,V,v0,v1,v2,v3⟩:=V
 obtain ⟨g,rfl,hh⟩:=h.isT V
 have h0:=hh (t0,0) (by simp) 1 (szI v0)
 have h1:=hh (t1,1) (by simp) 1 (szI v1)
 have h2:=hh (t2,2) (by simp) 1 (szI v2)
 have h3:=hh (t3,3) (by simp) 1 (szI v3)
 match xs,hl with
 | [x0,x1,x2,x3],_=>
  have h0:HasC T g t0 [x0]:=h0
  obtain ⟨a0,e,q0⟩:=h0.isI v0;cases e
  have h1:HasC T g t1 [x1]:=h1
  obtain ⟨a1,e,q1⟩:=h1.isI v1;cases e
  have h2:HasC T g t2 [x2]:=h2
  obtain ⟨a2,e,q2⟩:=h2.isI v2;cases e
  have h3:HasC T g t3 [x3]:=h3
  obtain ⟨a3,e,q3⟩:=h3.isI v3;cases e
  exact ⟨⟨a0,a1,a2,a3⟩,rfl,⟨u8_bd q0,i64_bd q1,i64_bd q2,i64_bd q3⟩⟩
structure WRnn (x:Rnn):Prop where
 start:-9223372036854775808≤x.start∧x.start<9223372036854775808
 value:0≤x.value∧x.value<18446744073709551616
def TyRnn (T:TTab) (t:Nat):Prop:=∃t0 t1,IsT T t [(t0,0),(t1,1)] 2∧IsI T .i64 t0∧IsI T .u64 t1
theorem szRnn {T:TTab} {t:Nat} (V:TyRnn T t) :∃j,T t=some j∧j.size=2:=by
 obtain ⟨t0,t1,V,v0,v1⟩:=V
 exact szT V
theorem HasC.isRnn {T:TTab} {t:Nat} (V:TyRnn T t) (f:Nat) (xs:List AV) (hl:xs.length=2) (h:HasC T f t xs) :∃x:Rnn,xs=x.row∧WRnn x:=by
 obtain ⟨t0,t1,V,v0,v1⟩:=V
 obtain ⟨g,rfl,hh⟩:=h.isT V
 have h0:=hh (t0,0) (by simp) 1 (szI v0)
 have h1:=hh (t1,1) (by simp) 1 (szI v1)
 match xs,hl with
 | [x0,x1],_=>
  have h0:HasC T g t0 [x0]:=h0
  obtain ⟨a0,e,q0⟩:=h0.isI v0;cases e
  have h1:HasC T g t1 [x1]:=h1
  obtain ⟨a1,e,q1⟩:=h1.isI v1;cases e
  exact ⟨⟨a0,a1⟩,rfl,⟨i64_bd q0,u64_bd2 q1⟩⟩
structure WTyp (x:Typ):Prop where
 kind:0≤x.kind∧x.kind<256
 elem:-9223372036854775808≤x.elem∧x.elem<9223372036854775808
 len:-9223372036854775808≤x.len∧x.len<9223372036854775808
 fields:x.fields.length≤maxLen∧∀y∈x.fields,WFld y
def TyTyp (T:TTab) (t:Nat):Prop:=∃t0 t1 t2 t3 e3,IsT T t [(t0,0),(t1,1),(t2,2),(t3,3)] 4∧IsI T .u8 t0∧IsI T .i64 t1∧IsI T .i64 t2∧IsL T t3 e3∧TyFld T e3
theorem szTyp {T:TTab} {t:Nat} (V:TyTyp T t) :∃j,T t=some j∧j.size=4:=by
 obtain ⟨t0,t1,t2,t3,e3,V,v0,v1,v2,v3,w3⟩:=V
 exact szT V
theorem HasC.isTyp {T:TTab} {t:Nat} (V:TyTyp T t) (f:Nat) (xs:List AV) (hl:xs.length=4) (h:HasC T f t xs) :∃x:Typ,xs=x.row∧WTyp x:=by
 obtain ⟨t0,t1,t2,t3,e3,V,v0,v1,v2,v3,w3⟩:=V
 obtain ⟨g,rfl,hh⟩:=h.isT V
 have h0:=hh (t0,0) (by simp) 1 (szI v0)
 have h1:=hh (t1,1) (by simp) 1 (szI v1)
 have h2:=hh (t2,2) (by simp) 1 (szI v2)
 have h3:=hh (t3,3) (by simp) 1 (szL v3)
 match xs,hl with
 | [x0,x1,x2,x3],_=>
  have h0:HasC T g t0 [x0]:=h0
  obtain ⟨a0,e,q0⟩:=h0.isI v0;cases e
  have h1:HasC T g t1 [x1]:=h1
  obtain ⟨a1,e,q1⟩:=h1.isI v1;cases e
  have h2:HasC T g t2 [x2]:=h2
  obtain ⟨a2,e,q2⟩:=h2.isI v2;cases e
  have h3:HasC T g t3 [x3]:=h3
  obtain ⟨a3,e,q3⟩:=h3.isL v3 (szFld w3) (HasC.isFld w3);cases e
  exact ⟨⟨a0,a1,a2,a3⟩,rfl,⟨u8_bd q0,i64_bd q1,i64_bd q2,q3⟩⟩
structure WFun (x:Fun):Prop where
 name:x.name.length≤maxLen
 params:-9223372036854775808≤x.params∧x.params<9223372036854775808
 result:-9223372036854775808≤x.result∧x.result<9223372036854775808
 slots:x.slots.length≤maxLen∧∀y∈x.slots,WFld y
 code:x.code.length≤maxLen∧∀y∈x.code,WIns y
 sizes:x.sizes.length≤maxLen∧∀y∈x.sizes,WRnn y
 lives:x.lives.length≤maxLen∧∀y∈x.lives,WRnn y
def TyFun (T:TTab) (t:Nat):Prop:=∃t0 t1 t2 t3 t4 t5 t6 e3 e4 e5 e6,IsT T t [(t0,0),(t1,1),(t2,2),(t3,3),(t4,4),(t5,5),(t6,6)] 7∧IsS T t0∧IsI T .i64 t1∧IsI T .i64 t2∧IsL T t3 e3∧TyFld T e3∧IsL T t4 e4∧TyIns T e4∧IsL T t5 e5∧TyRnn T e5∧IsL T t6 e6∧TyRnn T e6
theorem szFun {T:TTab} {t:Nat} (V:TyFun T t) :∃j,T t=some j∧j.size=7:=by
 obtain ⟨t0,t1,t2,t3,t4,t5,t6,e3,e4,e5,e6,V,v0,v1,v2,v3,w3,v4,w4,v5,w5,v6,w6⟩:=V
 exact szT V
theorem HasC.isFun {T:TTab} {t:Nat} (V:TyFun T t) (f:Nat) (xs:List AV) (hl:xs.length=7) (h:HasC T f t xs) :∃x:Fun,xs=x.row∧WFun x:=by
 obtain ⟨t0,t1,t2,t3,t4,t5,t6,e3,e4,e5,e6,V,v0,v1,v2,v3,w3,v4,w4,v5,w5,v6,w6⟩:=V
 obtain ⟨g,rfl,hh⟩:=h.isT V
 have h0:=hh (t0,0) (by simp) 1 (szS v0)
 have h1:=hh (t1,1) (by simp) 1 (szI v1)
 have h2:=hh (t2,2) (by simp) 1 (szI v2)
 have h3:=hh (t3,3) (by simp) 1 (szL v3)
 have h4:=hh (t4,4) (by simp) 1 (szL v4)
 have h5:=hh (t5,5) (by simp) 1 (szL v5)
 have h6:=hh (t6,6) (by simp) 1 (szL v6)
 match xs,hl with
 | [x0,x1,x2,x3,x4,x5,x6],_=>
  have h0:HasC T g t0 [x0]:=h0
  obtain ⟨a0,e,q0⟩:=h0.isS v0;cases e
  have h1:HasC T g t1 [x1]:=h1
  obtain ⟨a1,e,q1⟩:=h1.isI v1;cases e
  have h2:HasC T g t2 [x2]:=h2
  obtain ⟨a2,e,q2⟩:=h2.isI v2;cases e
  have h3:HasC T g t3 [x3]:=h3
  obtain ⟨a3,e,q3⟩:=h3.isL v3 (szFld w3) (HasC.isFld w3);cases e
  have h4:HasC T g t4 [x4]:=h4
  obtain ⟨a4,e,q4⟩:=h4.isL v4 (szIns w4) (HasC.isIns w4);cases e
  have h5:HasC T g t5 [x5]:=h5
  obtain ⟨a5,e,q5⟩:=h5.isL v5 (szRnn w5) (HasC.isRnn w5);cases e
  have h6:HasC T g t6 [x6]:=h6
  obtain ⟨a6,e,q6⟩:=h6.isL v6 (szRnn w6) (HasC.isRnn w6);cases e
  exact ⟨⟨a0,a1,a2,a3,a4,a5,a6⟩,rfl,⟨q0,i64_bd q1,i64_bd q2,q3,q4,q5,q6⟩⟩
structure WImg (x:Img):Prop where
 types:x.types.length≤maxLen∧∀y∈x.types,WTyp y
 texts:x.texts.length≤maxLen∧∀s∈x.texts,s.length≤maxLen
 funcs:x.funcs.length≤maxLen∧∀y∈x.funcs,WFun y
def TyImg (T:TTab) (t:Nat):Prop:=∃t0 t1 t2 e0 e1 e2,IsT T t [(t0,0),(t1,1),(t2,2)] 3∧IsL T t0 e0∧TyTyp T e0∧IsL T t1 e1∧IsS T e1∧IsL T t2 e2∧TyFun T e2
theorem HasC.isImg {T:TTab} {t:Nat} (V:TyImg T t) (f:Nat) (xs:List AV) (hl:xs.length=3) (h:HasC T f t xs) :∃x:Img,xs=x.row∧WImg x:=by
 obtain ⟨t0,t1,t2,e0,e1,e2,V,v0,w0,v1,w1,v2,w2⟩:=V
 obtain ⟨g,rfl,hh⟩:=h.isT V
 have h0:=hh (t0,0) (by simp) 1 (szL v0)
 have h1:=hh (t1,1) (by simp) 1 (szL v1)
 have h2:=hh (t2,2) (by simp) 1 (szL v2)
 match xs,hl with
 | [x0,x1,x2],_=>
  have h0:HasC T g t0 [x0]:=h0
  obtain ⟨a0,e,q0⟩:=h0.isL v0 (szTyp w0) (HasC.isTyp w0);cases e
  have h1:HasC T g t1 [x1]:=h1
  obtain ⟨a1,e,q1⟩:=h1.isL v1 (szS w1) (HasC.isStr w1);cases e
  have h2:HasC T g t2 [x2]:=h2
  obtain ⟨a2,e,q2⟩:=h2.isL v2 (szFun w2) (HasC.isFun w2);cases e
  exact ⟨⟨a0,a1,a2⟩,rfl,⟨q0,q1,q2⟩⟩
theorem ArgOk.isImg {T:TTab} {t:Nat} {x:AV} (V:TyImg T t) (h:ArgOk T t x) :∃v:Img,x=v.av∧WImg v:=by
 have V0:=V
 obtain ⟨t0,t1,t2,e0,e1,e2,V,v0,w0,v1,w1,v2,w2⟩:=V0
 exact ArgOk.isT V (HasC.isImg ‹TyImg T t›) h
structure WLoc (x:Loc):Prop where
 slot:-9223372036854775808≤x.slot∧x.slot<9223372036854775808
 value:Wf x.value
def TyLoc (T:TTab) (t:Nat):Prop:=∃t0 t1,IsT T t [(t0,0),(t1,1)] 6∧IsI T .i64 t0∧TyVal T t1
theorem szLoc {T:TTab} {t:Nat} (V:TyLoc T t) :∃j,T t=some j∧j.size=6:=by
 obtain ⟨t0,t1,V,v0,v1⟩:=V
 exact szT V
theorem HasC.isLoc {T:TTab} {t:Nat} (V:TyLoc T t) (f:Nat) (xs:List AV) (hl:xs.length=6) (h:HasC T f t xs) :∃x:Loc,xs=x.row∧WLoc x:=by
 obtain ⟨t0,t1,V,v0,v1⟩:=V
 obtain ⟨g,rfl,hh⟩:=h.isT V
 have h0:=hh (t0,0) (by simp) 1 (szI v0)
 have h1:=hh (t1,1) (by simp) 5 (szVal v1)
 match xs,hl with
 | [x0,x1,x2,x3,x4,x5],_=>
  have h0:HasC T g t0 [x0]:=h0
  obtain ⟨a0,e,q0⟩:=h0.isI v0;cases e
  have h1:HasC T g t1 [x1,x2,x3,x4,x5]:=h1
  obtain ⟨a1,e,q1⟩:=HasC.isVal v1 g _ rfl h1;rw [Val.row_eq] at e;cases e
  exact ⟨⟨a0,a1⟩,rfl,⟨i64_bd q0,q1⟩⟩
structure WFrm (x:Frm):Prop where
 func:-9223372036854775808≤x.func∧x.func<9223372036854775808
 pos:-9223372036854775808≤x.pos∧x.pos<9223372036854775808
 mode:0≤x.mode∧x.mode<18446744073709551616
 locals:x.locals.length≤maxLen∧∀y∈x.locals,WLoc y
def TyFrm (T:TTab) (t:Nat):Prop:=∃t0 t1 t2 t3 e3,IsT T t [(t0,0),(t1,1),(t2,2),(t3,3)] 4∧IsI T .i64 t0∧IsI T .i64 t1∧IsI T .u64 t2∧IsL T t3 e3∧TyLoc T e3
theorem szFrm {T:TTab} {t:Nat} (V:TyFrm T t) :∃j,T t=some j∧j.size=4:=by
 obtain ⟨t0,t1,t2,t3,e3,V,v0,v1,v2,v3,w3⟩:=V
 exact szT V
theorem HasC.isFrm {T:TTab} {t:Nat} (V:TyFrm T t) (f:Nat) (xs:List AV) (hl:xs.length=4) (h:HasC T f t xs) :∃x:Frm,xs=x.row∧WFrm x:=by
 obtain ⟨t0,t1,t2,t3,e3,V,v0,v1,v2,v3,w3⟩:=V
 obtain ⟨g,rfl,hh⟩:=h.isT V
 have h0:=hh (t0,0) (by simp) 1 (szI v0)
 have h1:=hh (t1,1) (by simp) 1 (szI v1)
 have h2:=hh (t2,2) (by simp) 1 (szI v2)
 have h3:=hh (t3,3) (by simp) 1 (szL v3)
 match xs,hl with
 | [x0,x1,x2,x3],_=>
  have h0:HasC T g t0 [x0]:=h0
  obtain ⟨a0,e,q0⟩:=h0.isI v0;cases e
  have h1:HasC T g t1 [x1]:=h1
  obtain ⟨a1,e,q1⟩:=h1.isI v1;cases e
  have h2:HasC T g t2 [x2]:=h2
  obtain ⟨a2,e,q2⟩:=h2.isI v2;cases e
  have h3:HasC T g t3 [x3]:=h3
  obtain ⟨a3,e,q3⟩:=h3.isL v3 (szLoc w3) (HasC.isLoc w3);cases e
  exact ⟨⟨a0,a1,a2,a3⟩,rfl,⟨i64_bd q0,i64_bd q1,u64_bd2 q2,q3⟩⟩
structure WPan (x:Pan):Prop where
 tag:0≤x.tag∧x.tag<18446744073709551616
 value:Wf x.value
 flags:0≤x.flags∧x.flags<18446744073709551616
def TyPan (T:TTab) (t:Nat):Prop:=∃t0 t1 t2,IsT T t [(t0,0),(t1,1),(t2,6)] 7∧IsI T .u64 t0∧TyVal T t1∧IsI T .u64 t2
theorem szPan {T:TTab} {t:Nat} (V:TyPan T t) :∃j,T t=some j∧j.size=7:=by
 obtain ⟨t0,t1,t2,V,v0,v1,v2⟩:=V
 exact szT V
theorem HasC.isPan {T:TTab} {t:Nat} (V:TyPan T t) (f:Nat) (xs:List AV) (hl:xs.length=7) (h:HasC T f t xs) :∃x:Pan,xs=x.row∧WPan x:=by
 obtain ⟨t0,t1,t2,V,v0,v1,v2⟩:=V
 obtain ⟨g,rfl,hh⟩:=h.isT V
 have h0:=hh (t0,0) (by simp) 1 (szI v0)
 have h1:=hh (t1,1) (by simp) 5 (szVal v1)
 have h2:=hh (t2,6) (by simp) 1 (szI v2)
 match xs,hl with
 | [x0,x1,x2,x3,x4,x5,x6],_=>
  have h0:HasC T g t0 [x0]:=h0
  obtain ⟨a0,e,q0⟩:=h0.isI v0;cases e
  have h1:HasC T g t1 [x1,x2,x3,x4,x5]:=h1
  obtain ⟨a1,e,q1⟩:=HasC.isVal v1 g _ rfl h1;rw [Val.row_eq] at e;cases e
  have h2:HasC T g t2 [x6]:=h2
  obtain ⟨a2,e,q2⟩:=h2.isI v2;cases e
  exact ⟨⟨a0,a1,a2⟩,rfl,⟨u64_bd2 q0,q1,u64_bd2 q2⟩⟩
structure WDfr (x:Dfr):Prop where
 frame:-9223372036854775808≤x.frame∧x.frame<9223372036854775808
 func:-9223372036854775808≤x.func∧x.func<9223372036854775808
 arg:Wf x.arg
def TyDfr (T:TTab) (t:Nat):Prop:=∃t0 t1 t2 t3,IsT T t [(t0,0),(t1,1),(t2,2),(t3,3)] 8∧IsI T .i64 t0∧IsI T .i64 t1∧IsB T t2∧TyVal T t3
theorem szDfr {T:TTab} {t:Nat} (V:TyDfr T t) :∃j,T t=some j∧j.size=8:=by
 obtain ⟨t0,t1,t2,t3,V,v0,v1,v2,v3⟩:=V
 exact szT V
theorem HasC.isDfr {T:TTab} {t:Nat} (V:TyDfr T t) (f:Nat) (xs:List AV) (hl:xs.length=8) (h:HasC T f t xs) :∃x:Dfr,xs=x.row∧WDfr x:=by
 obtain ⟨t0,t1,t2,t3,V,v0,v1,v2,v3⟩:=V
 obtain ⟨g,rfl,hh⟩:=h.isT V
 have h0:=hh (t0,0) (by simp) 1 (szI v0)
 have h1:=hh (t1,1) (by simp) 1 (szI v1)
 have h2:=hh (t2,2) (by simp) 1 (szB v2)
 have h3:=hh (t3,3) (by simp) 5 (szVal v3)
 match xs,hl with
 | [x0,x1,x2,x3,x4,x5,x6,x7],_=>
  have h0:HasC T g t0 [x0]:=h0
  obtain ⟨a0,e,q0⟩:=h0.isI v0;cases e
  have h1:HasC T g t1 [x1]:=h1
  obtain ⟨a1,e,q1⟩:=h1.isI v1;cases e
  have h2:HasC T g t2 [x2]:=h2
  obtain ⟨a2,e⟩:=h2.isB v2;cases e
  have h3:HasC T g t3 [x3,x4,x5,x6,x7]:=h3
  obtain ⟨a3,e,q3⟩:=HasC.isVal v3 g _ rfl h3;rw [Val.row_eq] at e;cases e
  exact ⟨⟨a0,a1,a2,a3⟩,rfl,⟨i64_bd q0,i64_bd q1,q3⟩⟩
structure WRou (x:Rou):Prop where
 status:0≤x.status∧x.status<256
 key:-9223372036854775808≤x.key∧x.key<9223372036854775808
 frames:x.frames.length≤maxLen∧∀y∈x.frames,WFrm y
 defers:x.defers.length≤maxLen∧∀y∈x.defers,WDfr y
 panics:x.panics.length≤maxLen∧∀y∈x.panics,WPan y
def TyRou (T:TTab) (t:Nat):Prop:=∃t0 t1 t2 t3 t4 e2 e3 e4,IsT T t [(t0,0),(t1,1),(t2,2),(t3,3),(t4,4)] 5∧IsI T .u8 t0∧IsI T .i64 t1∧IsL T t2 e2∧TyFrm T e2∧IsL T t3 e3∧TyDfr T e3∧IsL T t4 e4∧TyPan T e4
theorem szRou {T:TTab} {t:Nat} (V:TyRou T t) :∃j,T t=some j∧j.size=5:=by
 obtain ⟨t0,t1,t2,t3,t4,e2,e3,e4,V,v0,v1,v2,w2,v3,w3,v4,w4⟩:=V
 exact szT V
theorem HasC.isRou {T:TTab} {t:Nat} (V:TyRou T t) (f:Nat) (xs:List AV) (hl:xs.length=5) (h:HasC T f t xs) :∃x:Rou,xs=x.row∧WRou x:=by
 obtain ⟨t0,t1,t2,t3,t4,e2,e3,e4,V,v0,v1,v2,w2,v3,w3,v4,w4⟩:=V
 obtain ⟨g,rfl,hh⟩:=h.isT V
 have h0:=hh (t0,0) (by simp) 1 (szI v0)
 have h1:=hh (t1,1) (by simp) 1 (szI v1)
 have h2:=hh (t2,2) (by simp) 1 (szL v2)
 have h3:=hh (t3,3) (by simp) 1 (szL v3)
 have h4:=hh (t4,4) (by simp) 1 (szL v4)
 match xs,hl with
 | [x0,x1,x2,x3,x4],_=>
  have h0:HasC T g t0 [x0]:=h0
  obtain ⟨a0,e,q0⟩:=h0.isI v0;cases e
  have h1:HasC T g t1 [x1]:=h1
  obtain ⟨a1,e,q1⟩:=h1.isI v1;cases e
  have h2:HasC T g t2 [x2]:=h2
  obtain ⟨a2,e,q2⟩:=h2.isL v2 (szFrm w2) (HasC.isFrm w2);cases e
  have h3:HasC T g t3 [x3]:=h3
  obtain ⟨a3,e,q3⟩:=h3.isL v3 (szDfr w3) (HasC.isDfr w3);cases e
  have h4:HasC T g t4 [x4]:=h4
  obtain ⟨a4,e,q4⟩:=h4.isL v4 (szPan w4) (HasC.isPan w4);cases e
  exact ⟨⟨a0,a1,a2,a3,a4⟩,rfl,⟨u8_bd q0,i64_bd q1,q2,q3,q4⟩⟩
structure WSta (x:Sta):Prop where
 outcome:0≤x.outcome∧x.outcome<256
 failing:-9223372036854775808≤x.failing∧x.failing<9223372036854775808
 steps:-9223372036854775808≤x.steps∧x.steps<9223372036854775808
 routines:x.routines.length≤maxLen∧∀y∈x.routines,WRou y
def TySta (T:TTab) (t:Nat):Prop:=∃t0 t1 t2 t3 e3,IsT T t [(t0,0),(t1,1),(t2,2),(t3,3)] 4∧IsI T .u8 t0∧IsI T .i64 t1∧IsI T .i64 t2∧IsL T t3 e3∧TyRou T e3
theorem HasC.isSta {T:TTab} {t:Nat} (V:TySta T t) (f:Nat) (xs:List AV) (hl:xs.length=4) (h:HasC T f t xs) :∃x:Sta,xs=x.row∧WSta x:=by
 obtain ⟨t0,t1,t2,t3,e3,V,v0,v1,v2,v3,w3⟩:=V
 obtain ⟨g,rfl,hh⟩:=h.isT V
 have h0:=hh (t0,0) (by simp) 1 (szI v0)
 have h1:=hh (t1,1) (by simp) 1 (szI v1)
 have h2:=hh (t2,2) (by simp) 1 (szI v2)
 have h3:=hh (t3,3) (by simp) 1 (szL v3)
 match xs,hl with
 | [x0,x1,x2,x3],_=>
  have h0:HasC T g t0 [x0]:=h0
  obtain ⟨a0,e,q0⟩:=h0.isI v0;cases e
  have h1:HasC T g t1 [x1]:=h1
  obtain ⟨a1,e,q1⟩:=h1.isI v1;cases e
  have h2:HasC T g t2 [x2]:=h2
  obtain ⟨a2,e,q2⟩:=h2.isI v2;cases e
  have h3:HasC T g t3 [x3]:=h3
  obtain ⟨a3,e,q3⟩:=h3.isL v3 (szRou w3) (HasC.isRou w3);cases e
  exact ⟨⟨a0,a1,a2,a3⟩,rfl,⟨u8_bd q0,i64_bd q1,i64_bd q2,q3⟩⟩
theorem ArgOk.isSta {T:TTab} {t:Nat} {x:AV} (V:TySta T t) (h:ArgOk T t x) :∃v:Sta,x=v.av∧WSta v:=by
 have V0:=V
 obtain ⟨t0,t1,t2,t3,e3,V,v0,v1,v2,v3,w3⟩:=V0
 exact ArgOk.isT V (HasC.isSta ‹TySta T t›) h
def TyQry (T:TTab) (t:Nat):Prop:=∃t0 t1 t2 t3 t4,IsT T t [(t0,0),(t1,1),(t2,2),(t3,3),(t4,4)] 5∧IsI T .u8 t0∧IsI T .i64 t1∧IsI T .i64 t2∧IsI T .i64 t3∧IsS T t4
end Go.AM

/- Helpers of the packed texts (pack.py): short operations, short steps. -/
namespace Go.AM
open Go
theorem J {α:Sort _} {a:α}:a=a:=rfl
abbrev oI (d:Nat) (n:Int):AI:=⟨some d,.mv (.c (.i .i64 n)),none⟩
abbrev oU (d:Nat) (n:Int):AI:=⟨some d,.mv (.c (.i .u8 n)),none⟩
abbrev oT (d:Nat) (op:BinOp) (a b:Nat):AI:=⟨some d,.bin op (.t a) (.t b),none⟩
abbrev oV (d:Nat) (op:BinOp) (a:Nat) (n:Int):AI:=⟨some d,.bin op (.t a) (.c (.i .i64 n)),none⟩
abbrev oW (d:Nat) (op:BinOp) (a:Nat) (n:Int):AI:=⟨some d,.bin op (.t a) (.c (.i .u8 n)),none⟩
abbrev oK (d n a:Nat):AI:=⟨some d,.load n true (.t a),none⟩
abbrev oA (d a b:Nat):AI:=⟨some d,.pick (.t a) (.t b) (.c (.b false)),none⟩
abbrev oR (d a b:Nat):AI:=⟨some d,.pick (.t a) (.c (.b true)) (.t b),none⟩
abbrev ts:List Nat→List Opd
 | []=>[]
 | a::r=>.t a::ts r
abbrev oQ (d f:Nat) (l:List Nat):AI:=⟨some d,.call false f (ts l),none⟩
abbrev oX (d n a b:Nat):AI:=⟨some d,.iaL n (.t a) (.t b),none⟩
abbrev oJ (d a:Nat):AI:=⟨some d,.len false (.t a),none⟩
abbrev oH (d a:Nat):AI:=⟨some d,.len true (.t a),none⟩
abbrev oY (d n a:Nat):AI:=⟨some d,.box n (.t a),none⟩
abbrev oZ (d a:Nat):AI:=⟨some d,.un .not (.t a),none⟩
abbrev gT (g:Nat) (a:AI):AI:=⟨a.dst,a.op,some (g,true)⟩
abbrev gF (g:Nat) (a:AI):AI:=⟨a.dst,a.op,some (g,false)⟩
abbrev z8:AV:=.i .u8 0
abbrev z6:AV:=.i .i64 0
abbrev z7:AV:=.i .u64 0
abbrev zs:AV:=.s []
abbrev zl:AV:=.sl .full []
abbrev zb:AV:=.b false
abbrev sR (n:Nat) (r:List AI) (c:AC):AC:=.seq (.reg n r) c
section
variable {prog:Prog} {d id base i:Nat} {σ:Sl} {st:St} {K:Sl→St→Prop} {r:List AI} {o o2 o3 o4:Option Nat} {p p2 p3 p4:AOp} {g g2 g3 g4:Nat}
theorem nT (hg:σ g=.b true) (h:WO prog d id base (i+1) r (upO σ o (.tup [])) st K):WO prog d id base i (⟨o,p,some (g,false)⟩::r) σ st K:=s_gn hg rfl h
theorem nF (hg:σ g=.b false) (h:WO prog d id base (i+1) r (upO σ o (.tup [])) st K):WO prog d id base i (⟨o,p,some (g,true)⟩::r) σ st K:=s_gn hg rfl h
theorem nT2 (hg:σ g=.b true) (hg2:upO σ o (.tup []) g2=.b true) (h:WO prog d id base (i+1+1) r (upO (upO σ o (.tup [])) o2 (.tup [])) st K):WO prog d id base i (⟨o,p,some (g,false)⟩::⟨o2,p2,some (g2,false)⟩::r) σ st K:=nT hg (nT hg2 h)
theorem nF2 (hg:σ g=.b false) (hg2:upO σ o (.tup []) g2=.b false) (h:WO prog d id base (i+1+1) r (upO (upO σ o (.tup [])) o2 (.tup [])) st K):WO prog d id base i (⟨o,p,some (g,true)⟩::⟨o2,p2,some (g2,true)⟩::r) σ st K:=nF hg (nF hg2 h)
theorem nT3 (hg:σ g=.b true) (hg2:upO σ o (.tup []) g2=.b true) (hg3:upO (upO σ o (.tup [])) o2 (.tup []) g3=.b true) (h:WO prog d id base (i+1+1+1) r (upO (upO (upO σ o (.tup [])) o2 (.tup [])) o3 (.tup [])) st K):WO prog d id base i (⟨o,p,some (g,false)⟩::⟨o2,p2,some (g2,false)⟩::⟨o3,p3,some (g3,false)⟩::r) σ st K:=nT hg (nT2 hg2 hg3 h)
theorem nF3 (hg:σ g=.b false) (hg2:upO σ o (.tup []) g2=.b false) (hg3:upO (upO σ o (.tup [])) o2 (.tup []) g3=.b false) (h:WO prog d id base (i+1+1+1) r (upO (upO (upO σ o (.tup [])) o2 (.tup [])) o3 (.tup [])) st K):WO prog d id base i (⟨o,p,some (g,true)⟩::⟨o2,p2,some (g2,true)⟩::⟨o3,p3,some (g3,true)⟩::r) σ st K:=nF hg (nF2 hg2 hg3 h)
theorem nT4 (hg:σ g=.b true) (hg2:upO σ o (.tup []) g2=.b true) (hg3:upO (upO σ o (.tup [])) o2 (.tup []) g3=.b true) (hg4:upO (upO (upO σ o (.tup [])) o2 (.tup [])) o3 (.tup []) g4=.b true) (h:WO prog d id base (i+1+1+1+1) r (upO (upO (upO (upO σ o (.tup [])) o2 (.tup [])) o3 (.tup [])) o4 (.tup [])) st K):WO prog d id base i (⟨o,p,some (g,false)⟩::⟨o2,p2,some (g2,false)⟩::⟨o3,p3,some (g3,false)⟩::⟨o4,p4,some (g4,false)⟩::r) σ st K:=nT hg (nT3 hg2 hg3 hg4 h)
theorem nF4 (hg:σ g=.b false) (hg2:upO σ o (.tup []) g2=.b false) (hg3:upO (upO σ o (.tup [])) o2 (.tup []) g3=.b false) (hg4:upO (upO (upO σ o (.tup [])) o2 (.tup [])) o3 (.tup []) g4=.b false) (h:WO prog d id base (i+1+1+1+1) r (upO (upO (upO (upO σ o (.tup [])) o2 (.tup [])) o3 (.tup [])) o4 (.tup [])) st K):WO prog d id base i (⟨o,p,some (g,true)⟩::⟨o2,p2,some (g2,true)⟩::⟨o3,p3,some (g3,true)⟩::⟨o4,p4,some (g4,true)⟩::r) σ st K:=nF hg (nF3 hg2 hg3 hg4 h)
end
end Go.AM
namespace Go.AM
open Go
/-! what a function returns, by shape -/
section
variable {α β γ:Type}
abbrev H1 (e:α→AV) (s:Nat) (Q:AE→Sl→St→Prop) (K:α→Prop):Prop:=∀(σ:Sl) (st:St) (a:α),σ s=e a→K a→Q .ret σ st
abbrev H2 (e:α→AV) (f:β→AV) (s t:Nat) (Q:AE→Sl→St→Prop) (K:α→β→Prop):Prop:=∀(σ:Sl) (st:St) (a:α) (b:β),σ s=e a→σ t=f b→K a b→Q .ret σ st
abbrev HL (e:α→List AV) (s:Nat) (Q:AE→Sl→St→Prop) (K:List α→Prop):Prop:=∀(σ:Sl) (st:St) (o:Own) (a:List α),σ s=.sl o (List.map e a)→K a→Q .ret σ st
abbrev HM (e:α→List AV) (f:β→AV) (s t:Nat) (Q:AE→Sl→St→Prop) (K:List α→β→Prop):Prop:=∀(σ:Sl) (st:St) (o:Own) (a:List α) (b:β),σ s=.sl o (List.map e a)→σ t=f b→K a b→Q .ret σ st
abbrev HF (d:Nat) (st0:St) (e:α→AV) (s:Nat) (Q:AE→Sl→St→Prop) (K:α→Prop):Prop:=∀(σ:Sl) (st:St) (a:α),σ s=e a→Fr d (d,0) st0.bx st0.ow st.bx st.ow→K a→Q .ret σ st
abbrev HD (d:Nat) (st0:St) (kp:Key) (vp:Nat) (B:γ→BC) (e:α→AV) (s:Nat) (Q:AE→Sl→St→Prop) (K:α→γ→Prop):Prop:=∀(σ:Sl) (st:St) (a:α) (b:γ),σ s=e a→B b st.bx st.ow kp vp→Fr d kp st0.bx st0.ow st.bx st.ow→K a b→Q .ret σ st
variable {prog:Prog} {f:Nat} {F:AF} {args:List AV} {s t:Nat}
abbrev Q1 (F:AF) (R:AV→Prop):AE→Sl→St→Prop:=endW 0 F.res fun r _=>∃v,r.strip=some v∧R v
theorem h1 {e:α→AV} {K:α→Prop} (hr:F.res=[.tmp s]) (he :∀a,(e a).strip=some (e a)):H1 e s (Q1 F fun v=>∃a,K a∧v=e a) K:=fun σ st a h k=>⟨e a,by simp only [hr,ares,ares1,h],_,he a,a,k,rfl⟩
theorem h2 {e:α→AV} {g:β→AV} {K:α→β→Prop} (hr:F.res=[.tmp s,.tmp t]) (he :∀a b,(AV.tup [e a,g b]).strip=some (AV.tup [e a,g b])):H2 e g s t (Q1 F fun v=>∃a b,K a b∧v=.tup [e a,g b]) K:=fun σ st a b h h' k=>⟨.tup [e a,g b],by simp only [hr,ares,aresL,ares1,h,h',Option.map_some],_,he a b,a,b,k,rfl⟩
theorem hL {e:α→List AV} {K:List α→Prop} (hr:F.res=[.tmp s]):HL e s (Q1 F fun v=>∃a,K a∧v=.sl .ext (List.map e a)) K:=fun σ st o a h k=>⟨.sl o (List.map e a),by simp only [hr,ares,ares1,h],_,rfl,a,k,rfl⟩
theorem hM {e:α→List AV} {g:β→AV} {K:List α→β→Prop} (hr:F.res=[.tmp s,.tmp t]) (he :∀o a b,(AV.tup [.sl o (List.map e a),g b]).strip=some (AV.tup [.sl .ext (List.map e a),g b])):HM e g s t (Q1 F fun v=>∃a b,K a b∧v=.tup [.sl .ext (List.map e a),g b]) K:=fun σ st o a b h h' k=>⟨.tup [.sl o (List.map e a),g b],by simp only [hr,ares,aresL,ares1,h,h',Option.map_some],_,he o a b,a,b,k,rfl⟩
theorem P1 {e:α→AV} {K:α→Prop} (hf:prog.fn f=some F) (hn:Nat.ble args.length F.nt=true) (w:W prog 0 F.body (sl0 args) st0 (Q1 F fun v=>∃a,K a∧v=e a)) :∃a,K a∧Pus prog f args (e a):=by
 obtain ⟨v,hv,a,hk,rfl⟩:=Pus.of hf hn w
 exact ⟨a,hk,hv⟩
theorem P2 {e:α→β→AV} {K:α→β→Prop} (hf:prog.fn f=some F) (hn:Nat.ble args.length F.nt=true) (w:W prog 0 F.body (sl0 args) st0 (Q1 F fun v=>∃a b,K a b∧v=e a b)) :∃a b,K a b∧Pus prog f args (e a b):=by
 obtain ⟨v,hv,a,b,hk,rfl⟩:=Pus.of hf hn w
 exact ⟨a,b,hk,hv⟩
theorem PF {e:α→AV} {K:α→Prop} (hf:prog.fn f=some F) (hn:Nat.ble args.length F.nt=true) (hr:F.res=[.tmp s]) (w :∀(d:Nat) (st:St) (Q:AE→Sl→St→Prop),HF d st e s Q K→W prog d F.body (sl0 args) st Q):PuN prog f args fun r=>∃a,r=e a∧K a:=
 PuN.of hf hn fun d st=>w d st _ fun σ st' a h hf hk=>⟨.inr rfl,e a,by simp only [hr,ares,ares1,h],⟨a,rfl,hk⟩,hf⟩
theorem PD {B0:BC} {B:γ→BC} {e:α→AV} {K:α→γ→Prop} (hf:prog.fn f=some F) (hn:Nat.ble (args.length+1) F.nt=true) (hr:F.res=[.tmp s]) (ho :∀b,Out (B b)) (w :∀(d:Nat) (st:St) (kp:Key) (vp:Nat),kp.1<d→B0 st.bx st.ow kp vp→∀(Q:AE→Sl→St→Prop),HD d st kp vp B e s Q K→W prog d F.body (sl0 (.p kp vp 0::args)) st Q):PuXK prog f B0 args (fun r b=>∃a,r=e a∧K a b) B:=
 PuXK.of hf hn ho fun d st kp vp hkp hB=>w d st kp vp hkp hB _ fun σ st' a b h hb hf hk=>⟨.inr rfl,e a,b,by simp only [hr,ares,ares1,h],⟨a,rfl,hk⟩,hb,hf⟩
end
end Go.AM

/- Parts of the proof. -/
namespace Go.AM
open Go
set_option linter.unusedVariables false
set_option linter.unusedSimpArgs false
set_option maxRecDepth 4000
attribute [local irreducible] WO fillCells fillRows
def r42_0:List AI:=[oC 4 (.s []),oC 5 (.b false)]
def r42_1:List AI:=[oM 6 0,oM 7 1,oQ 8 46 [6,7],oZ 9 8]
def r42_2:List AI:=[oM 10 0,oM 4 10,oC 5 (.b false)]
def r42_3:List AI:=[oM 11 0,oM 12 1,oH 13 12,oO 14 (.slS (.t 11) (some (.t 13)) none),oM 4 14,oC 5 (.b true)]
abbrev b42:AC:=(sR 0 r42_0 (.seq (sR 1 r42_1 (.cond (.t 9) (sR 2 r42_2 .ret) .skip)) (sR 3 r42_3 .ret)))
def pf42:AF:={ nt:=15,res:=[.tmp 4,.tmp 5],body:=b42 }
def T42_0 (prog:Prog)(K:BS→Bool→Prop)(s0:BS)(prefix1:BS):Prop:=
  ∃r'1,Pus prog 46 [.s s0,.s prefix1] (.b r'1)∧((!r'1)=true→K s0 false)∧((!r'1)=false→0≤(prefix1.length:Int)∧(prefix1.length:Int).toNat≤s0.length∧K (s0.drop (prefix1.length:Int).toNat) true)
section
variable {prog:Prog}{d:Nat}{Q:AE→Sl→St→Prop}{K:BS→Bool→Prop}(hQ:H2 AV.s AV.b 4 5 Q K){σ:Sl}{st:St}
include hQ
variable {s0 prefix1:BS}
variable (H0:σ 0=.s s0)(H1:σ 1=.s prefix1)
include H0 H1 in
theorem w42_0 (h:T42_0 prog K s0 prefix1):W prog d (sR 0 r42_0 (.seq (sR 1 r42_1 (.cond (.t 9) (sR 2 r42_2 .ret) .skip)) (sR 3 r42_3 .ret))) σ st Q:=
 q_ J (m_ (m_ (e_ (sq_ (q_ J (m_ (m_ (h.elim fun r'1 e'2=>ca_ (sc H0 J (sc H1 J sn)) e'2.1 (nt_ J (e_ (cb_ J (fun g'3=>q_ J (m_ (m_ (m_ (e_ (rt_ (hQ _ _ _ _ H0 J (e'2.2.1 g'3)))))))) (fun g'3=>sk_ (q_ J (m_ (m_ (ln_ H1 (s_slS_lo H0 J (e'2.2.2 g'3).1 (e'2.2.2 g'3).2.1 (m_ (m_ (e_ (rt_ (hQ _ _ _ _ J J (e'2.2.2 g'3).2.2))))))))))))))))))))))
end
theorem p42 {prog:Prog}(hf:prog.fn 42=some pf42){s0:BS}{prefix1:BS}{K:BS→Bool→Prop}(h:T42_0 prog K s0 prefix1) :∃x0:BS,∃x1:Bool,K x0 x1∧Pus prog 42 [.s s0,.s prefix1] (.tup [.s x0,.b x1]):=
 P2 hf J (w42_0 (h2 J fun _ _=>J) J J h)
def r46_0:List AI:=[oC 4 (.b false)]
def r46_1:List AI:=[oM 5 0,oH 6 5,oM 7 1,oH 8 7,oT 9 .geq 6 8,oM 10 9,gT 10 (oM 11 0),gT 10 (oM 12 1),gT 10 (oH 13 12),gT 10 (oO 14 (.slS (.t 11) none (some (.t 13)))),gT 10 (oM 15 1),gT 10 (oT 16 .eql 14 15),oA 17 10 16,oM 4 17]
abbrev b46:AC:=(sR 0 r46_0 (sR 1 r46_1 .ret))
def pf46:AF:={ nt:=18,res:=[.tmp 4],body:=b46 }
def T46_0 (prog:Prog)(K:Bool→Prop)(s0:BS)(prefix1:BS):Prop:=
  ((s0.length:Int)≥(prefix1.length:Int)→0≤(prefix1.length:Int)∧(prefix1.length:Int).toNat≤s0.length∧K (decide ((s0.take (prefix1.length:Int).toNat)=prefix1)))∧(¬((s0.length:Int)≥(prefix1.length:Int))→K false)
section
variable {prog:Prog}{d:Nat}{Q:AE→Sl→St→Prop}{K:Bool→Prop}(hQ:H1 AV.b 4 Q K){σ:Sl}{st:St}
include hQ
variable {s0 prefix1:BS}
variable (H0:σ 0=.s s0)(H1:σ 1=.s prefix1)
include H0 H1 in
theorem w46_0 (h:T46_0 prog K s0 prefix1):W prog d (sR 0 r46_0 (sR 1 r46_1 .ret)) σ st Q:=
 q_ J (m_ (e_ (q_ J (s_mvS H0 (ln_ J (s_mvS H1 (ln_ J (b_ J J geq_ (s_mvB J (em_ (g:=10) J (fun g'1=>gy_ J (s_mvS H0 (gy_ J (s_mvS H1 (gy_ J (ln_ J (gy_ J (s_slS_hi J J (h.1 g'1).1 (h.1 g'1).2.1 (gy_ J (s_mvS H1 (gy_ J (b_ J J seq_ (pt_ J J (s_mvB J (e_ (rt_ (hQ _ _ _ J (h.1 g'1).2.2))))))))))))))))) (fun g'1=>nF4 J J J J (nF2 J J (pf_ J J (s_mvB J (e_ (rt_ (hQ _ _ _ J (h.2 g'1))))))))))))))))))
end
theorem p46 {prog:Prog}(hf:prog.fn 46=some pf46){s0:BS}{prefix1:BS}{K:Bool→Prop}(h:T46_0 prog K s0 prefix1) :∃x0:Bool,K x0∧Pus prog 46 [.s s0,.s prefix1] (.b x0):=
 P1 hf J (w46_0 (h1 J fun _=>J) J J h)
def r36_0:List AI:=[oC 4 (.s []),oC 5 (.b false)]
def r36_1:List AI:=[oM 6 0,oM 7 1,oQ 8 42 [6,7],oE 9 0 8,oE 10 1 8,oM 4 9,oM 5 10]
abbrev b36:AC:=(sR 0 r36_0 (sR 1 r36_1 .ret))
def pf36:AF:={ nt:=11,res:=[.tmp 4,.tmp 5],body:=b36 }
def T36_0 (prog:Prog)(K:BS→Bool→Prop)(s0:BS)(prefix1:BS):Prop:=
  ∃r'1 r'2,Pus prog 42 [.s s0,.s prefix1] (.tup [.s r'1,.b r'2])∧K r'1 r'2
section
variable {prog:Prog}{d:Nat}{Q:AE→Sl→St→Prop}{K:BS→Bool→Prop}(hQ:H2 AV.s AV.b 4 5 Q K){σ:Sl}{st:St}
include hQ
variable {s0 prefix1:BS}
variable (H0:σ 0=.s s0)(H1:σ 1=.s prefix1)
include H0 H1 in
theorem w36_0 (h:T36_0 prog K s0 prefix1):W prog d (sR 0 r36_0 (sR 1 r36_1 .ret)) σ st Q:=
 q_ J (m_ (m_ (e_ (q_ J (m_ (m_ (h.elim fun r'1 e'4=>e'4.elim fun r'2 e'3=>ca_ (sc H0 J (sc H1 J sn)) e'3.1 (x_ J J (x_ J J (m_ (m_ (e_ (rt_ (hQ _ _ _ _ J J e'3.2))))))))))))))
end
theorem p36 {prog:Prog}(hf:prog.fn 36=some pf36){s0:BS}{prefix1:BS}{K:BS→Bool→Prop}(h:T36_0 prog K s0 prefix1) :∃x0:BS,∃x1:Bool,K x0 x1∧Pus prog 36 [.s s0,.s prefix1] (.tup [.s x0,.b x1]):=
 P2 hf J (w36_0 (h2 J fun _ _=>J) J J h)
def r43_0:List AI:=[oI 4 0]
def r43_1:List AI:=[oM 5 0,oM 6 1,oQ 7 47 [5,6],oM 4 7]
abbrev b43:AC:=(sR 0 r43_0 (sR 1 r43_1 .ret))
def pf43:AF:={ nt:=8,res:=[.tmp 4],body:=b43 }
def T43_0 (prog:Prog)(K:Int→Prop)(s0:BS)(c1:Int):Prop:=
  ∃r'1,Pus prog 47 [.s s0,.i .u8 c1] (.i .i64 r'1)∧K r'1
section
variable {prog:Prog}{d:Nat}{Q:AE→Sl→St→Prop}{K:Int→Prop}(hQ:H1 (AV.i .i64) 4 Q K){σ:Sl}{st:St}
include hQ
variable {s0:BS}{c1:Int}
variable (H0:σ 0=.s s0)(H1:σ 1=.i .u8 c1)
include H0 H1 in
theorem w43_0 (h:T43_0 prog K s0 c1):W prog d (sR 0 r43_0 (sR 1 r43_1 .ret)) σ st Q:=
 q_ J (m_ (e_ (q_ J (m_ (m_ (h.elim fun r'1 e'2=>ca_ (sc H0 J (sc H1 J sn)) e'2.1 (m_ (e_ (rt_ (hQ _ _ _ J e'2.2))))))))))
end
theorem p43 {prog:Prog}(hf:prog.fn 43=some pf43){s0:BS}{c1:Int}{K:Int→Prop}(h:T43_0 prog K s0 c1) :∃x0:Int,K x0∧Pus prog 43 [.s s0,.i .u8 c1] (.i .i64 x0):=
 P1 hf J (w43_0 (h1 J fun _=>J) J J h)
def r47_0:List AI:=[oI 4 0]
def r47_1:List AI:=[oM 5 0,oM 6 1,oQ 7 48 [5,6],oM 4 7]
abbrev b47:AC:=(sR 0 r47_0 (sR 1 r47_1 .ret))
def pf47:AF:={ nt:=8,res:=[.tmp 4],body:=b47 }
def T47_0 (prog:Prog)(K:Int→Prop)(s0:BS)(c1:Int):Prop:=
  ∃r'1,Pus prog 48 [.s s0,.i .u8 c1] (.i .i64 r'1)∧K r'1
section
variable {prog:Prog}{d:Nat}{Q:AE→Sl→St→Prop}{K:Int→Prop}(hQ:H1 (AV.i .i64) 4 Q K){σ:Sl}{st:St}
include hQ
variable {s0:BS}{c1:Int}
variable (H0:σ 0=.s s0)(H1:σ 1=.i .u8 c1)
include H0 H1 in
theorem w47_0 (h:T47_0 prog K s0 c1):W prog d (sR 0 r47_0 (sR 1 r47_1 .ret)) σ st Q:=
 q_ J (m_ (e_ (q_ J (m_ (m_ (h.elim fun r'1 e'2=>ca_ (sc H0 J (sc H1 J sn)) e'2.1 (m_ (e_ (rt_ (hQ _ _ _ J e'2.2))))))))))
end
theorem p47 {prog:Prog}(hf:prog.fn 47=some pf47){s0:BS}{c1:Int}{K:Int→Prop}(h:T47_0 prog K s0 c1) :∃x0:Int,K x0∧Pus prog 47 [.s s0,.i .u8 c1] (.i .i64 x0):=
 P1 hf J (w47_0 (h1 J fun _=>J) J J h)
def r11_0:List AI:=[oC 2 (.s []),oI 3 0]
def r11_1:List AI:=[oM 4 0,oH 5 4,oV 6 .gtr 5 400]
def r11_2:List AI:=[oC 2 (.s []),oI 3 4]
def r11_3:List AI:=[oM 7 0,oO 8 (.call true 30 [(.c (.sl .full [])),(.t 7)]),oO 9 (.b2s (.t 8)),oM 2 9,oI 3 0]
abbrev b11:AC:=(sR 0 r11_0 (.seq (sR 1 r11_1 (.cond (.t 6) (sR 2 r11_2 .ret) .skip)) (sR 3 r11_3 .ret)))
def pf11:AF:={ nt:=10,res:=[.tmp 2,.tmp 3],body:=b11 }
def T11_0 (prog:Prog)(K:BS→Int→Prop)(s0:BS):Prop:=
  ((s0.length:Int)>400→K ([]:BS) 4)∧(¬((s0.length:Int)>400)→∃r'2,PuA prog 30 (List.map row8 ([]:BS)) [.s s0] (List.map row8 r'2)∧K r'2 0)
section
variable {prog:Prog}{d:Nat}{Q:AE→Sl→St→Prop}{K:BS→Int→Prop}(hQ:H2 AV.s (AV.i .i64) 2 3 Q K){σ:Sl}{st:St}
include hQ
variable {s0:BS}
variable (H0:σ 0=.s s0)
include H0 in
theorem w11_0 (h:T11_0 prog K s0):W prog d (sR 0 r11_0 (.seq (sR 1 r11_1 (.cond (.t 6) (sR 2 r11_2 .ret) .skip)) (sR 3 r11_3 .ret))) σ st Q:=
 q_ J (m_ (m_ (e_ (sq_ (q_ J (m_ (ln_ H0 (b_ J J gtr_ (e_ (cs_ J (fun g'1=>q_ J (m_ (m_ (e_ (rt_ (hQ _ _ _ _ J J (h.1 g'1))))))) (fun g'1=>sk_ (q_ J (m_ ((h.2 g'1).elim fun r'2 e'3=>s_callA (sec (show _=AV.sl .full (List.map row8 []) from J) (sec H0 sen)) e'3.1 (by simpa using App.full) (fun o'4 st'6 a'5=>s_b2s J (m_ (m_ (e_ (rt_ (hQ _ _ _ _ J J e'3.2))))))))))))))))))))
end
theorem p11 {prog:Prog}(hf:prog.fn 11=some pf11){s0:BS}{K:BS→Int→Prop}(h:T11_0 prog K s0) :∃x0:BS,∃x1:Int,K x0 x1∧Pus prog 11 [.s s0] (.tup [.s x0,.i .i64 x1]):=
 P2 hf J (w11_0 (h2 J fun _ _=>J) J h)
def r15_0:List AI:=[oC 2 (.s [])]
def r15_1:List AI:=[oM 3 0,oV 4 .lss 3 0]
def r15_2:List AI:=[oM 5 0,oO 6 (.cvi .u64 (.t 5)),oO 7 (.un .neg (.t 6)),oO 8 (.call false 34 [(.t 7),(.c (.i .u64 10))]),oB 9 .add (.c (.s [45])) (.t 8),oM 2 9]
def r15_3:List AI:=[oM 10 0,oO 11 (.cvi .u64 (.t 10)),oO 12 (.call false 34 [(.t 11),(.c (.i .u64 10))]),oM 2 12]
abbrev b15:AC:=(sR 0 r15_0 (.seq (sR 1 r15_1 (.cond (.t 4) (sR 2 r15_2 .ret) .skip)) (sR 3 r15_3 .ret)))
def pf15:AF:={ nt:=13,res:=[.tmp 2],body:=b15 }
def T15_0 (prog:Prog)(K:BS→Prop)(n0:Int):Prop:=
  (n0<0→∃r'2:BS,Pus prog 34 [.i .u64 (IntKind.u64.wrap (0-(IntKind.u64.wrap n0))),.i .u64 10] (.s r'2)∧([45]:BS).length+r'2.length≤maxStr∧K (([45]:BS)++r'2))∧(¬(n0<0)→∃r'4,Pus prog 34 [.i .u64 (IntKind.u64.wrap n0),.i .u64 10] (.s r'4)∧K r'4)
section
variable {prog:Prog}{d:Nat}{Q:AE→Sl→St→Prop}{K:BS→Prop}(hQ:H1 AV.s 2 Q K){σ:Sl}{st:St}
include hQ
variable {n0:Int}
variable (H0:σ 0=.i .i64 n0)
include H0 in
theorem w15_0 (h:T15_0 prog K n0):W prog d (sR 0 r15_0 (.seq (sR 1 r15_1 (.cond (.t 4) (sR 2 r15_2 .ret) .skip)) (sR 3 r15_3 .ret))) σ st Q:=
 q_ J (m_ (e_ (sq_ (q_ J (m_ (b_ H0 J lss_ (e_ (cs_ J (fun g'1=>q_ J (m_ (s_cvi H0 (s_neg J ((h.1 g'1).elim fun r'2 e'3=>ca_ (sc J J (sc J J sn)) e'3.1 (b_ J J (abin_cat' e'3.2.1) (m_ (e_ (rt_ (hQ _ _ _ J e'3.2.2)))))))))) (fun g'1=>sk_ (q_ J (m_ (s_cvi H0 ((h.2 g'1).elim fun r'4 e'5=>ca_ (sc J J (sc J J sn)) e'5.1 (m_ (e_ (rt_ (hQ _ _ _ J e'5.2)))))))))))))))))
end
theorem p15 {prog:Prog}(hf:prog.fn 15=some pf15){n0:Int}{K:BS→Prop}(h:T15_0 prog K n0) :∃x0:BS,K x0∧Pus prog 15 [.i .i64 n0] (.s x0):=
 P1 hf J (w15_0 (h1 J fun _=>J) J h)
def r21_0:List AI:=[oI 2 0,oI 3 0]
def r21_1:List AI:=[oM 10 0,oH 11 10,oV 12 .gtr 11 2000]
def r21_2:List AI:=[oI 2 0,oI 3 4]
def r21_3:List AI:=[oM 14 0,oO 15 (.call false 36 [(.t 14),(.c (.s [45]))]),oM 13 15,oE 16 0 13,oE 17 1 13,oM 4 16,oM 5 17]
def r21_4:List AI:=[oM 18 5,oZ 19 18]
def r21_5:List AI:=[oM 21 0,oO 22 (.call false 37 [(.t 21),(.c (.i .u64 10)),(.c (.i .u64 9223372036854775807))]),oM 20 22,oE 23 0 20,oE 24 1 20,oM 6 23,oM 7 24]
def r21_6:List AI:=[oM 25 6,oO 26 (.cvi .i64 (.t 25)),oM 27 7,oM 2 26,oM 3 27]
def r21_7:List AI:=[oM 29 4,oO 30 (.call false 37 [(.t 29),(.c (.i .u64 10)),(.c (.i .u64 9223372036854775808))]),oM 28 30,oE 31 0 28,oE 32 1 28,oM 8 31,oM 9 32]
def r21_8:List AI:=[oM 33 9,oV 34 .eql 33 0,oM 35 34,gT 35 (oM 36 8),gT 35 (oB 37 .eql (.t 36) (.c (.i .u64 0))),oA 38 35 37]
def r21_9:List AI:=[oI 9 12]
def r21_10:List AI:=[oM 39 8,oO 40 (.un .neg (.t 39)),oO 41 (.cvi .i64 (.t 40)),oM 42 9,oM 2 41,oM 3 42]
abbrev c21_0:AC:=(sR 10 r21_10 .ret)
abbrev b21:AC:=(sR 0 r21_0 (.seq (sR 1 r21_1 (.cond (.t 12) (sR 2 r21_2 .ret) .skip)) (sR 3 r21_3 (.seq (sR 4 r21_4 (.cond (.t 19) (sR 5 r21_5 (sR 6 r21_6 .ret)) .skip)) (sR 7 r21_7 (.seq (sR 8 r21_8 (.cond (.t 38) (.reg 9 r21_9) .skip)) c21_0))))))
def pf21:AF:={ nt:=43,res:=[.tmp 2,.tmp 3],body:=b21 }
def T21_1 (prog:Prog)(K:Int→Int→Prop)(n8:Int)(e9:Int):Prop:=
  K (IntKind.i64.wrap (IntKind.u64.wrap (0-n8))) e9
def T21_0 (prog:Prog)(K:Int→Int→Prop)(s0:BS):Prop:=
  ((s0.length:Int)>2000→K 0 4)∧(¬((s0.length:Int)>2000)→∃r'2 r'3,Pus prog 36 [.s s0,.s ([45]:BS)] (.tup [.s r'2,.b r'3])∧((!r'3)=true→∃r'6 r'7,Pus prog 37 [.s s0,.i .u64 10,.i .u64 9223372036854775807] (.tup [.i .u64 r'6,.i .i64 r'7])∧K (IntKind.i64.wrap r'6) r'7)∧((!r'3)=false→∃r'10 r'11,Pus prog 37 [.s r'2,.i .u64 10,.i .u64 9223372036854775808] (.tup [.i .u64 r'10,.i .i64 r'11])∧(r'11=0→(r'10=0→T21_1 prog K r'10 12)∧(¬(r'10=0)→T21_1 prog K r'10 r'11))∧(¬(r'11=0)→T21_1 prog K r'10 r'11)))
section
variable {prog:Prog}{d:Nat}{Q:AE→Sl→St→Prop}{K:Int→Int→Prop}(hQ:H2 (AV.i .i64) (AV.i .i64) 2 3 Q K){σ:Sl}{st:St}
include hQ
variable {n8 e9:Int}{s0:BS}
variable (H8:σ 8=.i .u64 n8)(H0:σ 0=.s s0)(H9:σ 9=.i .i64 e9)
include H8 H9 in
theorem w21_1 (h:T21_1 prog K n8 e9):W prog d c21_0 σ st Q:=
 q_ J (m_ (s_neg H8 (s_cvi J (m_ (m_ (m_ (e_ (rt_ (hQ _ _ _ _ J H9 h)))))))))
include H0 in
theorem w21_0 (h:T21_0 prog K s0):W prog d (sR 0 r21_0 (.seq (sR 1 r21_1 (.cond (.t 12) (sR 2 r21_2 .ret) .skip)) (sR 3 r21_3 (.seq (sR 4 r21_4 (.cond (.t 19) (sR 5 r21_5 (sR 6 r21_6 .ret)) .skip)) (sR 7 r21_7 (.seq (sR 8 r21_8 (.cond (.t 38) (.reg 9 r21_9) .skip)) c21_0)))))) σ st Q:=
 q_ J (m_ (m_ (e_ (sq_ (q_ J (m_ (ln_ H0 (b_ J J gtr_ (e_ (cs_ J (fun g'1=>q_ J (m_ (m_ (e_ (rt_ (hQ _ _ _ _ J J (h.1 g'1))))))) (fun g'1=>sk_ (q_ J (m_ ((h.2 g'1).elim fun r'2 e'16=>e'16.elim fun r'3 e'4=>ca_ (sc H0 J (sc J J sn)) e'4.1 (m_ (x_ J J (x_ J J (m_ (m_ (e_ (sq_ (q_ J (m_ (nt_ J (e_ (cb_ J (fun g'5=>q_ J (m_ ((e'4.2.1 g'5).elim fun r'6 e'9=>e'9.elim fun r'7 e'8=>ca_ (sc H0 J (sc J J (sc J J sn))) e'8.1 (m_ (x_ J J (x_ J J (m_ (m_ (e_ (q_ J (m_ (s_cvi J (m_ (m_ (m_ (e_ (rt_ (hQ _ _ _ _ J J e'8.2)))))))))))))))))) (fun g'5=>sk_ (q_ J (m_ ((e'4.2.2 g'5).elim fun r'10 e'15=>e'15.elim fun r'11 e'12=>ca_ (sc J J (sc J J (sc J J sn))) e'12.1 (m_ (x_ J J (x_ J J (m_ (m_ (e_ (sq_ (q_ J (s_mvI J (b_ J J eql_ (s_mvB J (em_ (g:=35) J (fun g'13=>gy_ J (s_mvI J (gy_ J (b_ J J eql_ (pt_ J J (e_ (cs_ J (fun g'14=>W.reg0 J fun _ _=>m_ (e_ (w21_1 hQ J J ((e'12.2.1 g'13).1 g'14)))) (fun g'14=>sk_ (w21_1 hQ J J ((e'12.2.1 g'13).2 g'14)))))))))) (fun g'13=>nF2 J J (pf_ J J (e_ (cf_ J (sk_ (w21_1 hQ J J (e'12.2.2 g'13)))))))))))))))))))))))))))))))))))))))))))))))))
end
theorem p21 {prog:Prog}(hf:prog.fn 21=some pf21){s0:BS}{K:Int→Int→Prop}(h:T21_0 prog K s0) :∃x0:Int,∃x1:Int,K x0 x1∧Pus prog 21 [.s s0] (.tup [.i .i64 x0,.i .i64 x1]):=
 P2 hf J (w21_0 (h2 J fun _ _=>J) J h)
def r25_0:List AI:=[oC 2 (.s []),oI 3 0]
def r25_1:List AI:=[oM 7 0,oH 8 7,oV 9 .gtr 8 2000]
def r25_2:List AI:=[oC 2 (.s []),oI 3 4]
def r25_3:List AI:=[oM 11 0,oQ 12 39 [11],oM 10 12,oE 13 0 10,oE 14 1 10,oE 15 2 10,oM 4 13,oM 5 14,oM 6 15]
def r25_4:List AI:=[oM 17 6,oZ 18 17,oM 19 18,gF 19 (oM 20 5),gF 19 (oB 21 .neq (.t 20) (.c (.s []))),oR 22 19 21,oM 16 22]
def r25_5:List AI:=[oC 2 (.s []),oI 3 12]
def r25_6:List AI:=[oM 24 4,oH 25 24,oV 26 .gtr 25 400,oM 23 26]
def r25_7:List AI:=[oC 2 (.s []),oI 3 4]
def r25_8:List AI:=[oM 27 4,oM 2 27,oI 3 0]
abbrev b25:AC:=(sR 0 r25_0 (.seq (sR 1 r25_1 (.cond (.t 9) (sR 2 r25_2 .ret) .skip)) (sR 3 r25_3 (.seq (.block 0 (sR 4 r25_4 (.cond (.t 16) (sR 5 r25_5 .ret) (sR 6 r25_6 (.cond (.t 23) (sR 7 r25_7 .ret) .skip))))) (sR 8 r25_8 .ret)))))
def pf25:AF:={ nt:=28,res:=[.tmp 2,.tmp 3],body:=b25 }
def T25_0 (prog:Prog)(K:BS→Int→Prop)(s0:BS):Prop:=
  ((s0.length:Int)>2000→K ([]:BS) 4)∧(¬((s0.length:Int)>2000)→∃r'2:BS,∃r'3 r'4,Pus prog 39 [.s s0] (.tup [.s r'2,.s r'3,.b r'4])∧((!r'4)=true→K ([]:BS) 12)∧((!r'4)=false→(r'3≠([]:BS)→K ([]:BS) 12)∧(¬(r'3≠([]:BS))→((r'2.length:Int)>400→K ([]:BS) 4)∧(¬((r'2.length:Int)>400)→K r'2 0))))
section
variable {prog:Prog}{d:Nat}{Q:AE→Sl→St→Prop}{K:BS→Int→Prop}(hQ:H2 AV.s (AV.i .i64) 2 3 Q K){σ:Sl}{st:St}
include hQ
variable {s0:BS}
variable (H0:σ 0=.s s0)
include H0 in
theorem w25_0 (h:T25_0 prog K s0):W prog d (sR 0 r25_0 (.seq (sR 1 r25_1 (.cond (.t 9) (sR 2 r25_2 .ret) .skip)) (sR 3 r25_3 (.seq (.block 0 (sR 4 r25_4 (.cond (.t 16) (sR 5 r25_5 .ret) (sR 6 r25_6 (.cond (.t 23) (sR 7 r25_7 .ret) .skip))))) (sR 8 r25_8 .ret))))) σ st Q:=
 q_ J (m_ (m_ (e_ (sq_ (q_ J (m_ (ln_ H0 (b_ J J gtr_ (e_ (cs_ J (fun g'1=>q_ J (m_ (m_ (e_ (rt_ (hQ _ _ _ _ J J (h.1 g'1))))))) (fun g'1=>sk_ (q_ J (m_ ((h.2 g'1).elim fun r'2 e'9=>e'9.elim fun r'3 e'10=>e'10.elim fun r'4 e'5=>ca_ (sc H0 J sn) e'5.1 (m_ (x_ J J (x_ J J (x_ J J (m_ (m_ (m_ (e_ (sq_ (bk_ (q_ J (s_mvB J (nt_ J (s_mvB J (eb_ (g:=19) J (fun g'6=>nT2 J J (pt_ J J (s_mvB J (e_ (ct_ J (q_ J (m_ (m_ (e_ (rt_ (hQ _ _ _ _ J J (e'5.2.1 g'6)))))))))))) (fun g'6=>gy_ J (s_mvS J (gy_ J (b_ J J sne_ (pf_ J J (s_mvB J (e_ (cs_ J (fun g'7=>q_ J (m_ (m_ (e_ (rt_ (hQ _ _ _ _ J J ((e'5.2.2 g'6).1 g'7))))))) (fun g'7=>q_ J (m_ (ln_ J (b_ J J gtr_ (m_ (e_ (cs_ J (fun g'8=>q_ J (m_ (m_ (e_ (rt_ (hQ _ _ _ _ J J (((e'5.2.2 g'6).2 g'7).1 g'8))))))) (fun g'8=>sk_ (q_ J (m_ (m_ (m_ (e_ (rt_ (hQ _ _ _ _ J J (((e'5.2.2 g'6).2 g'7).2 g'8)))))))))))))))))))))))))))))))))))))))))))))))))))))
end
theorem p25 {prog:Prog}(hf:prog.fn 25=some pf25){s0:BS}{K:BS→Int→Prop}(h:T25_0 prog K s0) :∃x0:BS,∃x1:Int,K x0 x1∧Pus prog 25 [.s s0] (.tup [.s x0,.i .i64 x1]):=
 P2 hf J (w25_0 (h2 J fun _ _=>J) J h)
def r30_0:List AI:=[oC 4 (.sl .full [])]
def r30_1:List AI:=[oM 7 0,oO 8 (.bslice [z8] 1 [(0,(.c (.i .u8 34)))]),oO 9 (.app 1 1 (.t 7) (.t 8)),oM 0 9]
def r30_2:List AI:=[oM 10 1,oH 11 10,oI 12 0]
def r30_3:List AI:=[oT 13 .lss 12 11]
def r30_4:List AI:=[oM 14 12,oM 5 14]
def r30_5:List AI:=[oM 15 1,oM 16 5,oO 17 (.ixS (.t 15) (.t 16)),oM 6 17]
def r30_6:List AI:=[oM 23 6,oW 24 .eql 23 34,oM 25 24,gF 25 (oM 26 6),gF 25 (oW 27 .eql 26 92),oR 28 25 27,oM 22 28]
def r30_7:List AI:=[oM 29 0,oM 30 6,oO 31 (.bslice [z8] 2 [(0,(.c (.i .u8 92))),(1,(.t 30))]),oO 32 (.app 1 1 (.t 29) (.t 31)),oM 0 32]
def r30_8:List AI:=[oM 34 6,oW 35 .eql 34 10,oM 33 35]
def r30_9:List AI:=[oM 36 0,oO 37 (.bslice [z8] 2 [(0,(.c (.i .u8 92))),(1,(.c (.i .u8 110)))]),oO 38 (.app 1 1 (.t 36) (.t 37)),oM 0 38]
def r30_10:List AI:=[oM 40 6,oW 41 .lss 40 32,oM 42 41,gF 42 (oM 43 6),gF 42 (oW 44 .gtr 43 126),oR 45 42 44,oM 39 45]
def r30_11:List AI:=[oM 46 0,oM 47 6,oB 48 .shr (.t 47) (.c (.i .u64 4)),oO 49 (.ixS (.c (.s [48,49,50,51,52,53,54,55,56,57,97,98,99,100,101,102])) (.t 48)),oM 50 6,oW 51 .and 50 15,oO 52 (.ixS (.c (.s [48,49,50,51,52,53,54,55,56,57,97,98,99,100,101,102])) (.t 51)),oO 53 (.bslice [z8] 4 [(0,(.c (.i .u8 92))),(1,(.c (.i .u8 120))),(2,(.t 49)),(3,(.t 52))]),oO 54 (.app 1 1 (.t 46) (.t 53)),oM 0 54]
def r30_12:List AI:=[oM 18 0,oM 19 6,oO 20 (.bslice [z8] 1 [(0,(.t 19))]),oO 21 (.app 1 1 (.t 18) (.t 20)),oM 0 21]
def r30_13:List AI:=[oV 55 .add 12 1,oM 12 55]
def r30_14:List AI:=[oM 56 0,oO 57 (.bslice [z8] 1 [(0,(.c (.i .u8 34)))]),oO 58 (.app 1 1 (.t 56) (.t 57)),oM 4 58]
abbrev c30_0:AC:=(.reg 13 r30_13)
abbrev l30_0:AC:=(sR 3 r30_3 (.seq (.cond (.t 13) .skip (.exit 0)) (.seq (.block 1 (sR 4 r30_4 (sR 5 r30_5 (.block 2 (sR 7 r30_6 (.cond (.t 22) (.reg 8 r30_7) (sR 9 r30_8 (.cond (.t 33) (.reg 10 r30_9) (sR 11 r30_10 (.cond (.t 39) (.reg 12 r30_11) (.reg 6 r30_12))))))))))) c30_0)))
abbrev c30_2:AC:=(sR 14 r30_14 .ret)
abbrev c30_3:AC:=(sR 1 r30_1 (.seq (sR 2 r30_2 (.block 0 (.loop l30_0))) c30_2))
abbrev b30:AC:=(sR 0 r30_0 c30_3)
def pf30:AF:={ nt:=59,res:=[.tmp 4],body:=b30 }
abbrev H30 (Q:AE→Sl→St→Prop)(K:BS→Prop):Prop:=∀(σ:Sl)(st:St)(o0:Own)(x0:BS),σ 4=.sl o0 (List.map row8 x0)→App st.ow o0 x0.length→K x0→Q .ret σ st
abbrev I30_0 (prog:Prog)(d:Nat)(Q:AE→Sl→St→Prop)(s1:BS)(t11:Int)(b0:BS)(t12:Int):Prop:=
  ∀(σ:Sl)(st:St)(o_b0:Own),σ 0=.sl o_b0 (List.map row8 b0)→σ 1=.s s1→σ 11=.i .i64 t11→σ 12=.i .i64 t12→App st.ow o_b0 b0.length→W prog d (.loop l30_0) σ st (blockW 0 (thenW prog d c30_2 Q))
def T30_3 (prog:Prog)(K:BS→Prop)(P0:BS→Int→Prop)(b0:BS)(s1:BS)(t11:Int)(t12:Int):Prop:=
  P0 b0 (IntKind.i64.wrap (t12+1))
def T30_4 (prog:Prog)(K:BS→Prop)(b0:BS):Prop:=
  Fit (b0.length+[(34:UInt8)].length) 1∧K (b0++[(34:UInt8)])
def T30_2 (prog:Prog)(K:BS→Prop)(P0:BS→Int→Prop)(b0:BS)(s1:BS)(t11:Int)(t12:Int):Prop:=
  (t12<t11→0≤t12∧∃c'2:UInt8,s1[(t12).toNat]?=some c'2∧((c'2.toNat:Int)=34→Fit (b0.length+[(92:UInt8),c'2].length) 1∧T30_3 prog K P0 (b0++[(92:UInt8),c'2]) s1 t11 t12)∧(¬((c'2.toNat:Int)=34)→((c'2.toNat:Int)=92→Fit (b0.length+[(92:UInt8),c'2].length) 1∧T30_3 prog K P0 (b0++[(92:UInt8),c'2]) s1 t11 t12)∧(¬((c'2.toNat:Int)=92)→((c'2.toNat:Int)=10→Fit (b0.length+[(92:UInt8),(110:UInt8)].length) 1∧T30_3 prog K P0 (b0++[(92:UInt8),(110:UInt8)]) s1 t11 t12)∧(¬((c'2.toNat:Int)=10)→((c'2.toNat:Int)<32→0≤(bShr .u8 (c'2.toNat:Int) 4)∧∃c'23,([48,49,50,51,52,53,54,55,56,57,97,98,99,100,101,102]:BS)[(bShr .u8 (c'2.toNat:Int) 4).toNat]?=some c'23∧0≤(bAnd .u8 (c'2.toNat:Int) 15)∧∃c'25,([48,49,50,51,52,53,54,55,56,57,97,98,99,100,101,102]:BS)[(bAnd .u8 (c'2.toNat:Int) 15).toNat]?=some c'25∧Fit (b0.length+[(92:UInt8),(120:UInt8),c'23,c'25].length) 1∧T30_3 prog K P0 (b0++[(92:UInt8),(120:UInt8),c'23,c'25]) s1 t11 t12)∧(¬((c'2.toNat:Int)<32)→((c'2.toNat:Int)>126→0≤(bShr .u8 (c'2.toNat:Int) 4)∧∃c'33,([48,49,50,51,52,53,54,55,56,57,97,98,99,100,101,102]:BS)[(bShr .u8 (c'2.toNat:Int) 4).toNat]?=some c'33∧0≤(bAnd .u8 (c'2.toNat:Int) 15)∧∃c'35,([48,49,50,51,52,53,54,55,56,57,97,98,99,100,101,102]:BS)[(bAnd .u8 (c'2.toNat:Int) 15).toNat]?=some c'35∧Fit (b0.length+[(92:UInt8),(120:UInt8),c'33,c'35].length) 1∧T30_3 prog K P0 (b0++[(92:UInt8),(120:UInt8),c'33,c'35]) s1 t11 t12)∧(¬((c'2.toNat:Int)>126)→Fit (b0.length+[c'2].length) 1∧T30_3 prog K P0 (b0++[c'2]) s1 t11 t12))))))∧(¬(t12<t11)→T30_4 prog K b0)
def T30_1 (prog:Prog)(K:BS→Prop)(b0:BS)(s1:BS):Prop:=
  Fit (b0.length+[(34:UInt8)].length) 1∧∀P0:BS→Int→Prop,(∀(b0:BS)(t12:Int),T30_2 prog K P0 b0 s1 (s1.length:Int) t12→P0 b0 t12)→P0 (b0++[(34:UInt8)]) 0
def T30_0 (prog:Prog)(K:BS→Prop)(b0:BS)(s1:BS):Prop:=
  T30_1 prog K b0 s1
section
variable {prog:Prog}{d:Nat}{Q:AE→Sl→St→Prop}{K:BS→Prop}(hQ:H30 Q K){σ:Sl}{st:St}
include hQ
variable {b0 s1:BS}{t11 t12:Int}{P0:BS→Int→Prop}{o_b0:Own}
variable (kP0 :∀(b0:BS)(t12:Int),P0 b0 t12→I30_0 prog d Q s1 t11 b0 t12)(H0:σ 0=.sl o_b0 (List.map row8 b0))(H1:σ 1=.s s1)(H11:σ 11=.i .i64 t11)(H12:σ 12=.i .i64 t12)(A0:App st.ow o_b0 b0.length)
include kP0 H0 H1 H11 H12 A0 in
theorem w30_3 (h:T30_3 prog K P0 b0 s1 t11 t12):W prog d c30_0 σ st (thenW prog d (.loop l30_0) (blockW 0 (thenW prog d c30_2 Q))):=
 W.reg0 J fun _ _=>b_ H12 J add_ (m_ (e_ (kP0 _ _ h _ _ _ H0 H1 H11 J A0)))
include H0 A0 in
theorem w30_4 (h:T30_4 prog K b0):W prog d c30_2 σ st Q:=
 q_ J (s_mvL H0 (s_bslM (f:=row8) (l:=[(34:UInt8)]) J J (g_cons J J J g_nil) J (s_app row8_len J J J A0 h.1 J (fun o'1 ow'4 a'2 fr'3 on'5=>s_mvL J (e_ (rt_ (hQ _ _ _ _ J a'2 h.2)))))))
include kP0 H0 H1 H11 H12 A0 in
theorem w30_2 (h:T30_2 prog K P0 b0 s1 t11 t12):W prog d l30_0 σ st (thenW prog d (.loop l30_0) (blockW 0 (thenW prog d c30_2 Q))):=
 q_ J (b_ H12 H11 lss_ (e_ (sq_ (cs_ J (fun g'1=>sk_ (sq_ (bk_ (q_ J (m_ (m_ (e_ (q_ J (m_ (m_ ((h.1 g'1).2.elim fun c'2 e'3=>s_ixS H1 H12 (h.1 g'1).1 e'3.1 (m_ (e_ (bk_ (q_ J (s_mvI J (b_ J J eql_ (s_mvB J (em_ (g:=25) J (fun g'4=>nT2 J J (pt_ J J (s_mvB J (e_ (ct_ J (W.reg0 J fun _ _=>s_mvL H0 (m_ (s_bslM (f:=row8) (l:=[(92:UInt8),c'2]) J J (g_cons J J J (g_cons J J J g_nil)) J (s_app row8_len J J J A0 (e'3.2.1 g'4).1 J (fun o'5 ow'8 a'6 fr'7 on'9=>s_mvL J (e_ (w30_3 hQ kP0 J H1 H11 H12 a'6 (e'3.2.1 g'4).2)))))))))))) (fun g'4=>gy_ J (s_mvI J (gy_ J (b_ J J eql_ (pf_ J J (s_mvB J (e_ (cs_ J (fun g'10=>W.reg0 J fun _ _=>s_mvL H0 (m_ (s_bslM (f:=row8) (l:=[(92:UInt8),c'2]) J J (g_cons J J J (g_cons J J J g_nil)) J (s_app row8_len J J J A0 ((e'3.2.2 g'4).1 g'10).1 J (fun o'11 ow'14 a'12 fr'13 on'15=>s_mvL J (e_ (w30_3 hQ kP0 J H1 H11 H12 a'12 ((e'3.2.2 g'4).1 g'10).2))))))) (fun g'10=>q_ J (m_ (b_ J J eql_ (m_ (e_ (cs_ J (fun g'16=>W.reg0 J fun _ _=>s_mvL H0 (s_bslM (f:=row8) (l:=[(92:UInt8),(110:UInt8)]) J J (g_cons J J J (g_cons J J J g_nil)) J (s_app row8_len J J J A0 (((e'3.2.2 g'4).2 g'10).1 g'16).1 J (fun o'17 ow'20 a'18 fr'19 on'21=>s_mvL J (e_ (w30_3 hQ kP0 J H1 H11 H12 a'18 (((e'3.2.2 g'4).2 g'10).1 g'16).2)))))) (fun g'16=>q_ J (s_mvI J (b_ J J lss_ (s_mvB J (em_ (g:=42) J (fun g'22=>nT2 J J (pt_ J J (s_mvB J (e_ (ct_ J (W.reg0 J fun _ _=>s_mvL H0 (m_ (b_ J J (abin_shr' (by decide)) (((((e'3.2.2 g'4).2 g'10).2 g'16).1 g'22).2.elim fun c'23 e'24=>s_ixS J J ((((e'3.2.2 g'4).2 g'10).2 g'16).1 g'22).1 e'24.1 (m_ (b_ J J (abin_and _ _ _) (e'24.2.2.elim fun c'25 e'26=>s_ixS J J e'24.2.1 e'26.1 (s_bslM (f:=row8) (l:=[(92:UInt8),(120:UInt8),c'23,c'25]) J J (g_cons J J J (g_cons J J J (g_cons J J J (g_cons J J J g_nil)))) J (s_app row8_len J J J A0 e'26.2.1 J (fun o'27 ow'30 a'28 fr'29 on'31=>s_mvL J (e_ (w30_3 hQ kP0 J H1 H11 H12 a'28 e'26.2.2))))))))))))))))) (fun g'22=>gy_ J (s_mvI J (gy_ J (b_ J J gtr_ (pf_ J J (s_mvB J (e_ (cs_ J (fun g'32=>W.reg0 J fun _ _=>s_mvL H0 (m_ (b_ J J (abin_shr' (by decide)) ((((((e'3.2.2 g'4).2 g'10).2 g'16).2 g'22).1 g'32).2.elim fun c'33 e'34=>s_ixS J J (((((e'3.2.2 g'4).2 g'10).2 g'16).2 g'22).1 g'32).1 e'34.1 (m_ (b_ J J (abin_and _ _ _) (e'34.2.2.elim fun c'35 e'36=>s_ixS J J e'34.2.1 e'36.1 (s_bslM (f:=row8) (l:=[(92:UInt8),(120:UInt8),c'33,c'35]) J J (g_cons J J J (g_cons J J J (g_cons J J J (g_cons J J J g_nil)))) J (s_app row8_len J J J A0 e'36.2.1 J (fun o'37 ow'40 a'38 fr'39 on'41=>s_mvL J (e_ (w30_3 hQ kP0 J H1 H11 H12 a'38 e'36.2.2)))))))))))) (fun g'32=>W.reg0 J fun _ _=>s_mvL H0 (m_ (s_bslM (f:=row8) (l:=[c'2]) J J (g_cons J J J g_nil) J (s_app row8_len J J J A0 (((((e'3.2.2 g'4).2 g'10).2 g'16).2 g'22).2 g'32).1 J (fun o'42 ow'45 a'43 fr'44 on'46=>s_mvL J (e_ (w30_3 hQ kP0 J H1 H11 H12 a'43 (((((e'3.2.2 g'4).2 g'10).2 g'16).2 g'22).2 g'32).2))))))))))))))))))))))))))))))))))))))))))))))))))))) (fun g'1=>ex_ (w30_4 hQ H0 A0 (h.2 g'1)))))))
include H0 H1 A0 in
theorem w30_1 (h:T30_1 prog K b0 s1):W prog d c30_3 σ st Q:=
 q_ J (s_mvL H0 (s_bslM (f:=row8) (l:=[(34:UInt8)]) J J (g_cons J J J g_nil) J (s_app row8_len J J J A0 h.1 J (fun o'1 ow'4 a'2 fr'3 on'5=>s_mvL J (e_ (sq_ (q_ J (m_ (ln_ H1 (m_ (e_ (bk_ (h.2 (I30_0 prog d Q s1 (s1.length:Int)) (fun _ _ hb _ _ _ H0 H1 H11 H12 A0=>W.loop (w30_2 hQ (fun _ _ x=>x) H0 H1 H11 H12 A0 hb)) _ _ _ J H1 J J a'2)))))))))))))
include H0 H1 A0 in
theorem w30_0 (h:T30_0 prog K b0 s1):W prog d (sR 0 r30_0 c30_3) σ st Q:=
 q_ J (s_mvL (f:=row8) (l:=[]) J (e_ (w30_1 hQ H0 H1 A0 h)))
end
theorem p30 {prog:Prog}(hf:prog.fn 30=some pf30){b0:BS}{s1:BS}{K:BS→Prop}(h:T30_0 prog K b0 s1):PuAK prog 30 (List.map row8 b0) [.s s1] fun rows=>∃x:BS,K x∧rows=List.map row8 x:=
  PuAK.of hf rfl fun d st o ha=>w30_0 (Q:=endW d _ (appK _)) (fun σ st' o' x h2 ha' hk=>⟨.sl o' (List.map row8 x),by simp only [pf30,ares,ares1,h2],_,_,rfl,by simpa using ha',⟨_,hk,rfl⟩⟩) rfl rfl (by simpa using ha) h
def r34_0:List AI:=[oC 4 (.s [])]
def r34_1:List AI:=[oO 5 (.alloc [z8,z8,z8,z8,z8,z8,z8,z8,z8,z8,z8,z8,z8,z8,z8,z8,z8,z8,z8,z8,z8,z8,z8,z8,z8,z8,z8,z8,z8,z8,z8,z8,z8,z8,z8,z8,z8,z8,z8,z8,z8,z8,z8,z8,z8,z8,z8,z8,z8,z8,z8,z8,z8,z8,z8,z8,z8,z8,z8,z8,z8,z8,z8,z8])]
def r34_2:List AI:=[oI 6 64]
def r34_3:List AI:=[oM 7 6,oV 8 .sub 7 1,oM 6 8]
def r34_4:List AI:=[oM 9 6,oM 10 0,oM 11 1,oT 12 .rem 10 11,oO 13 (.ixS (.c (.s [48,49,50,51,52,53,54,55,56,57,97,98,99,100,101,102])) (.t 12)),oO 14 (.iaA 64 1 (.t 5) (.t 9)),oS 1 14 13]
def r34_5:List AI:=[oM 15 0,oM 16 1,oT 17 .quo 15 16,oM 0 17]
def r34_6:List AI:=[oM 18 0,oB 19 .eql (.t 18) (.c (.i .u64 0))]
def r34_7:List AI:=[oM 20 6,oO 21 (.slA 64 1 (.t 5) (some (.t 20)) none),oO 22 (.b2s (.t 21)),oM 4 22]
abbrev l34_0:AC:=(.block 1 (sR 3 r34_3 (sR 4 r34_4 (sR 5 r34_5 (sR 6 r34_6 (.cond (.t 19) (sR 7 r34_7 .ret) .skip))))))
abbrev b34:AC:=(sR 0 r34_0 (sR 1 r34_1 (sR 2 r34_2 (.block 0 (.loop l34_0)))))
def pf34:AF:={ nt:=23,res:=[.tmp 4],body:=b34 }
abbrev I34_0 (prog:Prog)(d:Nat)(Q:AE→Sl→St→Prop)(base1:Int)(n0:Int)(at6:Int)(m4096:List (UInt8)):Prop:=
  ∀(σ:Sl)(st:St)(v4096:Nat),σ 0=.i .u64 n0→σ 1=.i .u64 base1→σ 5=.p (d,4096) v4096 0→σ 6=.i .i64 at6→lk st.bx (d,4096)=some (v4096,List.map c8 m4096)→W prog d (.loop l34_0) σ st (blockW 0 Q)
def T34_1 (prog:Prog)(K:BS→Prop)(P0:Int→Int→List (UInt8)→Prop)(n0:Int)(base1:Int)(at6:Int)(m4096:List (UInt8)):Prop:=
  base1≠0∧0≤((n0:Int).tmod base1)∧∃c'1,([48,49,50,51,52,53,54,55,56,57,97,98,99,100,101,102]:BS)[((n0:Int).tmod base1).toNat]?=some c'1∧0≤(IntKind.i64.wrap (at6-1))∧(IntKind.i64.wrap (at6-1)).toNat<64∧(IntKind.i64.wrap (at6-1)).toNat<m4096.length∧base1≠0∧((IntKind.u64.wrap ((n0:Int).tdiv base1))=0→(m4096.set ((IntKind.i64.wrap (at6-1)).toNat) c'1).length=64∧0≤(IntKind.i64.wrap (at6-1))∧(IntKind.i64.wrap (at6-1)).toNat≤64∧K ((m4096.set ((IntKind.i64.wrap (at6-1)).toNat) c'1).drop (IntKind.i64.wrap (at6-1)).toNat))∧(¬((IntKind.u64.wrap ((n0:Int).tdiv base1))=0)→P0 (IntKind.u64.wrap ((n0:Int).tdiv base1)) (IntKind.i64.wrap (at6-1)) (m4096.set ((IntKind.i64.wrap (at6-1)).toNat) c'1))
def T34_0 (prog:Prog)(K:BS→Prop)(n0:Int)(base1:Int):Prop:=
  ∀P0:Int→Int→List (UInt8)→Prop,(∀(n0:Int)(at6:Int)(m4096:List (UInt8)),T34_1 prog K P0 n0 base1 at6 m4096→P0 n0 at6 m4096)→P0 n0 64 (List.replicate 64 0)
section
variable {prog:Prog}{d:Nat}{Q:AE→Sl→St→Prop}{K:BS→Prop}(hQ:H1 AV.s 4 Q K){σ:Sl}{st:St}
include hQ
variable {n0 base1 at6:Int}{m4096:List (UInt8)}{P0:Int→Int→List (UInt8)→Prop}{v4096:Nat}
variable (kP0 :∀(n0:Int)(at6:Int)(m4096:List (UInt8)),P0 n0 at6 m4096→I34_0 prog d Q base1 n0 at6 m4096)(H0:σ 0=.i .u64 n0)(H1:σ 1=.i .u64 base1)(H5:σ 5=.p (d,4096) v4096 0)(H6:σ 6=.i .i64 at6)(B4096:lk st.bx (d,4096)=some (v4096,List.map c8 m4096))
include kP0 H0 H1 H5 H6 B4096 in
theorem w34_1 (h:T34_1 prog K P0 n0 base1 at6 m4096):W prog d l34_0 σ st (thenW prog d (.loop l34_0) (blockW 0 Q)):=
 bk_ (q_ J (m_ (b_ H6 J sub_ (m_ (e_ (q_ J (m_ (m_ (m_ (b_ H0 H1 (abin_rem' h.1) (h.2.2.elim fun c'1 e'2=>s_ixS J J h.2.1 e'2.1 (s_iaP1 H5 J e'2.2.1 e'2.2.2.1 (s_storeA (f:=c8) (a:=c'1) c8_one J B4096 J e'2.2.2.2.1 (e_ (q_ J (m_ (m_ (b_ H0 H1 (abin_quo' e'2.2.2.2.2.1) (m_ (e_ (q_ J (m_ (b_ J J eql_ (e_ (cs_ J (fun g'3=>q_ J (m_ (s_slA_lo H5 lk_here (e'2.2.2.2.2.2.1 g'3).1 J J (e'2.2.2.2.2.2.1 g'3).2.1 (e'2.2.2.2.2.2.1 g'3).2.2.1 (s_b2s J (m_ (e_ (rt_ (hQ _ _ _ J (e'2.2.2.2.2.2.1 g'3).2.2.2)))))))) (fun g'3=>sk_ (kP0 _ _ _ (e'2.2.2.2.2.2.2 g'3) _ _ _ J H1 H5 J lk_here)))))))))))))))))))))))))))
include H0 H1 in
theorem w34_0 (h:T34_0 prog K n0 base1):W prog d (sR 0 r34_0 (sR 1 r34_1 (sR 2 r34_2 (.block 0 (.loop l34_0))))) σ st Q:=
 q_ J (m_ (e_ (sq_ (W.reg (s_alloc (e_ (q_ J (m_ (e_ (bk_ (h (I34_0 prog d Q base1) (fun _ _ _ hb _ _ _ H0 H1 H5 H6 B4096=>W.loop (w34_1 hQ (fun _ _ _ x=>x) H0 H1 H5 H6 B4096 hb)) _ _ _ H0 H1 J J (show lk _ (d,4096)=some (_,(List.map c8 (List.replicate 64 0):List AV)) from lk_here))))))))))))
end
theorem p34 {prog:Prog}(hf:prog.fn 34=some pf34){n0:Int}{base1:Int}{K:BS→Prop}(h:T34_0 prog K n0 base1) :∃x0:BS,K x0∧Pus prog 34 [.i .u64 n0,.i .u64 base1] (.s x0):=
 P1 hf J (w34_0 (h1 J fun _=>J) J J h)
def r37_0:List AI:=[oC 6 (.i .u64 0),oI 7 0]
def r37_1:List AI:=[oC 8 (.i .u64 0),oC 9 (.b false)]
def r37_2:List AI:=[oM 12 0,oH 13 12,oI 14 0]
def r37_3:List AI:=[oT 15 .lss 14 13]
def r37_4:List AI:=[oM 16 14,oM 10 16]
def r37_5:List AI:=[oM 17 1,oO 18 (.slS (.c (.s [48,49,50,51,52,53,54,55,56,57,97,98,99,100,101,102])) none (some (.t 17))),oM 19 0,oM 20 10,oO 21 (.ixS (.t 19) (.t 20)),oQ 22 43 [18,21],oM 11 22]
def r37_6:List AI:=[oM 23 11,oV 24 .lss 23 0,oM 25 24,gF 25 (oM 26 10),gF 25 (oV 27 .eql 26 1),gF 25 (oM 28 27),gT 28 (oM 29 0),gT 28 (oO 30 (.ixS (.t 29) (.c (.i .i64 0)))),gT 28 (oW 31 .eql 30 48),gF 25 (oA 32 28 31),oR 33 25 32]
def r37_7:List AI:=[oC 6 (.i .u64 0),oI 7 12]
def r37_8:List AI:=[oM 34 9,oM 35 34,gF 35 (oM 36 8),gF 35 (oM 37 2),gF 35 (oM 38 11),gF 35 (oO 39 (.cvi .u64 (.t 38))),gF 35 (oT 40 .sub 37 39),gF 35 (oM 41 1),gF 35 (oT 42 .quo 40 41),gF 35 (oT 43 .gtr 36 42),oR 44 35 43,oM 9 44]
def r37_9:List AI:=[oM 45 9,oZ 46 45]
def r37_10:List AI:=[oM 47 8,oM 48 1,oT 49 .mul 47 48,oM 50 11,oO 51 (.cvi .u64 (.t 50)),oT 52 .add 49 51,oM 8 52]
def r37_11:List AI:=[oV 53 .add 14 1,oM 14 53]
def r37_12:List AI:=[oM 55 0,oB 56 .eql (.t 55) (.c (.s [])),oM 54 56]
def r37_13:List AI:=[oC 6 (.i .u64 0),oI 7 12]
def r37_14:List AI:=[oM 58 9,oM 57 58]
def r37_15:List AI:=[oC 6 (.i .u64 0),oI 7 16]
def r37_16:List AI:=[oM 59 8,oM 6 59,oI 7 0]
abbrev c37_0:AC:=(.reg 11 r37_11)
abbrev l37_0:AC:=(sR 3 r37_3 (.seq (.cond (.t 15) .skip (.exit 0)) (.seq (.block 1 (sR 4 r37_4 (sR 5 r37_5 (.seq (sR 6 r37_6 (.cond (.t 33) (sR 7 r37_7 .ret) .skip)) (sR 8 r37_8 (sR 9 r37_9 (.cond (.t 46) (.reg 10 r37_10) .skip))))))) c37_0)))
abbrev c37_2:AC:=(.seq (.block 2 (sR 12 r37_12 (.cond (.t 54) (sR 13 r37_13 .ret) (sR 14 r37_14 (.cond (.t 57) (sR 15 r37_15 .ret) .skip))))) (sR 16 r37_16 .ret))
abbrev c37_3:AC:=(.seq (sR 2 r37_2 (.block 0 (.loop l37_0))) c37_2)
abbrev c37_4:AC:=(sR 1 r37_1 c37_3)
abbrev b37:AC:=(sR 0 r37_0 c37_4)
def pf37:AF:={ nt:=60,res:=[.tmp 6,.tmp 7],body:=b37 }
abbrev I37_0 (prog:Prog)(d:Nat)(Q:AE→Sl→St→Prop)(s0:BS)(base1:Int)(most2:Int)(t13:Int)(n8:Int)(far9:Bool)(t14:Int):Prop:=
  ∀(σ:Sl)(st:St),σ 0=.s s0→σ 1=.i .u64 base1→σ 2=.i .u64 most2→σ 8=.i .u64 n8→σ 9=.b far9→σ 13=.i .i64 t13→σ 14=.i .i64 t14→W prog d (.loop l37_0) σ st (blockW 0 (thenW prog d c37_2 Q))
def T37_4 (prog:Prog)(K:Int→Int→Prop)(P0:Int→Bool→Int→Prop)(s0:BS)(base1:Int)(most2:Int)(n8:Int)(far9:Bool)(t13:Int)(t14:Int):Prop:=
  P0 n8 far9 (IntKind.i64.wrap (t14+1))
def T37_5 (prog:Prog)(K:Int→Int→Prop)(s0:BS)(n8:Int)(far9:Bool):Prop:=
  (s0=([]:BS)→K 0 12)∧(¬(s0=([]:BS))→(far9=true→K 0 16)∧(far9=false→K n8 0))
def T37_3 (prog:Prog)(K:Int→Int→Prop)(P0:Int→Bool→Int→Prop)(s0:BS)(base1:Int)(most2:Int)(n8:Int)(far9:Bool)(t13:Int)(t14:Int):Prop:=
  (t14<t13→0≤base1∧(base1).toNat≤([48,49,50,51,52,53,54,55,56,57,97,98,99,100,101,102]:BS).length∧0≤t14∧∃c'2:UInt8,s0[(t14).toNat]?=some c'2∧∃r'4,Pus prog 43 [.s (([48,49,50,51,52,53,54,55,56,57,97,98,99,100,101,102]:BS).take (base1).toNat),.i .u8 (c'2.toNat:Int)] (.i .i64 r'4)∧(r'4<0→K 0 12)∧(¬(r'4<0)→(t14=1→∃c'8:UInt8,s0[0]?=some c'8∧((c'8.toNat:Int)=48→K 0 12)∧(¬((c'8.toNat:Int)=48)→(far9=true→T37_4 prog K P0 s0 base1 most2 n8 true t13 t14)∧(far9=false→base1≠0∧(¬(n8>(IntKind.u64.wrap (((IntKind.u64.wrap (most2-(IntKind.u64.wrap r'4))):Int).tdiv base1)))→T37_4 prog K P0 s0 base1 most2 (IntKind.u64.wrap ((IntKind.u64.wrap (n8*base1))+(IntKind.u64.wrap r'4))) (decide (n8>(IntKind.u64.wrap (((IntKind.u64.wrap (most2-(IntKind.u64.wrap r'4))):Int).tdiv base1)))) t13 t14)∧(¬(¬(n8>(IntKind.u64.wrap (((IntKind.u64.wrap (most2-(IntKind.u64.wrap r'4))):Int).tdiv base1))))→T37_4 prog K P0 s0 base1 most2 n8 (decide (n8>(IntKind.u64.wrap (((IntKind.u64.wrap (most2-(IntKind.u64.wrap r'4))):Int).tdiv base1)))) t13 t14))))∧(¬(t14=1)→(far9=true→T37_4 prog K P0 s0 base1 most2 n8 true t13 t14)∧(far9=false→base1≠0∧(¬(n8>(IntKind.u64.wrap (((IntKind.u64.wrap (most2-(IntKind.u64.wrap r'4))):Int).tdiv base1)))→T37_4 prog K P0 s0 base1 most2 (IntKind.u64.wrap ((IntKind.u64.wrap (n8*base1))+(IntKind.u64.wrap r'4))) (decide (n8>(IntKind.u64.wrap (((IntKind.u64.wrap (most2-(IntKind.u64.wrap r'4))):Int).tdiv base1)))) t13 t14)∧(¬(¬(n8>(IntKind.u64.wrap (((IntKind.u64.wrap (most2-(IntKind.u64.wrap r'4))):Int).tdiv base1))))→T37_4 prog K P0 s0 base1 most2 n8 (decide (n8>(IntKind.u64.wrap (((IntKind.u64.wrap (most2-(IntKind.u64.wrap r'4))):Int).tdiv base1)))) t13 t14)))))∧(¬(t14<t13)→T37_5 prog K s0 n8 far9)
def T37_2 (prog:Prog)(K:Int→Int→Prop)(s0:BS)(base1:Int)(most2:Int)(n8:Int)(far9:Bool):Prop:=
  ∀P0:Int→Bool→Int→Prop,(∀(n8:Int)(far9:Bool)(t14:Int),T37_3 prog K P0 s0 base1 most2 n8 far9 (s0.length:Int) t14→P0 n8 far9 t14)→P0 n8 far9 0
def T37_1 (prog:Prog)(K:Int→Int→Prop)(s0:BS)(base1:Int)(most2:Int):Prop:=
  T37_2 prog K s0 base1 most2 0 false
def T37_0 (prog:Prog)(K:Int→Int→Prop)(s0:BS)(base1:Int)(most2:Int):Prop:=
  T37_1 prog K s0 base1 most2
section
variable {prog:Prog}{d:Nat}{Q:AE→Sl→St→Prop}{K:Int→Int→Prop}(hQ:H2 (AV.i .u64) (AV.i .i64) 6 7 Q K){σ:Sl}{st:St}
include hQ
variable {s0:BS}{base1 most2 n8:Int}{far9:Bool}{t13 t14:Int}{P0:Int→Bool→Int→Prop}
variable (kP0 :∀(n8:Int)(far9:Bool)(t14:Int),P0 n8 far9 t14→I37_0 prog d Q s0 base1 most2 t13 n8 far9 t14)(H0:σ 0=.s s0)(H1:σ 1=.i .u64 base1)(H2:σ 2=.i .u64 most2)(H8:σ 8=.i .u64 n8)(H9:σ 9=.b far9)(H13:σ 13=.i .i64 t13)(H14:σ 14=.i .i64 t14)
include kP0 H0 H1 H2 H8 H9 H13 H14 in
theorem w37_4 (h:T37_4 prog K P0 s0 base1 most2 n8 far9 t13 t14):W prog d c37_0 σ st (thenW prog d (.loop l37_0) (blockW 0 (thenW prog d c37_2 Q))):=
 W.reg0 J fun _ _=>b_ H14 J add_ (m_ (e_ (kP0 _ _ _ h _ _ H0 H1 H2 H8 H9 H13 J)))
include H0 H8 H9 in
theorem w37_5 (h:T37_5 prog K s0 n8 far9):W prog d c37_2 σ st Q:=
 sq_ (bk_ (q_ J (m_ (b_ H0 J seq_ (m_ (e_ (cs_ J (fun g'1=>q_ J (m_ (m_ (e_ (rt_ (hQ _ _ _ _ J J (h.1 g'1))))))) (fun g'1=>q_ J (m_ (m_ (e_ (cb_ H9 (fun g'2=>q_ J (m_ (m_ (e_ (rt_ (hQ _ _ _ _ J J ((h.2 g'1).1 g'2))))))) (fun g'2=>sk_ (q_ J (m_ (m_ (m_ (e_ (rt_ (hQ _ _ _ _ H8 J ((h.2 g'1).2 g'2)))))))))))))))))))))
include kP0 H0 H1 H2 H8 H9 H13 H14 in
theorem w37_3 (h:T37_3 prog K P0 s0 base1 most2 n8 far9 t13 t14):W prog d l37_0 σ st (thenW prog d (.loop l37_0) (blockW 0 (thenW prog d c37_2 Q))):=
 q_ J (b_ H14 H13 lss_ (e_ (sq_ (cs_ J (fun g'1=>sk_ (sq_ (bk_ (q_ J (m_ (m_ (e_ (q_ J (m_ (s_slS_hi J H1 (h.1 g'1).1 (h.1 g'1).2.1 (m_ (m_ ((h.1 g'1).2.2.2.elim fun c'2 e'3=>s_ixS H0 H14 (h.1 g'1).2.2.1 e'3.1 (e'3.2.elim fun r'4 e'5=>ca_ (sc J J (sc J J sn)) e'5.1 (m_ (e_ (sq_ (q_ J (s_mvI J (b_ J J lss_ (s_mvB J (em_ (g:=25) J (fun g'6=>nT3 J J J (gt_ J (gt_ J (gt_ J (nT J (pt_ J J (e_ (ct_ J (q_ J (m_ (m_ (e_ (rt_ (hQ _ _ _ _ J J (e'5.2.1 g'6))))))))))))))) (fun g'6=>gy_ J (s_mvI H14 (gy_ J (b_ J J eql_ (gy_ J (s_mvB J (em_ (g:=28) J (fun g'7=>gy_ J (s_mvS H0 (gy_ J (((e'5.2.2 g'6).1 g'7).elim fun c'8 e'9=>s_ixS J J (by decide) e'9.1 (gy_ J (b_ J J eql_ (gy_ J (pt_ J J (pf_ J J (e_ (cs_ J (fun g'10=>q_ J (m_ (m_ (e_ (rt_ (hQ _ _ _ _ J J (e'9.2.1 g'10))))))) (fun g'10=>sk_ (q_ J (s_mvB H9 (s_mvB J (eb_ (g:=35) J (fun g'11=>nT4 J J J J (nT4 J J J J (pt_ J J (s_mvB J (e_ (q_ J (m_ (nt_ J (e_ (cf_ J (sk_ (w37_4 hQ kP0 H0 H1 H2 H8 J H13 H14 ((e'9.2.2 g'10).1 g'11))))))))))))) (fun g'11=>gy_ J (s_mvI H8 (gy_ J (s_mvI H2 (gy_ J (s_mvI J (gy_ J (s_cvi J (gy_ J (b_ J J sub_ (gy_ J (s_mvI H1 (gy_ J (b_ J J (abin_quo' ((e'9.2.2 g'10).2 g'11).1) (gy_ J (b_ J J gtr_ (pf_ J J (s_mvB J (e_ (q_ J (m_ (np_ J (e_ (cs_ J (fun g'12=>W.reg0 J fun _ _=>m_ (m_ (b_ H8 H1 (abin_mul _ _ _) (m_ (s_cvi J (b_ J J add_ (m_ (e_ (w37_4 hQ kP0 H0 H1 H2 J J H13 H14 (((e'9.2.2 g'10).2 g'11).2.1 g'12)))))))))) (fun g'12=>sk_ (w37_4 hQ kP0 H0 H1 H2 H8 J H13 H14 (((e'9.2.2 g'10).2 g'11).2.2 g'12))))))))))))))))))))))))))))))))))))))))))) (fun g'7=>nF3 J J J (gy_ J (pf_ J J (pf_ J J (e_ (cf_ J (sk_ (q_ J (s_mvB H9 (s_mvB J (eb_ (g:=35) J (fun g'13=>nT4 J J J J (nT4 J J J J (pt_ J J (s_mvB J (e_ (q_ J (m_ (nt_ J (e_ (cf_ J (sk_ (w37_4 hQ kP0 H0 H1 H2 H8 J H13 H14 (((e'5.2.2 g'6).2 g'7).1 g'13))))))))))))) (fun g'13=>gy_ J (s_mvI H8 (gy_ J (s_mvI H2 (gy_ J (s_mvI J (gy_ J (s_cvi J (gy_ J (b_ J J sub_ (gy_ J (s_mvI H1 (gy_ J (b_ J J (abin_quo' (((e'5.2.2 g'6).2 g'7).2 g'13).1) (gy_ J (b_ J J gtr_ (pf_ J J (s_mvB J (e_ (q_ J (m_ (np_ J (e_ (cs_ J (fun g'14=>W.reg0 J fun _ _=>m_ (m_ (b_ H8 H1 (abin_mul _ _ _) (m_ (s_cvi J (b_ J J add_ (m_ (e_ (w37_4 hQ kP0 H0 H1 H2 J J H13 H14 ((((e'5.2.2 g'6).2 g'7).2 g'13).2.1 g'14)))))))))) (fun g'14=>sk_ (w37_4 hQ kP0 H0 H1 H2 H8 J H13 H14 ((((e'5.2.2 g'6).2 g'7).2 g'13).2.2 g'14))))))))))))))))))))))))))))))))))))))))))))))))))))))))))))))))))) (fun g'1=>ex_ (w37_5 hQ H0 H8 H9 (h.2 g'1)))))))
include H0 H1 H2 H8 H9 in
theorem w37_2 (h:T37_2 prog K s0 base1 most2 n8 far9):W prog d c37_3 σ st Q:=
 sq_ (q_ J (m_ (ln_ H0 (m_ (e_ (bk_ (h (I37_0 prog d Q s0 base1 most2 (s0.length:Int)) (fun _ _ _ hb _ _ H0 H1 H2 H8 H9 H13 H14=>W.loop (w37_3 hQ (fun _ _ _ x=>x) H0 H1 H2 H8 H9 H13 H14 hb)) _ _ H0 H1 H2 H8 H9 J J)))))))
include H0 H1 H2 in
theorem w37_1 (h:T37_1 prog K s0 base1 most2):W prog d c37_4 σ st Q:=
 q_ J (m_ (m_ (e_ (w37_2 hQ H0 H1 H2 J J h))))
include H0 H1 H2 in
theorem w37_0 (h:T37_0 prog K s0 base1 most2):W prog d (sR 0 r37_0 c37_4) σ st Q:=
 q_ J (m_ (m_ (e_ (w37_1 hQ H0 H1 H2 h))))
end
theorem p37 {prog:Prog}(hf:prog.fn 37=some pf37){s0:BS}{base1:Int}{most2:Int}{K:Int→Int→Prop}(h:T37_0 prog K s0 base1 most2) :∃x0:Int,∃x1:Int,K x0 x1∧Pus prog 37 [.s s0,.i .u64 base1,.i .u64 most2] (.tup [.i .u64 x0,.i .i64 x1]):=
 P2 hf J (w37_0 (h2 J fun _ _=>J) J J J h)
def r39_0:List AI:=[oC 2 (.s []),oC 3 (.s []),oC 4 (.b false)]
def r39_1:List AI:=[oM 11 0,oO 12 (.call false 36 [(.t 11),(.c (.s [34]))]),oM 10 12,oE 13 0 10,oE 14 1 10,oM 5 13,oM 6 14]
def r39_2:List AI:=[oM 15 6,oZ 16 15]
def r39_3:List AI:=[oC 2 (.s []),oC 3 (.s []),oC 4 (.b false)]
def r39_4:List AI:=[oC 7 (.sl .full [])]
def r39_5:List AI:=[oM 17 5,oB 18 .neq (.t 17) (.c (.s []))]
def r39_6:List AI:=[oM 19 5,oO 20 (.ixS (.t 19) (.c (.i .i64 0))),oM 8 20]
def r39_7:List AI:=[oM 21 5,oO 22 (.slS (.t 21) (some (.c (.i .i64 1))) none),oM 5 22]
def r39_8:List AI:=[oM 24 8,oW 25 .eql 24 34,oM 23 25]
def r39_9:List AI:=[oM 26 7,oO 27 (.b2s (.t 26)),oM 28 5,oM 2 27,oM 3 28,oC 4 (.b true)]
def r39_10:List AI:=[oM 30 8,oW 31 .lss 30 32,oM 32 31,gF 32 (oM 33 8),gF 32 (oW 34 .gtr 33 126),oR 35 32 34,oM 29 35]
def r39_11:List AI:=[oC 2 (.s []),oC 3 (.s []),oC 4 (.b false)]
def r39_12:List AI:=[oM 37 8,oW 38 .eql 37 92,oM 36 38]
def r39_13:List AI:=[oC 9 (.b false)]
def r39_14:List AI:=[oM 40 5,oQ 41 45 [40],oM 39 41,oE 42 0 39,oE 43 1 39,oE 44 2 39,oM 8 42,oM 5 43,oM 9 44]
def r39_15:List AI:=[oM 45 9,oZ 46 45]
def r39_16:List AI:=[oC 2 (.s []),oC 3 (.s []),oC 4 (.b false)]
def r39_17:List AI:=[oM 47 7,oM 48 8,oO 49 (.bslice [z8] 1 [(0,(.t 48))]),oO 50 (.app 1 1 (.t 47) (.t 49)),oM 7 50]
def r39_18:List AI:=[oC 2 (.s []),oC 3 (.s []),oC 4 (.b false)]
abbrev c39_0:AC:=(.reg 17 r39_17)
abbrev l39_0:AC:=(.seq (sR 5 r39_5 (.cond (.t 18) .skip (.exit 0))) (.block 1 (sR 6 r39_6 (sR 7 r39_7 (.seq (.block 2 (sR 8 r39_8 (.cond (.t 23) (sR 9 r39_9 .ret) (sR 10 r39_10 (.cond (.t 29) (sR 11 r39_11 .ret) (sR 12 r39_12 (.cond (.t 36) (sR 13 r39_13 (sR 14 r39_14 (sR 15 r39_15 (.cond (.t 46) (sR 16 r39_16 .ret) .skip)))) .skip))))))) c39_0)))))
abbrev c39_2:AC:=(sR 18 r39_18 .ret)
abbrev c39_3:AC:=(sR 1 r39_1 (.seq (sR 2 r39_2 (.cond (.t 16) (sR 3 r39_3 .ret) .skip)) (sR 4 r39_4 (.seq (.block 0 (.loop l39_0)) c39_2))))
abbrev b39:AC:=(sR 0 r39_0 c39_3)
def pf39:AF:={ nt:=51,res:=[.tmp 2,.tmp 3,.tmp 4],body:=b39 }
abbrev H39 (Q:AE→Sl→St→Prop)(K:BS→BS→Bool→Prop):Prop:=∀(σ:Sl)(st:St)(x0:BS)(x1:BS)(x2:Bool),σ 2=.s x0→σ 3=.s x1→σ 4=.b x2→K x0 x1 x2→Q .ret σ st
abbrev I39_0 (prog:Prog)(d:Nat)(Q:AE→Sl→St→Prop)(rest5:BS)(b7:BS):Prop:=
  ∀(σ:Sl)(st:St)(o_b7:Own),σ 5=.s rest5→σ 7=.sl o_b7 (List.map row8 b7)→ApM d st.ow o_b7 b7.length→W prog d (.loop l39_0) σ st (blockW 0 (thenW prog d c39_2 Q))
def T39_3 (prog:Prog)(K:BS→BS→Bool→Prop)(P0:BS→BS→Prop)(rest5:BS)(b7:BS)(c8:Int):Prop:=
  ∃c'1:UInt8,c8=(c'1.toNat:Int)∧Fit (b7.length+[c'1].length) 1∧P0 rest5 (b7++[c'1])
def T39_4 (prog:Prog)(K:BS→BS→Bool→Prop) :Prop:=
  K ([]:BS) ([]:BS) false
def T39_2 (prog:Prog)(K:BS→BS→Bool→Prop)(P0:BS→BS→Prop)(rest5:BS)(b7:BS):Prop:=
  (rest5≠([]:BS)→∃c'2:UInt8,rest5[0]?=some c'2∧1≤rest5.length∧((c'2.toNat:Int)=34→K b7 (rest5.drop 1) true)∧(¬((c'2.toNat:Int)=34)→((c'2.toNat:Int)<32→K ([]:BS) ([]:BS) false)∧(¬((c'2.toNat:Int)<32)→((c'2.toNat:Int)>126→K ([]:BS) ([]:BS) false)∧(¬((c'2.toNat:Int)>126)→((c'2.toNat:Int)=92→∃r'8 r'9 r'10,Pus prog 45 [.s (rest5.drop 1)] (.tup [.i .u8 r'8,.s r'9,.b r'10])∧((!r'10)=true→K ([]:BS) ([]:BS) false)∧((!r'10)=false→T39_3 prog K P0 r'9 b7 r'8))∧(¬((c'2.toNat:Int)=92)→T39_3 prog K P0 (rest5.drop 1) b7 (c'2.toNat:Int))))))∧(¬(rest5≠([]:BS))→T39_4 prog K )
def T39_1 (prog:Prog)(K:BS→BS→Bool→Prop)(s0:BS):Prop:=
  ∃r'1 r'2,Pus prog 36 [.s s0,.s ([34]:BS)] (.tup [.s r'1,.b r'2])∧((!r'2)=true→K ([]:BS) ([]:BS) false)∧((!r'2)=false→∀P0:BS→BS→Prop,(∀(rest5:BS)(b7:BS),T39_2 prog K P0 rest5 b7→P0 rest5 b7)→P0 r'1 ([]:BS))
def T39_0 (prog:Prog)(K:BS→BS→Bool→Prop)(s0:BS):Prop:=
  T39_1 prog K s0
section
variable {prog:Prog}{d:Nat}{Q:AE→Sl→St→Prop}{K:BS→BS→Bool→Prop}(hQ:H39 Q K){σ:Sl}{st:St}
include hQ
variable {rest5 b7:BS}{c8:Int}{P0:BS→BS→Prop}{o_b7:Own}{s0:BS}
variable (kP0 :∀(rest5:BS)(b7:BS),P0 rest5 b7→I39_0 prog d Q rest5 b7)(H0:σ 0=.s s0)(H5:σ 5=.s rest5)(H7:σ 7=.sl o_b7 (List.map row8 b7))(H8:σ 8=.i .u8 c8)(A7:ApM d st.ow o_b7 b7.length)
include kP0 H5 H7 H8 A7 in
theorem w39_3 (h:T39_3 prog K P0 rest5 b7 c8):W prog d c39_0 σ st (blockW 1 (thenW prog d (.loop l39_0) (blockW 0 (thenW prog d c39_2 Q)))):=
 W.reg0 J fun _ _=>s_mvL H7 (m_ (h.elim fun c'1 e'2=>s_bslM (f:=row8) (l:=[c'1]) J J (g_cons (g_u8 H8 e'2.1) J J g_nil) J (s_app row8_len J J J A7.1 e'2.2.1 J (fun o'3 ow'6 a'4 fr'5 on'7=>s_mvL J (e_ (kP0 _ _ e'2.2.2 _ _ _ H5 J (ApM.mk a'4 (Mine.app A7.2 J on'7))))))))
theorem w39_4 (h:T39_4 prog K ):W prog d c39_2 σ st Q:=
 q_ J (m_ (m_ (m_ (e_ (rt_ (hQ _ _ _ _ _ J J J h))))))
include kP0 H5 H7 A7 in
theorem w39_2 (h:T39_2 prog K P0 rest5 b7):W prog d l39_0 σ st (thenW prog d (.loop l39_0) (blockW 0 (thenW prog d c39_2 Q))):=
 sq_ (q_ J (m_ (b_ H5 J sne_ (e_ (cs_ J (fun g'1=>sk_ (bk_ (q_ J (m_ ((h.1 g'1).elim fun c'2 e'3=>s_ixS H5 J (by decide) e'3.1 (m_ (e_ (q_ J (m_ (s_slS_lo H5 J (by decide) e'3.2.1 (m_ (e_ (sq_ (bk_ (q_ J (m_ (b_ J J eql_ (m_ (e_ (cs_ J (fun g'4=>q_ J (s_mvL H7 (s_b2s J (m_ (m_ (m_ (m_ (e_ (rt_ (hQ _ _ _ _ _ J J J (e'3.2.2.1 g'4))))))))))) (fun g'4=>q_ J (s_mvI J (b_ J J lss_ (s_mvB J (em_ (g:=32) J (fun g'5=>nT2 J J (pt_ J J (s_mvB J (e_ (ct_ J (q_ J (m_ (m_ (m_ (e_ (rt_ (hQ _ _ _ _ _ J J J ((e'3.2.2.2 g'4).1 g'5))))))))))))) (fun g'5=>gy_ J (s_mvI J (gy_ J (b_ J J gtr_ (pf_ J J (s_mvB J (e_ (cs_ J (fun g'6=>q_ J (m_ (m_ (m_ (e_ (rt_ (hQ _ _ _ _ _ J J J (((e'3.2.2.2 g'4).2 g'5).1 g'6)))))))) (fun g'6=>q_ J (m_ (b_ J J eql_ (m_ (e_ (cs_ J (fun g'7=>q_ J (m_ (e_ (q_ J (m_ (((((e'3.2.2.2 g'4).2 g'5).2 g'6).1 g'7).elim fun r'8 e'13=>e'13.elim fun r'9 e'14=>e'14.elim fun r'10 e'11=>ca_ (sc J J sn) e'11.1 (m_ (x_ J J (x_ J J (x_ J J (m_ (m_ (m_ (e_ (q_ J (m_ (nt_ J (e_ (cb_ J (fun g'12=>q_ J (m_ (m_ (m_ (e_ (rt_ (hQ _ _ _ _ _ J J J (e'11.2.1 g'12)))))))) (fun g'12=>sk_ (w39_3 hQ kP0 J H7 J A7 (e'11.2.2 g'12)))))))))))))))))))))) (fun g'7=>sk_ (w39_3 hQ kP0 J H7 J A7 ((((e'3.2.2.2 g'4).2 g'5).2 g'6).2 g'7)))))))))))))))))))))))))))))))))))))))))) (fun g'1=>ex_ (w39_4 hQ (h.2 g'1))))))))
include H0 in
theorem w39_1 (h:T39_1 prog K s0):W prog d c39_3 σ st Q:=
 q_ J (m_ (h.elim fun r'1 e'5=>e'5.elim fun r'2 e'3=>ca_ (sc H0 J (sc J J sn)) e'3.1 (m_ (x_ J J (x_ J J (m_ (m_ (e_ (sq_ (q_ J (m_ (nt_ J (e_ (cb_ J (fun g'4=>q_ J (m_ (m_ (m_ (e_ (rt_ (hQ _ _ _ _ _ J J J (e'3.2.1 g'4)))))))) (fun g'4=>sk_ (q_ J (s_mvL (f:=row8) (l:=[]) J (e_ (sq_ (bk_ ((e'3.2.2 g'4) (I39_0 prog d Q ) (fun _ _ hb _ _ _ H5 H7 A7=>W.loop (w39_2 hQ (fun _ _ x=>x) H5 H7 A7 hb)) _ _ _ J J ApM.full)))))))))))))))))))))
include H0 in
theorem w39_0 (h:T39_0 prog K s0):W prog d (sR 0 r39_0 c39_3) σ st Q:=
 q_ J (m_ (m_ (m_ (e_ (w39_1 hQ H0 h)))))
end
theorem p39 {prog:Prog}(hf:prog.fn 39=some pf39){s0:BS}{K:BS→BS→Bool→Prop}(h:T39_0 prog K s0) :∃x0:BS,∃x1:BS,∃x2:Bool,K x0 x1 x2∧Pus prog 39 [.s s0] (.tup [.s x0,.s x1,.b x2]):=by
  obtain ⟨v,hv,x0,x1,x2,hk,rfl⟩:=Pus.of (K:=fun v=>∃x0:BS,∃x1:BS,∃x2:Bool,K x0 x1 x2∧v=.tup [.s x0,.s x1,.b x2]) hf rfl (w39_0 (σ:=sl0 [.s s0]) (fun σ st   x0 x1 x2 H2 H3 H4 hk=>⟨.tup [.s x0,.s x1,.b x2],by simp only [pf39,ares,aresL,H2,H3,H4,ares1,Option.map_some],_,rfl,x0,x1,x2,hk,rfl⟩) rfl h)
  exact ⟨x0,x1,x2,hk,hv⟩
def r45_0:List AI:=[oU 2 0,oC 3 (.s []),oC 4 (.b false)]
def r45_1:List AI:=[oM 8 0,oB 9 .eql (.t 8) (.c (.s []))]
def r45_2:List AI:=[oU 2 0,oC 3 (.s []),oC 4 (.b false)]
def r45_3:List AI:=[oM 10 0,oO 11 (.ixS (.t 10) (.c (.i .i64 0)))]
def r45_4:List AI:=[oW 13 .eql 11 34,oM 12 13]
def r45_5:List AI:=[oW 14 .eql 11 92,oM 12 14]
def r45_6:List AI:=[oM 15 0,oO 16 (.ixS (.t 15) (.c (.i .i64 0))),oM 17 0,oO 18 (.slS (.t 17) (some (.c (.i .i64 1))) none),oM 2 16,oM 3 18,oC 4 (.b true)]
def r45_7:List AI:=[oW 20 .eql 11 110,oM 19 20]
def r45_8:List AI:=[oM 21 0,oO 22 (.slS (.t 21) (some (.c (.i .i64 1))) none),oU 2 10,oM 3 22,oC 4 (.b true)]
def r45_9:List AI:=[oW 24 .eql 11 120,oM 23 24]
def r45_10:List AI:=[oM 25 0,oH 26 25,oV 27 .lss 26 3]
def r45_11:List AI:=[oU 2 0,oC 3 (.s []),oC 4 (.b false)]
def r45_12:List AI:=[oM 28 0,oO 29 (.ixS (.t 28) (.c (.i .i64 1))),oO 30 (.call false 43 [(.c (.s [48,49,50,51,52,53,54,55,56,57,97,98,99,100,101,102])),(.t 29)]),oM 31 0,oO 32 (.ixS (.t 31) (.c (.i .i64 2))),oO 33 (.call false 43 [(.c (.s [48,49,50,51,52,53,54,55,56,57,97,98,99,100,101,102])),(.t 32)]),oM 5 30,oM 6 33]
def r45_13:List AI:=[oM 34 5,oB 35 .mul (.c (.i .i64 16)) (.t 34),oM 36 6,oT 37 .add 35 36,oO 38 (.cvi .u8 (.t 37)),oM 7 38]
def r45_14:List AI:=[oM 39 7,oM 40 0,oO 41 (.slS (.t 40) (some (.c (.i .i64 3))) none),oM 42 5,oV 43 .geq 42 0,oM 44 43,gT 44 (oM 45 6),gT 44 (oV 46 .geq 45 0),oA 47 44 46,oM 48 47,gT 48 (oM 49 7),gT 48 (oW 50 .neq 49 10),oA 51 48 50,oM 52 51,gT 52 (oM 53 7),gT 52 (oW 54 .lss 53 32),gT 52 (oM 55 54),gF 55 (oM 56 7),gF 55 (oW 57 .gtr 56 126),gT 52 (oR 58 55 57),oA 59 52 58,oM 2 39,oM 3 41,oM 4 59]
def r45_15:List AI:=[oU 2 0,oC 3 (.s []),oC 4 (.b false)]
abbrev c45_0:AC:=(.cond (.t 12) (sR 6 r45_6 .ret) (sR 7 r45_7 (.cond (.t 19) (sR 8 r45_8 .ret) (sR 9 r45_9 (.cond (.t 23) (.seq (sR 10 r45_10 (.cond (.t 27) (sR 11 r45_11 .ret) .skip)) (sR 12 r45_12 (sR 13 r45_13 (sR 14 r45_14 .ret)))) .skip)))))
abbrev c45_1:AC:=(.block 0 (.seq (sR 4 r45_4 (.cond (.t 12) .skip (.reg 5 r45_5))) c45_0))
abbrev c45_2:AC:=(.seq (sR 3 r45_3 c45_1) (sR 15 r45_15 .ret))
abbrev c45_3:AC:=(.seq (sR 1 r45_1 (.cond (.t 9) (sR 2 r45_2 .ret) .skip)) c45_2)
abbrev b45:AC:=(sR 0 r45_0 c45_3)
def pf45:AF:={ nt:=60,res:=[.tmp 2,.tmp 3,.tmp 4],body:=b45 }
abbrev H45 (Q:AE→Sl→St→Prop)(K:Int→BS→Bool→Prop):Prop:=∀(σ:Sl)(st:St)(x0:Int)(x1:BS)(x2:Bool),σ 2=.i .u8 x0→σ 3=.s x1→σ 4=.b x2→K x0 x1 x2→Q .ret σ st
def T45_4 (prog:Prog)(K:Int→BS→Bool→Prop)(s0:BS)(t11:Int)(t12:Bool):Prop:=
  (t12=true→∃c'2:UInt8,s0[0]?=some c'2∧1≤s0.length∧K (c'2.toNat:Int) (s0.drop 1) true)∧(t12=false→(t11=110→1≤s0.length∧K 10 (s0.drop 1) true)∧(¬(t11=110)→(t11=120→((s0.length:Int)<3→K 0 ([]:BS) false)∧(¬((s0.length:Int)<3)→∃c'7:UInt8,s0[1]?=some c'7∧∃r'9,Pus prog 43 [.s ([48,49,50,51,52,53,54,55,56,57,97,98,99,100,101,102]:BS),.i .u8 (c'7.toNat:Int)] (.i .i64 r'9)∧∃c'11:UInt8,s0[2]?=some c'11∧∃r'13,Pus prog 43 [.s ([48,49,50,51,52,53,54,55,56,57,97,98,99,100,101,102]:BS),.i .u8 (c'11.toNat:Int)] (.i .i64 r'13)∧3≤s0.length∧(r'9≥0→(r'13≥0→((IntKind.u8.wrap (IntKind.i64.wrap ((IntKind.i64.wrap (16*r'9))+r'13)))≠10→((IntKind.u8.wrap (IntKind.i64.wrap ((IntKind.i64.wrap (16*r'9))+r'13)))<32→K (IntKind.u8.wrap (IntKind.i64.wrap ((IntKind.i64.wrap (16*r'9))+r'13))) (s0.drop 3) true)∧(¬((IntKind.u8.wrap (IntKind.i64.wrap ((IntKind.i64.wrap (16*r'9))+r'13)))<32)→K (IntKind.u8.wrap (IntKind.i64.wrap ((IntKind.i64.wrap (16*r'9))+r'13))) (s0.drop 3) (decide ((IntKind.u8.wrap (IntKind.i64.wrap ((IntKind.i64.wrap (16*r'9))+r'13)))>126))))∧(¬((IntKind.u8.wrap (IntKind.i64.wrap ((IntKind.i64.wrap (16*r'9))+r'13)))≠10)→K (IntKind.u8.wrap (IntKind.i64.wrap ((IntKind.i64.wrap (16*r'9))+r'13))) (s0.drop 3) false))∧(¬(r'13≥0)→K (IntKind.u8.wrap (IntKind.i64.wrap ((IntKind.i64.wrap (16*r'9))+r'13))) (s0.drop 3) false))∧(¬(r'9≥0)→K (IntKind.u8.wrap (IntKind.i64.wrap ((IntKind.i64.wrap (16*r'9))+r'13))) (s0.drop 3) false)))∧(¬(t11=120)→K 0 ([]:BS) false)))
def T45_3 (prog:Prog)(K:Int→BS→Bool→Prop)(s0:BS)(t11:Int):Prop:=
  (t11=34→T45_4 prog K s0 t11 (decide (t11=34)))∧(¬(t11=34)→T45_4 prog K s0 t11 (decide (t11=92)))
def T45_2 (prog:Prog)(K:Int→BS→Bool→Prop)(s0:BS):Prop:=
  ∃c'1:UInt8,s0[0]?=some c'1∧T45_3 prog K s0 (c'1.toNat:Int)
def T45_1 (prog:Prog)(K:Int→BS→Bool→Prop)(s0:BS):Prop:=
  (s0=([]:BS)→K 0 ([]:BS) false)∧(¬(s0=([]:BS))→T45_2 prog K s0)
def T45_0 (prog:Prog)(K:Int→BS→Bool→Prop)(s0:BS):Prop:=
  T45_1 prog K s0
section
variable {prog:Prog}{d:Nat}{Q:AE→Sl→St→Prop}{K:Int→BS→Bool→Prop}(hQ:H45 Q K){σ:Sl}{st:St}
include hQ
variable {s0:BS}{t11:Int}{t12:Bool}
variable (H0:σ 0=.s s0)(H11:σ 11=.i .u8 t11)(H12:σ 12=.b t12)
include H0 H11 H12 in
theorem w45_4 (h:T45_4 prog K s0 t11 t12):W prog d c45_0 σ st (blockW 0 (thenW prog d (sR 15 r45_15 .ret) Q)):=
 cb_ H12 (fun g'1=>q_ J (m_ ((h.1 g'1).elim fun c'2 e'3=>s_ixS H0 J (by decide) e'3.1 (m_ (s_slS_lo H0 J (by decide) e'3.2.1 (m_ (m_ (m_ (e_ (rt_ (hQ _ _ _ _ _ J J J e'3.2.2))))))))))) (fun g'1=>q_ J (b_ H11 J eql_ (m_ (e_ (cs_ J (fun g'4=>q_ J (m_ (s_slS_lo H0 J (by decide) ((h.2 g'1).1 g'4).1 (m_ (m_ (m_ (e_ (rt_ (hQ _ _ _ _ _ J J J ((h.2 g'1).1 g'4).2))))))))) (fun g'4=>q_ J (b_ H11 J eql_ (m_ (e_ (cs_ J (fun g'5=>sq_ (q_ J (m_ (ln_ H0 (b_ J J lss_ (e_ (cs_ J (fun g'6=>q_ J (m_ (m_ (m_ (e_ (rt_ (hQ _ _ _ _ _ J J J ((((h.2 g'1).2 g'4).1 g'5).1 g'6)))))))) (fun g'6=>sk_ (q_ J (m_ (((((h.2 g'1).2 g'4).1 g'5).2 g'6).elim fun c'7 e'8=>s_ixS H0 J (by decide) e'8.1 (e'8.2.elim fun r'9 e'10=>ca_ (sc J J (sc J J sn)) e'10.1 (m_ (e'10.2.elim fun c'11 e'12=>s_ixS H0 J (by decide) e'12.1 (e'12.2.elim fun r'13 e'14=>ca_ (sc J J (sc J J sn)) e'14.1 (m_ (m_ (e_ (q_ J (m_ (b_ J J (abin_mul _ _ _) (m_ (b_ J J add_ (s_cvi J (m_ (e_ (q_ J (s_mvI J (s_mvS H0 (s_slS_lo J J (by decide) e'14.2.1 (s_mvI J (b_ J J geq_ (s_mvB J (em_ (g:=44) J (fun g'15=>gy_ J (s_mvI J (gy_ J (b_ J J geq_ (pt_ J J (s_mvB J (em_ (g:=48) J (fun g'16=>gy_ J (s_mvI J (gy_ J (b_ J J neq_ (pt_ J J (s_mvB J (em_ (g:=52) J (fun g'17=>gy_ J (s_mvI J (gy_ J (b_ J J lss_ (gy_ J (s_mvB J (em_ (g:=55) J (fun g'18=>nT2 J J (gy_ J (pt_ J J (pt_ J J (s_mvI J (s_mvS J (s_mvB J (e_ (rt_ (hQ _ _ _ _ _ J J J ((((e'14.2.2.1 g'15).1 g'16).1 g'17).1 g'18))))))))))) (fun g'18=>gy_ J (s_mvI J (gy_ J (b_ J J gtr_ (gy_ J (pf_ J J (pt_ J J (s_mvI J (s_mvS J (s_mvB J (e_ (rt_ (hQ _ _ _ _ _ J J J ((((e'14.2.2.1 g'15).1 g'16).1 g'17).2 g'18))))))))))))))))))))) (fun g'17=>nF3 J J J (gt_ J (gt_ J (nF J (pf_ J J (s_mvI J (s_mvS J (s_mvB J (e_ (rt_ (hQ _ _ _ _ _ J J J (((e'14.2.2.1 g'15).1 g'16).2 g'17))))))))))))))))))) (fun g'16=>nF2 J J (pf_ J J (s_mvB J (nF3 J J J (gt_ J (gt_ J (nF J (pf_ J J (s_mvI J (s_mvS J (s_mvB J (e_ (rt_ (hQ _ _ _ _ _ J J J ((e'14.2.2.1 g'15).2 g'16)))))))))))))))))))))) (fun g'15=>nF2 J J (pf_ J J (s_mvB J (nF2 J J (pf_ J J (s_mvB J (nF3 J J J (gt_ J (gt_ J (nF J (pf_ J J (s_mvI J (s_mvS J (s_mvB J (e_ (rt_ (hQ _ _ _ _ _ J J J (e'14.2.2.2 g'15)))))))))))))))))))))))))))))))))))))))))))))))))))) (fun g'5=>sk_ (q_ J (m_ (m_ (m_ (e_ (rt_ (hQ _ _ _ _ _ J J J (((h.2 g'1).2 g'4).2 g'5)))))))))))))))))))
include H0 H11 in
theorem w45_3 (h:T45_3 prog K s0 t11):W prog d c45_1 σ st (thenW prog d (sR 15 r45_15 .ret) Q):=
 bk_ (sq_ (q_ J (b_ H11 J eql_ (m_ (e_ (cs_ J (fun g'1=>sk_ (w45_4 hQ H0 H11 J (h.1 g'1))) (fun g'1=>W.reg0 J fun _ _=>b_ H11 J eql_ (m_ (e_ (w45_4 hQ H0 H11 J (h.2 g'1)))))))))))
include H0 in
theorem w45_2 (h:T45_2 prog K s0):W prog d c45_2 σ st Q:=
 sq_ (q_ J (m_ (h.elim fun c'1 e'2=>s_ixS H0 J (by decide) e'2.1 (e_ (w45_3 hQ H0 J e'2.2)))))
include H0 in
theorem w45_1 (h:T45_1 prog K s0):W prog d c45_3 σ st Q:=
 sq_ (q_ J (m_ (b_ H0 J seq_ (e_ (cs_ J (fun g'1=>q_ J (m_ (m_ (m_ (e_ (rt_ (hQ _ _ _ _ _ J J J (h.1 g'1)))))))) (fun g'1=>sk_ (w45_2 hQ H0 (h.2 g'1))))))))
include H0 in
theorem w45_0 (h:T45_0 prog K s0):W prog d (sR 0 r45_0 c45_3) σ st Q:=
 q_ J (m_ (m_ (m_ (e_ (w45_1 hQ H0 h)))))
end
theorem p45 {prog:Prog}(hf:prog.fn 45=some pf45){s0:BS}{K:Int→BS→Bool→Prop}(h:T45_0 prog K s0) :∃x0:Int,∃x1:BS,∃x2:Bool,K x0 x1 x2∧Pus prog 45 [.s s0] (.tup [.i .u8 x0,.s x1,.b x2]):=by
  obtain ⟨v,hv,x0,x1,x2,hk,rfl⟩:=Pus.of (K:=fun v=>∃x0:Int,∃x1:BS,∃x2:Bool,K x0 x1 x2∧v=.tup [.i .u8 x0,.s x1,.b x2]) hf rfl (w45_0 (σ:=sl0 [.s s0]) (fun σ st   x0 x1 x2 H2 H3 H4 hk=>⟨.tup [.i .u8 x0,.s x1,.b x2],by simp only [pf45,ares,aresL,H2,H3,H4,ares1,Option.map_some],_,rfl,x0,x1,x2,hk,rfl⟩) rfl h)
  exact ⟨x0,x1,x2,hk,hv⟩
end Go.AM

/- Parts of the proof. -/
namespace Go.AM
open Go
set_option linter.unusedVariables false
set_option linter.unusedSimpArgs false
set_option maxRecDepth 4000
attribute [local irreducible] WO fillCells fillRows
def r16_0:List AI:=[oC 2 (.s [])]
def r16_1:List AI:=[oM 3 0,oV 4 .geq 3 0]
def r16_2:List AI:=[oM 5 0,oO 6 (.cvi .u64 (.t 5)),oO 7 (.call false 35 [(.t 6),(.c (.i .u64 10))]),oM 2 7]
def r16_3:List AI:=[oM 8 0,oV 9 .add 8 1,oO 10 (.un .neg (.t 9)),oO 11 (.cvi .u64 (.t 10)),oB 12 .add (.t 11) (.c (.i .u64 1)),oO 13 (.call false 35 [(.t 12),(.c (.i .u64 10))]),oB 14 .add (.c (.s [45])) (.t 13),oM 2 14]
abbrev b16:AC:=(sR 0 r16_0 (.seq (sR 1 r16_1 (.cond (.t 4) (sR 2 r16_2 .ret) .skip)) (sR 3 r16_3 .ret)))
def pf16:AF:={ nt:=15,res:=[.tmp 2],body:=b16 }
def T16_0 (prog:Prog)(K:BS→Prop)(n0:Int):Prop:=
  (n0≥0→∃r'2,Pus prog 35 [.i .u64 (IntKind.u64.wrap n0),.i .u64 10] (.s r'2)∧K r'2)∧(¬(n0≥0)→∃r'4:BS,Pus prog 35 [.i .u64 (IntKind.u64.wrap ((IntKind.u64.wrap (IntKind.i64.wrap (0-(IntKind.i64.wrap (n0+1)))))+1)),.i .u64 10] (.s r'4)∧([45]:BS).length+r'4.length≤maxStr∧K (([45]:BS)++r'4))
section
variable {prog:Prog}{d:Nat}{Q:AE→Sl→St→Prop}{K:BS→Prop}(hQ:H1 AV.s 2 Q K){σ:Sl}{st:St}
include hQ
variable {n0:Int}
variable (H0:σ 0=.i .i64 n0)
include H0 in
theorem w16_0 (h:T16_0 prog K n0):W prog d (sR 0 r16_0 (.seq (sR 1 r16_1 (.cond (.t 4) (sR 2 r16_2 .ret) .skip)) (sR 3 r16_3 .ret))) σ st Q:=
 q_ J (m_ (e_ (sq_ (q_ J (m_ (b_ H0 J geq_ (e_ (cs_ J (fun g'1=>q_ J (m_ (s_cvi H0 ((h.1 g'1).elim fun r'2 e'3=>ca_ (sc J J (sc J J sn)) e'3.1 (m_ (e_ (rt_ (hQ _ _ _ J e'3.2)))))))) (fun g'1=>sk_ (q_ J (m_ (b_ H0 J add_ (s_neg J (s_cvi J (b_ J J add_ ((h.2 g'1).elim fun r'4 e'5=>ca_ (sc J J (sc J J sn)) e'5.1 (b_ J J (abin_cat' e'5.2.1) (m_ (e_ (rt_ (hQ _ _ _ J e'5.2.2)))))))))))))))))))))
end
theorem p16 {prog:Prog}(hf:prog.fn 16=some pf16){n0:Int}{K:BS→Prop}(h:T16_0 prog K n0) :∃x0:BS,K x0∧Pus prog 16 [.i .i64 n0] (.s x0):=
 P1 hf J (w16_0 (h1 J fun _=>J) J h)
abbrev H22 (Q:AE→Sl→St→Prop)(K:Int→Int→Prop):Prop:=∀(σ:Sl)(st:St)(x0:Int)(x1:Int),σ 2=.i .i64 x0→σ 3=.i .i64 x1→K x0 x1→Q .ret σ st
section
variable {prog:Prog}{d:Nat}{Q:AE→Sl→St→Prop}{K:Int→Int→Prop}(hQ:H22 Q K){σ:Sl}{st:St}
include hQ
end
abbrev H26 (Q:AE→Sl→St→Prop)(K:BS→Int→Prop):Prop:=∀(σ:Sl)(st:St)(x0:BS)(x1:Int),σ 2=.s x0→σ 3=.i .i64 x1→K x0 x1→Q .ret σ st
section
variable {prog:Prog}{d:Nat}{Q:AE→Sl→St→Prop}{K:BS→Int→Prop}(hQ:H26 Q K){σ:Sl}{st:St}
include hQ
end
def r29_0:List AI:=[oC 4 (.b false)]
def r29_1:List AI:=[oM 6 0,oJ 7 6,oM 8 1,oJ 9 8,oT 10 .neq 7 9]
def r29_2:List AI:=[oC 4 (.b false)]
def r29_3:List AI:=[oI 5 0]
def r29_4:List AI:=[oM 11 5,oM 12 0,oJ 13 12,oT 14 .lss 11 13]
def r29_5:List AI:=[oM 17 0,oM 18 5,oX 19 1 17 18,oL 20 19,oM 21 1,oM 22 5,oX 23 1 21 22,oL 24 23,oT 25 .neq 20 24]
def r29_6:List AI:=[oC 4 (.b false)]
def r29_7:List AI:=[oM 15 5,oV 16 .add 15 1,oM 5 16]
def r29_8:List AI:=[oC 4 (.b true)]
abbrev l29_0:AC:=(.seq (sR 4 r29_4 (.cond (.t 14) .skip (.exit 0))) (.seq (.block 1 (sR 6 r29_5 (.cond (.t 25) (sR 7 r29_6 .ret) .skip))) (.reg 5 r29_7)))
abbrev c29_1:AC:=(sR 8 r29_8 .ret)
abbrev b29:AC:=(sR 0 r29_0 (.seq (sR 1 r29_1 (.cond (.t 10) (sR 2 r29_2 .ret) .skip)) (.seq (sR 3 r29_3 (.block 0 (.loop l29_0))) c29_1)))
def pf29:AF:={ nt:=26,res:=[.tmp 4],body:=b29 }
abbrev I29_0 (prog:Prog)(d:Nat)(Q:AE→Sl→St→Prop)(a0:LB)(b1:LB)(i5:Int):Prop:=
  ∀(σ:Sl)(st:St) (o_a0 o_b1:Own),σ 0=.sl o_a0 (List.map rowS a0)→σ 1=.sl o_b1 (List.map rowS b1)→σ 5=.i .i64 i5→W prog d (.loop l29_0) σ st (blockW 0 (thenW prog d c29_1 Q))
def T29_2 (prog:Prog)(K:Bool→Prop) :Prop:=
  K true
def T29_1 (prog:Prog)(K:Bool→Prop)(P0:Int→Prop)(a0:LB)(b1:LB)(i5:Int):Prop:=
  (i5<(a0.length:Int)→0≤i5∧∃c'2,a0[(i5).toNat]?=some c'2∧0≤i5∧∃c'4,b1[(i5).toNat]?=some c'4∧(c'2≠c'4→K false)∧(¬(c'2≠c'4)→P0 (IntKind.i64.wrap (i5+1))))∧(¬(i5<(a0.length:Int))→T29_2 prog K )
def T29_0 (prog:Prog)(K:Bool→Prop)(a0:LB)(b1:LB):Prop:=
  ((a0.length:Int)≠(b1.length:Int)→K false)∧(¬((a0.length:Int)≠(b1.length:Int))→∀P0:Int→Prop,(∀(i5:Int),T29_1 prog K P0 a0 b1 i5→P0 i5)→P0 0)
section
variable {prog:Prog}{d:Nat}{Q:AE→Sl→St→Prop}{K:Bool→Prop}(hQ:H1 AV.b 4 Q K){σ:Sl}{st:St}
include hQ
variable {a0 b1:LB}{i5:Int}{P0:Int→Prop}{o_a0 o_b1:Own}
variable (kP0 :∀(i5:Int),P0 i5→I29_0 prog d Q a0 b1 i5)(H0:σ 0=.sl o_a0 (List.map rowS a0))(H1:σ 1=.sl o_b1 (List.map rowS b1))(H5:σ 5=.i .i64 i5)
theorem w29_2 (h:T29_2 prog K ):W prog d c29_1 σ st Q:=
 q_ J (m_ (e_ (rt_ (hQ _ _ _ J h))))
include kP0 H0 H1 H5 in
theorem w29_1 (h:T29_1 prog K P0 a0 b1 i5):W prog d l29_0 σ st (thenW prog d (.loop l29_0) (blockW 0 (thenW prog d c29_1 Q))):=
 sq_ (q_ J (m_ (s_mvL H0 (ll_ J (b_ H5 J lss_ (e_ (cs_ J (fun g'1=>sk_ (sq_ (bk_ (q_ J (s_mvL H0 (m_ ((h.1 g'1).2.elim fun c'2 e'3=>ia_ J H5 (h.1 g'1).1 e'3.1 J J (lf_ J J J (s_mvL H1 (m_ (e'3.2.2.elim fun c'4 e'5=>ia_ J H5 e'3.2.1 e'5.1 J J (lf_ J J J (b_ J J sne_ (e_ (cs_ J (fun g'6=>q_ J (m_ (e_ (rt_ (hQ _ _ _ J (e'5.2.1 g'6)))))) (fun g'6=>sk_ (W.reg0 J fun _ _=>m_ (b_ H5 J add_ (m_ (e_ (kP0 _ (e'5.2.2 g'6) _ _ _ _ H0 H1 J))))))))))))))))))))) (fun g'1=>ex_ (w29_2 hQ (h.2 g'1))))))))))
include H0 H1 in
theorem w29_0 (h:T29_0 prog K a0 b1):W prog d (sR 0 r29_0 (.seq (sR 1 r29_1 (.cond (.t 10) (sR 2 r29_2 .ret) .skip)) (.seq (sR 3 r29_3 (.block 0 (.loop l29_0))) c29_1))) σ st Q:=
 q_ J (m_ (e_ (sq_ (q_ J (s_mvL H0 (ll_ J (s_mvL H1 (ll_ J (b_ J J neq_ (e_ (cs_ J (fun g'1=>q_ J (m_ (e_ (rt_ (hQ _ _ _ J (h.1 g'1)))))) (fun g'1=>sk_ (sq_ (q_ J (m_ (e_ (bk_ ((h.2 g'1) (I29_0 prog d Q a0 b1) (fun _ hb _ _ _ _ H0 H1 H5=>W.loop (w29_1 hQ (fun _ x=>x) H0 H1 H5 hb)) _ _ _ _ H0 H1 J))))))))))))))))))
end
theorem p29 {prog:Prog}(hf:prog.fn 29=some pf29){a0:LB}{b1:LB}{K:Bool→Prop}(h:T29_0 prog K a0 b1) :∃x0:Bool,K x0∧Pus prog 29 [.sl .ext (List.map rowS a0),.sl .ext (List.map rowS b1)] (.b x0):=
 P1 hf J (w29_0 (h1 J fun _=>J) J J h)
abbrev H31 (Q:AE→Sl→St→Prop)(K:BS→Prop):Prop:=∀(σ:Sl)(st:St)(x0:BS),σ 2=.s x0→K x0→Q .ret σ st
section
variable {prog:Prog}{d:Nat}{Q:AE→Sl→St→Prop}{K:BS→Prop}(hQ:H31 Q K){σ:Sl}{st:St}
include hQ
end
def r35_0:List AI:=[oC 4 (.s [])]
def r35_1:List AI:=[oC 5 (.s [])]
def r35_2:List AI:=[oM 6 0,oM 7 1,oT 8 .geq 6 7]
def r35_3:List AI:=[oM 9 0,oM 10 1,oT 11 .rem 9 10,oM 12 0,oM 13 1,oT 14 .rem 12 13,oB 15 .add (.t 14) (.c (.i .u64 1)),oO 16 (.slS (.c (.s [48,49,50,51,52,53,54,55,56,57,97,98,99,100,101,102])) (some (.t 11)) (some (.t 15))),oM 17 5,oT 18 .add 16 17,oM 5 18]
def r35_4:List AI:=[oM 19 0,oM 20 1,oT 21 .quo 19 20,oM 0 21]
def r35_5:List AI:=[oM 22 0,oM 23 0,oB 24 .add (.t 23) (.c (.i .u64 1)),oO 25 (.slS (.c (.s [48,49,50,51,52,53,54,55,56,57,97,98,99,100,101,102])) (some (.t 22)) (some (.t 24))),oM 26 5,oT 27 .add 25 26,oM 4 27]
abbrev l35_0:AC:=(.seq (sR 2 r35_2 (.cond (.t 8) .skip (.exit 0))) (.block 1 (sR 3 r35_3 (.reg 4 r35_4))))
abbrev c35_1:AC:=(sR 5 r35_5 .ret)
abbrev b35:AC:=(sR 0 r35_0 (sR 1 r35_1 (.seq (.block 0 (.loop l35_0)) c35_1)))
def pf35:AF:={ nt:=28,res:=[.tmp 4],body:=b35 }
abbrev I35_0 (prog:Prog)(d:Nat)(Q:AE→Sl→St→Prop)(base1:Int)(n0:Int)(s5:BS):Prop:=
  ∀(σ:Sl)(st:St),σ 0=.i .u64 n0→σ 1=.i .u64 base1→σ 5=.s s5→W prog d (.loop l35_0) σ st (blockW 0 (thenW prog d c35_1 Q))
def T35_2 (prog:Prog)(K:BS→Prop)(n0:Int)(s5:BS):Prop:=
  0≤n0∧n0≤(IntKind.u64.wrap (n0+1))∧(IntKind.u64.wrap (n0+1)).toNat≤([48,49,50,51,52,53,54,55,56,57,97,98,99,100,101,102]:BS).length∧((([48,49,50,51,52,53,54,55,56,57,97,98,99,100,101,102]:BS).drop (n0).toNat).take ((IntKind.u64.wrap (n0+1)).toNat-(n0).toNat)).length+s5.length≤maxStr∧K (((([48,49,50,51,52,53,54,55,56,57,97,98,99,100,101,102]:BS).drop (n0).toNat).take ((IntKind.u64.wrap (n0+1)).toNat-(n0).toNat))++s5)
def T35_1 (prog:Prog)(K:BS→Prop)(P0:Int→BS→Prop)(n0:Int)(base1:Int)(s5:BS):Prop:=
  (n0≥base1→base1≠0∧base1≠0∧0≤((n0:Int).tmod base1)∧((n0:Int).tmod base1)≤(IntKind.u64.wrap (((n0:Int).tmod base1)+1))∧(IntKind.u64.wrap (((n0:Int).tmod base1)+1)).toNat≤([48,49,50,51,52,53,54,55,56,57,97,98,99,100,101,102]:BS).length∧((([48,49,50,51,52,53,54,55,56,57,97,98,99,100,101,102]:BS).drop ((n0:Int).tmod base1).toNat).take ((IntKind.u64.wrap (((n0:Int).tmod base1)+1)).toNat-((n0:Int).tmod base1).toNat)).length+s5.length≤maxStr∧base1≠0∧P0 (IntKind.u64.wrap ((n0:Int).tdiv base1)) (((([48,49,50,51,52,53,54,55,56,57,97,98,99,100,101,102]:BS).drop ((n0:Int).tmod base1).toNat).take ((IntKind.u64.wrap (((n0:Int).tmod base1)+1)).toNat-((n0:Int).tmod base1).toNat))++s5))∧(¬(n0≥base1)→T35_2 prog K n0 s5)
def T35_0 (prog:Prog)(K:BS→Prop)(n0:Int)(base1:Int):Prop:=
  ∀P0:Int→BS→Prop,(∀(n0:Int)(s5:BS),T35_1 prog K P0 n0 base1 s5→P0 n0 s5)→P0 n0 ([]:BS)
section
variable {prog:Prog}{d:Nat}{Q:AE→Sl→St→Prop}{K:BS→Prop}(hQ:H1 AV.s 4 Q K){σ:Sl}{st:St}
include hQ
variable {n0:Int}{s5:BS}{base1:Int}{P0:Int→BS→Prop}
variable (kP0 :∀(n0:Int)(s5:BS),P0 n0 s5→I35_0 prog d Q base1 n0 s5)(H0:σ 0=.i .u64 n0)(H1:σ 1=.i .u64 base1)(H5:σ 5=.s s5)
include H0 H5 in
theorem w35_2 (h:T35_2 prog K n0 s5):W prog d c35_1 σ st Q:=
 q_ J (m_ (m_ (b_ H0 J add_ (s_slS J H0 J h.1 h.2.1 h.2.2.1 (m_ (b_ J H5 (abin_cat' h.2.2.2.1) (m_ (e_ (rt_ (hQ _ _ _ J h.2.2.2.2))))))))))
include kP0 H0 H1 H5 in
theorem w35_1 (h:T35_1 prog K P0 n0 base1 s5):W prog d l35_0 σ st (thenW prog d (.loop l35_0) (blockW 0 (thenW prog d c35_1 Q))):=
 sq_ (q_ J (m_ (m_ (b_ H0 H1 geq_ (e_ (cs_ J (fun g'1=>sk_ (bk_ (q_ J (m_ (m_ (b_ H0 H1 (abin_rem' (h.1 g'1).1) (m_ (m_ (b_ H0 H1 (abin_rem' (h.1 g'1).2.1) (b_ J J add_ (s_slS J J J (h.1 g'1).2.2.1 (h.1 g'1).2.2.2.1 (h.1 g'1).2.2.2.2.1 (m_ (b_ J H5 (abin_cat' (h.1 g'1).2.2.2.2.2.1) (m_ (e_ (W.reg0 J fun _ _=>m_ (m_ (b_ H0 H1 (abin_quo' (h.1 g'1).2.2.2.2.2.2.1) (m_ (e_ (kP0 _ _ (h.1 g'1).2.2.2.2.2.2.2 _ _ J H1 J))))))))))))))))))))) (fun g'1=>ex_ (w35_2 hQ H0 H5 (h.2 g'1)))))))))
include H0 H1 in
theorem w35_0 (h:T35_0 prog K n0 base1):W prog d (sR 0 r35_0 (sR 1 r35_1 (.seq (.block 0 (.loop l35_0)) c35_1))) σ st Q:=
 q_ J (m_ (e_ (q_ J (m_ (e_ (sq_ (bk_ (h (I35_0 prog d Q base1) (fun _ _ hb _ _ H0 H1 H5=>W.loop (w35_1 hQ (fun _ _ x=>x) H0 H1 H5 hb)) _ _ H0 H1 J))))))))
end
theorem p35 {prog:Prog}(hf:prog.fn 35=some pf35){n0:Int}{base1:Int}{K:BS→Prop}(h:T35_0 prog K n0 base1) :∃x0:BS,K x0∧Pus prog 35 [.i .u64 n0,.i .u64 base1] (.s x0):=
 P1 hf J (w35_0 (h1 J fun _=>J) J J h)
abbrev H38 (Q:AE→Sl→St→Prop)(K:Int→Int→Prop):Prop:=∀(σ:Sl)(st:St)(x0:Int)(x1:Int),σ 6=.i .u64 x0→σ 7=.i .i64 x1→K x0 x1→Q .ret σ st
section
variable {prog:Prog}{d:Nat}{Q:AE→Sl→St→Prop}{K:Int→Int→Prop}(hQ:H38 Q K){σ:Sl}{st:St}
include hQ
end
abbrev H40 (Q:AE→Sl→St→Prop)(K:BS→BS→Bool→Prop):Prop:=∀(σ:Sl)(st:St)(x0:BS)(x1:BS)(x2:Bool),σ 2=.s x0→σ 3=.s x1→σ 4=.b x2→K x0 x1 x2→Q .ret σ st
section
variable {prog:Prog}{d:Nat}{Q:AE→Sl→St→Prop}{K:BS→BS→Bool→Prop}(hQ:H40 Q K){σ:Sl}{st:St}
include hQ
end
abbrev H41 (Q:AE→Sl→St→Prop)(K:BS→Prop):Prop:=∀(σ:Sl)(st:St)(x0:BS),σ 2=.s x0→K x0→Q .ret σ st
section
variable {prog:Prog}{d:Nat}{Q:AE→Sl→St→Prop}{K:BS→Prop}(hQ:H41 Q K){σ:Sl}{st:St}
include hQ
end
abbrev H44 (Q:AE→Sl→St→Prop)(K:Int→Prop):Prop:=∀(σ:Sl)(st:St)(x0:Int),σ 4=.i .i64 x0→K x0→Q .ret σ st
section
variable {prog:Prog}{d:Nat}{Q:AE→Sl→St→Prop}{K:Int→Prop}(hQ:H44 Q K){σ:Sl}{st:St}
include hQ
end
end Go.AM
