/-
  Contracts of functions that the law of FnRightUses reaches, part 2.
-/
import Derived.Test.YtfklkhgmgglloaaGreatDoorVPRightUses1
namespace Go.Proofs.YtfklkhgmgglloaaGreatDoor.fnRightUses
open Go.Proofs.YtfklkhgmgglloaaGreatDoor
open Go.D Go.Proofs.Tryz
set_option maxRecDepth 100000
set_option maxHeartbeats 2000000
set_option linter.defProp false
set_option linter.unusedVariables false
set_option linter.unusedSimpArgs false
def AoP:=AoB.a AP<|Fct.o (KP [1,3,4,6,8,9,10,11,12,13] [18,31,41,52]) AoB.2 func25 (by
 rintro⟨(n:P_),(t:ByteArray),(a:HO),(g:Bool),_⟩ hp;refine ho (let J_:=(⟨t,a,g⟩:dA);.cl FN (n,()) λz2=>.cl DN (a,()) λz3=>.br (!z3.1) (.cl C2 () λz4=>.lf AP (z2.1,z4.1,())) (.cl GQ (n.cache,t,a,n.now,()) λz5=>let L_:Out:=.lf AP (z2.1,z5.1,());.br (z5.2.1) (.lp (Bool) (True) (λx=>True) λy6=>.br (y6) L_ L_) (.cl Eu (n.servers,a,()) λz6=>let aq:Out:=.lf AP (z2.1,z6.1,());let H_:Out:=.lf AP ({z2.1 with log:=z2.1.log++[J_]},z6.1,());.br (decide ((n.log.length:Int)<400)) (.ap (z2.1.log.length+[J_].length) 56<|.br (!g) (.cl AW (({z2.1 with log:=z2.1.log++[J_]}:P_),t,a,z6.1,()) λz7=>let O_:Out:=.lf AP (z7.1,z6.1,());.lp (Bool) (True) (λx=>True) λy13=>.br (y13) O_ O_) (.lp (Bool) (True) (λx=>True) λy15=>.br (y15) H_ H_)) (.br (!g) (.cl AW (z2.1,t,a,z6.1,()) λz8=>let Y_:Out:=.lf AP (z8.1,z6.1,());.lp (Bool) (True) (λx=>True) λy19=>.br (y19) Y_ Y_) (.lp (Bool) (True) (λx=>True) λy21=>.br (y21) aq aq))))) ?_;refine Ai ?_ λ_=>(Ai ?_ λ_=>Z (λh3=>Ai trivial λ_=>Y ?_) λh3=>Ai ?_ λ_=>Z (λh5=>HT trivial λy6 i6=>Z (λh7=>Y ?_) λh7=>Y ?_) λh5=>Ai ?_ λ_=>Z (λh9=>FB ?_ λ_=>Z (λh11=>Ai ?_ λ_=>HT trivial λy13 i13=>Z (λh14=>Y ?_) λh14=>Y ?_) λh11=>HT trivial λy15 i15=>Z (λh16=>Y ?_) λh16=>Y ?_) λh9=>Z (λh17=>Ai ?_ λ_=>HT trivial λy19 i19=>Z (λh20=>Y ?_) λh20=>Y ?_) λh17=>HT trivial λy21 i21=>Z (λh22=>Y ?_) λh22=>Y ?_)<;>(have hn:=Ac AK n.cache.bh;have hc:szCache n.cache=U AK n.cache.bh:=rfl;have ha:=Kb n.servers a;have hs:=Dj Fw n.log ⟨t,a,g⟩;have hs2:Fw ⟨t,a,g⟩=t.size+szAddr a:=rfl;have hd:a.host.size<=szAddr a/\a.path.size<=szAddr a:=⟨bN _ _,Nat.le_add_left _ _⟩;have hl:=Ac Fw n.log;try simp only[std,Nat.reduceAdd,fetchNo,logS,szNet] at *)<;>(try simp(disch:=omega) only[FS,C_] at *)<;>(try simp(disch:=omega) only[G_,F_])<;>(first|trivial|omega|grind[FS,C_,B_,K_,I_,maxLen,fetchNo,logS,szNet]))
def AnI:=AoP.a AP<|Fct.o (KP [1,3,4,6,8,9,10,11,12,13] [18,31,41,52]) AoP.2 func137 (by
 rintro⟨(n:P_),(t:ByteArray),(a:HO),(g:Bool),_⟩ hp;refine ho (let J_:=(⟨t,a,g⟩:dA);.cl FN (n,()) λz2=>.cl DN (a,()) λz3=>.br (!z3.1) (.cl C2 () λz4=>.lf AP (z2.1,z4.1,())) (.cl GQ (n.cache,t,a,n.now,()) λz5=>let L_:Out:=.lf AP (z2.1,z5.1,());.br (z5.2.1) (.lp (Bool) (True) (λx=>True) λy6=>.br (y6) L_ L_) (.cl Eu (n.servers,a,()) λz6=>let aq:Out:=.lf AP (z2.1,z6.1,());let H_:Out:=.lf AP ({z2.1 with log:=z2.1.log++[J_]},z6.1,());.br (decide ((z2.1.log.length:Int)<400)) (.ap (z2.1.log.length+[J_].length) 56<|.br (!g) (.cl AW (({z2.1 with log:=z2.1.log++[J_]}:P_),t,a,z6.1,()) λz7=>let O_:Out:=.lf AP (z7.1,z6.1,());.lp (Bool) (True) (λx=>True) λy13=>.br (y13) O_ O_) (.lp (Bool) (True) (λx=>True) λy15=>.br (y15) H_ H_)) (.br (!g) (.cl AW (z2.1,t,a,z6.1,()) λz8=>let Y_:Out:=.lf AP (z8.1,z6.1,());.lp (Bool) (True) (λx=>True) λy19=>.br (y19) Y_ Y_) (.lp (Bool) (True) (λx=>True) λy21=>.br (y21) aq aq))))) ?_;refine Ai ?_ λ_=>(Ai ?_ λ_=>Z (λh3=>Ai trivial λ_=>Y ?_) λh3=>Ai ?_ λ_=>Z (λh5=>HT trivial λy6 i6=>Z (λh7=>Y ?_) λh7=>Y ?_) λh5=>Ai ?_ λ_=>Z (λh9=>FB ?_ λ_=>Z (λh11=>Ai ?_ λ_=>HT trivial λy13 i13=>Z (λh14=>Y ?_) λh14=>Y ?_) λh11=>HT trivial λy15 i15=>Z (λh16=>Y ?_) λh16=>Y ?_) λh9=>Z (λh17=>Ai ?_ λ_=>HT trivial λy19 i19=>Z (λh20=>Y ?_) λh20=>Y ?_) λh17=>HT trivial λy21 i21=>Z (λh22=>Y ?_) λh22=>Y ?_)<;>(have hn:=Ac AK n.cache.bh;have hc:szCache n.cache=U AK n.cache.bh:=rfl;have ha:=Kb n.servers a;have hs:=Dj Fw n.log ⟨t,a,g⟩;have hs2:Fw ⟨t,a,g⟩=t.size+szAddr a:=rfl;have hd:a.host.size<=szAddr a/\a.path.size<=szAddr a:=⟨bN _ _,Nat.le_add_left _ _⟩;have hl:=Ac Fw n.log;try simp only[std,Nat.reduceAdd,fetchNo,logS,szNet] at *)<;>(try simp(disch:=omega) only[FS,C_] at *)<;>(try simp(disch:=omega) only[G_,F_])<;>(first|trivial|omega|grind[FS,C_,B_,K_,I_,maxLen,fetchNo,logS,szNet]))
def newBuilder:am:=⟨[⟨⟨#[112,97,103,101]⟩,⟨#[]⟩,-1,[]⟩],[0]⟩
abbrev JB:Fct:=⟨[],[rE .ba],λ_=>True,λ_=>(newBuilder,())⟩
def AnJ:=AnI.a JB<|Fct.o [0] AnI.2 func61 (by
 rintro⟨_⟩ hp;exact hg (.lf JB (⟨[(⟨(⟨#[112,97,103,101]⟩:ByteArray),(⟨#[]⟩:ByteArray),(-1:Int),[]⟩:cT)],[(0:Int)]⟩,())) (@newBuilder.eq_1))
def newP (a:HO) (x:M_):A_×Bool:=if(isName a.host&&isName a.path)=true/\isResponse x=true/\x.status=200/\x.kind=1 then(⟨a,(parseP x.bm).1,default,[],false,newBuilder,[],[],[],0,0,0,0,[],[],false⟩,true) else(default,false)
abbrev QX:Fct:=⟨[.v (.el .addr),.v (.el .bd)],[.el .page,.el .bool],λ(x:HO×M_×Unit)=>x.2.1.bm.size<=200000000/\szAddr x.1<=10000000,λ(x:HO×M_×Unit)=>((newP x.1 x.2.1).1,(newP x.1 x.2.1).2,())⟩
def Anf:=AnJ.a QX<|Fct.o (KP [2,3,4,5,6,7] [35]) AnJ.2 func26 (by
 rintro⟨(a:HO),(x:M_),_⟩ hp;refine ho (let J_:=(⟨#[]⟩:ByteArray);let H_:Out:=.leaf (.tup [(true,[vs J_,vs J_,vb (false),.nl,.nl,.nl,vs J_,vs J_,.nl,vb (false),.nl,.nl,.nl,.nl,.nl,vi ((0:Int)),vi ((0:Int)),vi ((0:Int)),vi ((0:Int)),.nl,.nl,vb (false)]),(false,[vb (false)])]) [] [];.cl B0 (x.bm,()) λz2=>.cl DN (a,()) λz3=>.br (!z3.1) H_ (.cl AC (x,()) λz4=>.br (!z4.1) H_ (.br (!z2.2.1) H_ (.br (x.status != 200) H_ (.br (x.kind != 1) H_ (.cl JB () λz5=>.leaf (.tup [(true,[vs (a.host),vs (a.path),vb (z2.1.set_),.l Ty.str (z2.1.bt),.l Ty.str (z2.1.styles),.l Ty.str (z2.1.images),vs (z2.1.nonce),vs J_,.nl,vb (false),.l Ty.node (z5.1.bj),.l Ty.int (z5.1.bn),.nl,.nl,.nl,vi ((0:Int)),vi ((0:Int)),vi ((0:Int)),vi ((0:Int)),.nl,.nl,vb (false)]),(false,[vb (true)])]) [] [])))))) ?_;refine Cs ?_ λo1 z2 ez2=>(Cs ?_ λo2 z3 ez3=>Z (λh3=>Fct.leafZ (default,false,()) (by repeat' first|exact rfl|exact trivial|refine And.intro ?_ ?_) ?_) λh3=>Cs ?_ λo4 z4 ez4=>Z (λh5=>Fct.leafZ (default,false,()) (by repeat' first|exact rfl|exact trivial|refine And.intro ?_ ?_) ?_) λh5=>Z (λh6=>Fct.leafZ (default,false,()) (by repeat' first|exact rfl|exact trivial|refine And.intro ?_ ?_) ?_) λh6=>Z (λh7=>Fct.leafZ (default,false,()) (by repeat' first|exact rfl|exact trivial|refine And.intro ?_ ?_) ?_) λh7=>Z (λh8=>Fct.leafZ (default,false,()) (by repeat' first|exact rfl|exact trivial|refine And.intro ?_ ?_) ?_) λh8=>Cs trivial λ_ z5 ez5=>Fct.leafZ (⟨a,z2.fst,default,[],false,z5.fst,[],[],[],(0:Int),(0:Int),(0:Int),(0:Int),[],[],false⟩,true,()) (by repeat' first|exact rfl|exact trivial|refine And.intro ?_ ?_) ?_)<;>subst_vars<;>(have hd:a.host.size<=szAddr a/\a.path.size<=szAddr a:=⟨bN _ _,Nat.le_add_left _ _⟩;try simp only[std,Nat.reduceAdd,newP,isResponse] at *)<;>(try simp(disch:=omega) only[FS,C_] at *)<;>(try simp(disch:=omega) only[G_,F_])<;>(first|trivial|omega|grind[FS,C_,B_,K_,I_,maxLen,newP,isResponse]))
def startL (n:P_) (a:HO) (cs:List Int):N_×Bool:=if(newP a (fetchNo n a.host a false).2).2 then(⟨(fetchNo n a.host a false).1,(newP a (fetchNo n a.host a false).2).1,cutText (fetchNo n a.host a false).2.body cs,[],[]⟩,true) else(⟨(fetchNo n a.host a false).1,default,[],[],[]⟩,false)
def AcU {c:aZ} {t:ByteArray} {a:HO} {now:Int} {x:M_} (h:lookUp c t a now=some x):Ab x<=szCache c:=by
 unfold lookUp at h;obtain⟨e,he,rfl⟩:=Option.map_eq_some_iff.1 h;obtain⟨i,hi,rfl⟩:=List.mem_iff_getElem.1 (List.mem_of_find?_eq_some he);have:=Cy AK (l:=c.bh) (i:=i) hi;rw[bB,aH hi] at this;simp only[Option.getD_some,AK] at this;simp only[szCache];omega
def Qt (n:P_) (t:ByteArray) (a:HO) (g:Bool):Ab (fetchNo n t a g).2<=szNet n:=by
 unfold fetchNo;split
 .exact Nat.zero_le _
 split
 .rename_i h;obtain⟨x,hx⟩:=Option.isSome_iff_exists.1 h;have:=AcU hx;rw[hx];simp only[Option.getD_some,szNet];omega
 .have:=Kb n.servers a;simp only[szNet];omega
abbrev KT:Fct:=⟨[.v (.el .net),.v (.el .addr),.v (.sl .int)],[.el .loader,.el .bool],λ(x:gm)=>szNet x.1<=1048576/\szAddr x.2.1<=1048576/\x.2.2.1.length<=1048576,λ(x:gm)=>((startL x.1 x.2.1 x.2.2.1).1,(startL x.1 x.2.1 x.2.2.1).2,())⟩
def Aob:=Anf.a KT<|Fct.o (KP [2,3,4,6,7,8,9,10,11,12] [30]) Anf.2 func23 (by
 rintro⟨(n:P_),(a:HO),(cs:List Int),_⟩ hp;refine ho (.cl AP (n,a.host,a,false,()) λz2=>.cl QX (a,z2.2.1,()) λz3=>.br (!z3.2.1) (.leaf (.tup [(true,[.l Ty.server (z2.1.servers),.l Ty.entry (z2.1.cache.bh),.l Ty.sent (z2.1.log),vi (z2.1.now),vs ((⟨#[]⟩:ByteArray)),vs ((⟨#[]⟩:ByteArray)),vb (false),.nl,.nl,.nl,vs ((⟨#[]⟩:ByteArray)),vs ((⟨#[]⟩:ByteArray)),.nl,vb (false),.nl,.nl,.nl,.nl,.nl,vi ((0:Int)),vi ((0:Int)),vi ((0:Int)),vi ((0:Int)),.nl,.nl,vb (false),.nl,.nl,.nl]),(false,[vb (false)])]) [] []) (.cl QN (z2.2.1.body,cs,()) λz4=>.leaf (.tup [(true,[.l Ty.server (z2.1.servers),.l Ty.entry (z2.1.cache.bh),.l Ty.sent (z2.1.log),vi (z2.1.now),vs (z3.1.addr.host),vs (z3.1.addr.path),vb (z3.1.bm.set_),.l Ty.str (z3.1.bm.bt),.l Ty.str (z3.1.bm.styles),.l Ty.str (z3.1.bm.images),vs (z3.1.bm.nonce),vs (z3.1.tok.rest),.l Ty.token (z3.1.bp),vb (z3.1.ended),.l Ty.node (z3.1.ba.bj),.l Ty.int (z3.1.ba.bn),.l Ty.slot (z3.1.bf),.l Ty.module (z3.1.bi),.l Ty.addr (z3.1.bh),vi (z3.1.block),vi (z3.1.inline),vi (z3.1.bo),vi (z3.1.bu),.l Ty.addr (z3.1.ran),.l Ty.str (z3.1.log),vb (z3.1.loaded),.l Ty.str (z4.1),.nl,.nl]),(false,[vb (true)])]) [] [])) ?_;refine Cs ?_ λo1 z2 ez2=>(Cs ?_ λo2 z3 ez3=>Z (λh3=>Fct.leafZ (⟨z2.fst,default,[],[],[]⟩,false,()) (by repeat' first|exact rfl|exact trivial|refine And.intro ?_ ?_) ?_) λh3=>Cs ?_ λo4 z4 ez4=>Fct.leafZ (⟨z2.fst,z3.fst,z4.fst,[],[]⟩,true,()) (by repeat' first|exact rfl|exact trivial|refine And.intro ?_ ?_) ?_)<;>subst_vars<;>(have hf:=Qt n a.host a false;have hd:a.host.size<=szAddr a/\a.path.size<=szAddr a:=⟨bN _ _,Nat.le_add_left _ _⟩;have he:(fetchNo n a.host a false).2.body.size<=Ab (fetchNo n a.host a false).2/\(fetchNo n a.host a false).2.bm.size<=Ab (fetchNo n a.host a false).2:=⟨bN _ _,Nat.le_add_left _ _⟩;try simp only[std,Nat.reduceAdd,startL,szNet] at *)<;>(try simp(disch:=omega) only[FS,C_] at *)<;>(try simp(disch:=omega) only[G_,F_])<;>(first|trivial|omega|grind[FS,C_,B_,K_,I_,maxLen,startL,szNet]))
def Oa (s:ByteArray) (cs:List Int):∀ (f:Nat) (i a:Int),∀ x∈cutG s cs f i a,Ag x<=s.size
 | 0,i,a,x,h=>by
  simp only[cutG,List.mem_singleton] at h;subst h;simp only[Ag,db];omega
 | f+1,i,a,x,h=>by
  simp only[cutG] at h;split at h
  .rcases au.1 h with rfl|h
   .simp only[Ag,db];omega
   .exact Oa s cs f _ _ x h
  .exact Oa s cs f _ _ x h
def Y1 (s:ByteArray) (cs:List Int):U Ag (cutText s cs)<=(s.size+1)*8 :=
 aP (Ag3 λx hx=>Oa s cs _ _ _ x hx) (Nat.mul_le_mul_left _ (Nr s cs))
def Afy (s:ByteArray):AG (parseP s).1<=4*(s.size+1):=by
 unfold parseP;split
 .have:AG (default:aA)=0:=by decide
  simp only[this];exact Nat.zero_le _
 split
 .unfold pol;exact To (by
   split
   .rw[db];have:=Dq 59 s 3;omega
   .exact Nat.zero_le _)
 .have:AG (default:aA)=0:=by decide
  simp only[this];exact Nat.zero_le _
def digestOf (b:ByteArray):Int:=hashI (151::bti (AF b) (AF b)) 11
def LV (b:ByteArray) (i:Nat):0<=(AF b).getD i default/\(AF b).getD i default<=255:=by
 unfold AF;rw[bB,cz];cases h:b.data.toList[i]? with
 | none=>exact⟨Int.le_refl _,by decide⟩
 | some x=>have:=x.toNat_lt;simp only[bC,Option.getD_some];omega
def HN (b:ByteArray):(AF b).length=b.size:=by rw[AF,cE];rfl
def SH (b:ByteArray):List.map (λb:UInt8=>(b.toNat:Int)) b.data.toList=AF b:=rfl
def Al0 {b:ByteArray} (hb:b.size<=1000000000) (i:Nat) : -9223372036854775808<=(151::bti (AF b) (AF b)).getD i default/\(151::bti (AF b) (AF b)).getD i default<=9223372036854775807:=by
 match i with
 | 0=>
  simp
 | 1=>
  show -9223372036854775808<=((AF b).length:Int)/\((AF b).length:Int)<=9223372036854775807;rw[HN];omega
 | i+2=>
  have:=LV b i;show -9223372036854775808<=(AF b).getD i default/\(AF b).getD i default<=9223372036854775807;omega
def AiJ (b:ByteArray):(151::bti (AF b) (AF b)).length=b.size+2:=by simp[bti,HN]
abbrev G8:Fct:=⟨[.v (.el .str)],[.el .int],λ(x:E_)=>x.1.size<=1000000000,λ(x:E_)=>(digestOf x.1,())⟩
theorem q0 (b:ByteArray) (hp:G8.pre (b,())):Out.holds (G8.ctr (b,())).post (.cl Fu (List.map (λb=>(b.toNat:Int)) b.data.toList,()) λ(z2:ak)=>.ap (1+z2.1.length) 8<|.cl Aa9 ([(151:Int)]++z2.1,()) λ(z3:D_)=>.lf G8 (z3.1,())):=by
 refine Ai ?_ λ_=>(FB ?_ λ_=>Ai ?_ λ_=>Y ?_)<;>(have h1:=LV b;have h2:=HN b;have h3:=AiJ b;have h4:=Al0 (show b.size<=1000000000 from hp);try simp only[std,Nat.reduceAdd,SH,digestOf,List.singleton_append] at *)<;>(first|trivial|omega|exact⟨O,λi _=>h1 i⟩|exact⟨O,λi _=>h4 i⟩|skip)
def Aph:=Aob.a G8<|Fct.o [0,2] Aob.2 func218 (λ⟨(b:ByteArray),_⟩ hp=>ho _ (q0 b hp))
def ApA:=Aph.a G8<|Fct.o [0,2] Aph.2 func202 (λ⟨(b:ByteArray),_⟩ hp=>ho _ (q0 b hp))
def Nl:∀ (l:List Int) (d:Int),0<=d->d<2147483647->0<=hashI l d/\hashI l d<2147483647
 | [],d,h0,h1=>⟨h0,h1⟩
 | x::l,d,h0,h1=>by have hm:=Ln x;have ht:=Lo (x:=d*1000003+modM x 2147483647+13) O;exact Nl l _ ht.1 ht.2
def S8 (b:ByteArray):0<=digestOf b/\digestOf b<2147483647:=Nl _ 11 (by decide) (by decide)
abbrev Cp:Fct:=⟨[.v (.el .str),.v (.el .str)],[.el .bool],λ(x:cU)=>x.1.size<=1000000000,λ(x:cU)=>(decide (x.2.1=⟨#[]⟩)||decide (x.2.1=RL (digestOf x.1)),())⟩
theorem q7 (b:ByteArray) (v:ByteArray) (hp:Cp.pre (b,v,())):Out.holds (Cp.ctr (b,v,())).post (.br (ByteArray.toList v==(⟨#[]⟩:ByteArray).toList) (.lf Cp (true,())) (.cl G8 (b,()) λ(z2:D_)=>.cl AO (z2.1,()) λz3=>.lf Cp (ByteArray.toList v==z3.1.toList,()))):=hz (((S8 b)))
def Apw:=ApA.a Cp<|Fct.o [0,1,4] ApA.2 func162 (λ⟨(b:ByteArray),(v:ByteArray),_⟩ hp=>ho _ (q7 b v hp))
def AnW:=Apw.a Cp<|Fct.o [0,1,4] Apw.2 func140 (λ⟨(b:ByteArray),(v:ByteArray),_⟩ hp=>ho _ (q7 b v hp))
def checkResponse (p:aA) (r:ax) (x:M_):Int:=if checkRequest p r≠1 then 2 else if isResponse x=false\/x.status≠200 then 3 else if(decide (x.kind=r.kind)||decide (r.kind=5/\x.kind=2))=false then 4 else if r.from_≠r.to.host/\x.shares=false/\(r.kind=5\/r.digest≠⟨#[]⟩) then 5 else if(decide (r.digest=⟨#[]⟩)||decide (r.digest=RL (digestOf x.body)))=false then 6 else 1
def HR {p:aA} {r:ax} (h:checkRequest p r≠1):checkRequest p r=2:=by
 unfold checkRequest at *;split<;>simp_all
abbrev An:Fct:=⟨[.v (.el .bm),.v (.el .request),.v (.el .bd)],[.el .int],λ(x:eV)=>AG x.1<=1099511627776/\A6 x.2.1<=1099511627776/\x.2.2.1.bm.size<=200000000/\x.2.2.1.body.size<=1000000000,λ(x:eV)=>(checkResponse x.1 x.2.1 x.2.2.1,())⟩
def Aol:=AnW.a An<|Fct.o (KP [3,4,5,6] [7,12,21,27,49]) AnW.2 func122 (λ⟨(p:aA),(r:ax),(x:M_),_⟩ hp=>hg (let L_:Out:=.lf An ((5:Int),());let J_:Out:=.lf An ((3:Int),());let H_:Out:=.cl Cp (x.body,r.digest,()) λz5=>.br (!z5.1) (.lf An ((6:Int),())) (.lf An ((1:Int),()));.cl AJ (p,r,()) λ(z2:D_)=>.br (z2.1 != 1) (.lf An ((2:Int),())) (.cl AC (x,()) λz3=>.br (!z3.1) J_ (.br (x.status != 200) J_ (.cl Dt (x,r.kind,()) λz4=>.br (!z4.1) (.lf An ((4:Int),())) (.br (!r.from_.toList==r.to.host.toList) (.br (!x.shares) (.br (r.kind==5) L_ (.br (!r.digest.toList==(⟨#[]⟩:ByteArray).toList) L_ H_)) H_) H_))))) (an_ @checkResponse.eq_1<|(λh=>HR (p:=p) (r:=r) h)))
def Apl:=Aol.a An<|Fct.o (KP [3,4,5,6] [7,15,24,30,52]) Aol.2 func81 (λ⟨(p:aA),(r:ax),(x:M_),_⟩ hp=>hg (let L_:Out:=.lf An ((5:Int),());let J_:Out:=.lf An ((3:Int),());let H_:Out:=.cl Cp (x.body,r.digest,()) λz6=>.br (!z6.1) (.lf An ((6:Int),())) (.lf An ((1:Int),()));.cl AJ (p,r,()) λ(z2:D_)=>.br (z2.1 != 1) (.cl AJ (p,r,()) λ(z3:D_)=>.lf An (z3.1,())) (.cl AC (x,()) λz4=>.br (!z4.1) J_ (.br (x.status != 200) J_ (.cl Dt (x,r.kind,()) λz5=>.br (!z5.1) (.lf An ((4:Int),())) (.br (!r.from_.toList==r.to.host.toList) (.br (!x.shares) (.br (r.kind==5) L_ (.br (!r.digest.toList==(⟨#[]⟩:ByteArray).toList) L_ H_)) H_) H_))))) (an_ @checkResponse.eq_1<|(λh=>HR (p:=p) (r:=r) h)))
def usable (p:aA) (r:ax) (x:M_):ByteArray×Bool:=if checkResponse p r x=1 then(x.body,true) else(⟨#[]⟩,false)
abbrev Cw:Fct:=⟨[.v (.el .bm),.v (.el .request),.v (.el .bd)],[.el .str,.el .bool],λ(x:eV)=>AG x.1<=1099511627776/\A6 x.2.1<=1099511627776/\x.2.2.1.bm.size<=200000000/\x.2.2.1.body.size<=1000000000,λ(x:eV)=>((usable x.1 x.2.1 x.2.2.1).1,(usable x.1 x.2.1 x.2.2.1).2,())⟩
def Apc:=Apl.a Cw<|Fct.o (KP [3,4,5,6,7] [12]) Apl.2 func123 (λ⟨(p:aA),(r:ax),(x:M_),_⟩ hp=>hg (.cl An (p,r,x,()) λ(z2:D_)=>.br (z2.1 != 1) (.lf Cw ((⟨#[]⟩:ByteArray),false,())) (.lf Cw (x.body,true,()))) (@usable.eq_1))
def AoA:=Apc.a Cw<|Fct.o (KP [3,4,5,6,7] [12]) Apc.2 func80 (λ⟨(p:aA),(r:ax),(x:M_),_⟩ hp=>hg (.cl An (p,r,x,()) λ(z2:D_)=>.br (z2.1 != 1) (.lf Cw ((⟨#[]⟩:ByteArray),false,())) (.lf Cw (x.body,true,()))) (@usable.eq_1))
def resp (n:P_) (t:ByteArray) (a:HO):M_:=(fetchNo n t a true).2
abbrev FV:Fct:=⟨[.v (.el .net),.v (.el .str),.v (.el .addr)],[.el .bd],λ(x:gn)=>szNet x.1<=9000000000/\szCache x.1.cache<=90000000/\U Af x.1.servers<=10000000/\x.2.1.size<=10000000/\szAddr x.2.2.1<=10000000,λ(x:gn)=>(resp x.1 x.2.1 x.2.2.1,())⟩
theorem q1 (n:P_) (t:ByteArray) (a:HO) (hp:FV.pre (n,t,a,())):Out.holds (FV.ctr (n,t,a,())).post (.cl AP (n,t,a,true,()) λz2=>.lf FV (z2.2.1,())):=by
 refine Ai ?_ λ_=>(Y ?_)<;>(try simp only[std,Nat.reduceAdd,resp] at *)<;>(try simp(disch:=omega) only[FS,C_] at *)<;>(try simp(disch:=omega) only[G_,F_])<;>(first|trivial|omega|grind[FS,C_,B_,K_,I_,maxLen,resp])
def Aop:=AoA.a FV<|Fct.o [1,3,5,6,8] AoA.2 func142 (λ⟨(n:P_),(t:ByteArray),(a:HO),_⟩ hp=>ho _ (q1 n t a hp))
def Aoq:=Aop.a FV<|Fct.o [1,3,5,6,8] Aop.2 func79 (λ⟨(n:P_),(t:ByteArray),(a:HO),_⟩ hp=>ho _ (q1 n t a hp))
def kindOf (m:Int):Int:=if m=1 then 4 else if m=2 then 3 else if m=3\/m=4 then 2 else 0
abbrev Bp:Fct:=⟨[.v (.el .int)],[.el .int],λ(x:D_)=>True,λ(x:D_)=>(kindOf x.1,())⟩
theorem q8 (m:Int) (hp:Bp.pre (m,())):Out.holds (Bp.ctr (m,())).post (.br (m==1) (.lf Bp ((4:Int),())) (.br (m==2) (.lf Bp ((3:Int),())) (.br (m==3) (.br (m==3) (.lf Bp ((2:Int),())) (.lf Bp ((0:Int),()))) (.br (m==4) (.lf Bp ((2:Int),())) (.lf Bp ((0:Int),())))))):=hz ((@kindOf.eq_1))
def Aoa:=Aoq.a Bp<|Fct.o (KP [0,2,3,8] [4,6]) Aoq.2 func120 (λ⟨(m:Int),_⟩ hp=>ho _ (q8 m hp))
def App:=Aoa.a Bp<|Fct.o (KP [0,2,3,8] [4,6]) Aoa.2 func82 (λ⟨(m:Int),_⟩ hp=>ho _ (q8 m hp))
def slotRequest (p:A_) (k:Int):ax:=if 0<=k/\k<p.bf.length then⟨kindOf (p.bf.getD k.toNat default).mode,(p.bf.getD k.toNat default).to,p.addr.host,(p.bf.getD k.toNat default).digest⟩ else default
abbrev Bl:Fct:=⟨[.v (.el .page),.v (.el .int)],[.el .request],λ(x:cc)=>x.1.bf.length<=1000000000000/\-9223372036854775808<=x.2.1/\x.2.1<=9223372036854775807,λ(x:cc)=>(slotRequest x.1 x.2.1,())⟩
def AoO:=App.a Bl<|Fct.o (KP [1,2,4,5] [12]) App.2 func68 (λ⟨(p:A_),(k:Int),_⟩ hp=>hg (.cl Ap (k,(0:Int),wr ((p.bf.length:Int)-(1:Int)),()) λz2=>.br (!z2.1) (.lf Bl (default,())) (.ob (inB k p.bf.length)<|.cl Bp ((p.bf.getD (Int.toNat k) default).mode,()) λ(z3:D_)=>.lf Bl (⟨z3.1,(p.bf.getD (Int.toNat k) default).to,p.addr.host,(p.bf.getD (Int.toNat k) default).digest⟩,()))) (an_ @slotRequest.eq_1<|@inRange.eq_1))
def Apy:=AoO.a Bl<|Fct.o (KP [1,2,4,5] [14]) AoO.2 func35 (λ⟨(p:A_),(k:Int),_⟩ hp=>hg (.br (decide (k<0)) (.lf Bl (default,())) (.br (decide (k>=(p.bf.length:Int))) (.lf Bl (default,())) (.ob (inB k p.bf.length)<|.cl Bp ((p.bf.getD (Int.toNat k) default).mode,()) λ(z2:D_)=>.lf Bl (⟨z2.1,(p.bf.getD (Int.toNat k) default).to,p.addr.host,(p.bf.getD (Int.toNat k) default).digest⟩,())))) (an_ @slotRequest.eq_1<|@inRange.eq_1))
def modRequest (p:A_) (k:Int):ax:=if 0<=k/\k<p.bi.length then⟨5,(p.bi.getD k.toNat default).to,p.addr.host,⟨#[]⟩⟩ else default
abbrev BO:Fct:=⟨[.v (.el .page),.v (.el .int)],[.el .request],λ(x:cc)=>x.1.bi.length<=2000000000000/\-9223372036854775808<=x.2.1/\x.2.1<=9223372036854775807,λ(x:cc)=>(modRequest x.1 x.2.1,())⟩
def Apf:=Apy.a BO<|Fct.o (KP [1,2,4] [11]) Apy.2 func70 (λ⟨(p:A_),(k:Int),_⟩ hp=>hg (.cl Ap (k,(0:Int),wr ((p.bi.length:Int)-(1:Int)),()) λz2=>.br (!z2.1) (.lf BO (default,())) (.ob (inB k p.bi.length)<|.lf BO (⟨(5:Int),(p.bi.getD (Int.toNat k) default).to,p.addr.host,(⟨#[]⟩:ByteArray)⟩,()))) (an_ @modRequest.eq_1<|@inRange.eq_1))
def Anp:=Apf.a BO<|Fct.o (KP [1,2,4] [13]) Apf.2 func36 (λ⟨(p:A_),(k:Int),_⟩ hp=>hg (.br (decide (k<0)) (.lf BO (default,())) (.br (decide (k>=(p.bi.length:Int))) (.lf BO (default,())) (.ob (inB k p.bi.length)<|.lf BO (⟨(5:Int),(p.bi.getD (Int.toNat k) default).to,p.addr.host,(⟨#[]⟩:ByteArray)⟩,())))) (an_ @modRequest.eq_1<|@inRange.eq_1))
def usedR (n:P_) (p:A_) (r:ax) (done:Bool) (code:Int) (body:ByteArray):Bool:=if done=false then true else if checkRequest p.bm r≠1 then decide (code=2)&&decide (body=⟨#[]⟩) else decide (code=checkResponse p.bm r (resp n p.addr.host r.to))&&decide (body=(usable p.bm r (resp n p.addr.host r.to)).1)
def slotRi (n:P_) (p:A_) (k:Int):Bool:=if 0<=k/\k<p.bf.length then usedR n p (slotRequest p k) (p.bf.getD k.toNat default).done (p.bf.getD k.toNat default).code (p.bf.getD k.toNat default).body else false
def modu (n:P_) (p:A_) (k:Int):Bool:=if 0<=k/\k<p.bi.length then usedR n p (modRequest p k) (p.bi.getD k.toNat default).done (p.bi.getD k.toNat default).code (p.bi.getD k.toNat default).body else false
def cntW (f:Int->Bool):Nat->Int
 | 0=>0
 | n+1=>cntW f n+(if f n then 0 else 1)
def CS (f:Int->Bool):∀ n,0<=cntW f n/\cntW f n<=n
 | 0=>⟨Int.le_refl _,Int.le_refl _⟩
 | n+1=>by have:=CS f n;simp only[cntW];split<;>omega
def Iu (f:Int->Bool) {k:Int} (h:0<=k):cntW f (k+1).toNat=cntW f k.toNat+(if f k then 0 else 1):=by
 rw[show(k+1).toNat=k.toNat+1 from O,cntW,show((k.toNat:Nat):Int)=k from O]
def wro (n:P_) (p:A_):Int:=cntW (slotRi n p) p.bf.length+cntW (modu n p) p.bi.length
def addrOf (s b:ByteArray):HO:=match GZ 47 (I s) with
 | some (p,q)=>⟨ofL p,ofL q⟩
 | none=>⟨b,s⟩
def par (s b:ByteArray):HO×Bool:=if isName (addrOf s b).host&&isName (addrOf s b).path then(addrOf s b,true) else(default,false)
def Zv {s b:ByteArray} {i:Nat} (h:i<s.size) (hb:s.data.getD i 0=47) (hn:47∉(I s).take i):addrOf s b=⟨s.extract 0 i,s.extract (i+1) s.size⟩:=by
 unfold addrOf;rw[Aes h hb hn];have e1:ofL ((I s).take i)=s.extract 0 i:=by rw[<-AM (s.extract 0 i),AI,fx]
 have e2:ofL ((I s).drop (i+1))=s.extract (i+1) s.size:=by rw[<-AM (s.extract (i+1) s.size),AI,cC (by rw[AU];exact X_ _)]
 simp only[e1,e2]
def Y6 {s b:ByteArray} {i:Nat} (h:s.size<=i) (hn:47∉(I s).take i):addrOf s b=⟨b,s⟩:=by
 rw[cC (by rw[AU];exact h)] at hn;unfold addrOf;rw[NF hn]
def V4 {b:UInt8}:∀ {l p q:List UInt8},GZ b l=some (p,q)->p.length<=l.length/\q.length<=l.length
 | [],p,q,h=>by cases h
 | x::l,p,q,h=>by
  rw[GZ] at h;split at h
  .simp_all
  .obtain⟨r,hr,he⟩:=Option.map_eq_some_iff.1 h;simp only[bW] at he;obtain⟨rfl,rfl⟩:=he;have:=V4 (p:=r.1) (q:=r.2) hr;grind
def M6 (s b:ByteArray):(addrOf s b).host.size<=s.size+b.size/\(addrOf s b).path.size<=s.size:=by
 unfold addrOf;cases h:GZ 47 (I s) with
 | none=>exact⟨by simp only;omega,X_ _⟩
 | some r=>
  have:=V4 (p:=r.1) (q:=r.2) h;rw[AU] at this;simp only[Df];omega
def Ry (b:ByteArray):par ⟨#[]⟩ b=(default,false):=by
 unfold par;have:addrOf ⟨#[]⟩ b=⟨b,⟨#[]⟩⟩:=rfl;rw[this,F_];rw[show isName ⟨#[]⟩=false from rfl,Bool.and_false];decide
abbrev BW:Fct:=⟨[.v (.el .str),.v (.el .str)],[.el .addr,.el .bool],λ(x:cU)=>x.1.size<=4000000000/\x.2.1.size<=4000000000,λ(x:cU)=>((par x.1 x.2.1).1,(par x.1 x.2.1).2,())⟩
def Ahu {s:ByteArray} {i:Nat}:((s.data.getD i 0).toNat:Int)=47↔s.data.getD i 0=47:=Qf (b:=47) O O
abbrev CB (s:ByteArray) (b:ByteArray):LInv:=⟨[⟨.b,6,true,.el .addr⟩,⟨.s,7,true,.el .int⟩,⟨.b,4,true,.el .addr⟩],λ(z x:eW)=>(0<=x.2.1/\x.2.1<=s.size/\x.1=⟨b,s⟩/\47∉(I s).take x.2.1.toNat)/\x.2.2.1=z.2.2.1,λ(x:eW)=>s.size-x.2.1.toNat⟩
def Apq:=Anp.a BW<|Fct.p (KP [0,1,4,5,6,7] [14,20,31]) (λ⟨s,b,_⟩=>lv [(3,CB s b)]) Anp.2 func216 (by
 rintro⟨(s:ByteArray),(b:ByteArray),_⟩ hp;refine ho (lpx (CB s b) ((⟨b,s⟩:HO),((0:Int),(default,()))) λ(y1:eW) bk1=>.br (decide (y1.2.1<(s.size:Int))) (.ob (0<=y1.2.1/\y1.2.1<(s.size:Int))<|.br ((↑(s.data.getD y1.2.1.toNat 0).toNat:Int)==47) (.ob (0<=y1.2.1/\y1.2.1<=(s.size:Int))<|.ob (0<=w1 y1.2.1/\w1 y1.2.1<=(s.size:Int))<|.cl DN ((⟨s.extract 0 y1.2.1.toNat,s.extract (w1 y1.2.1).toNat s.size⟩:HO),()) λz2=>.br (!z2.1) (.lf BW (default,false,())) (.lf BW (⟨s.extract 0 y1.2.1.toNat,s.extract (w1 y1.2.1).toNat s.size⟩,true,()))) (.re (Value.string s)<|.re (Value.string b)<|.bk (bk1 (y1.1,(w1 y1.2.1,(y1.2.2.1,())))))) (.cl DN (y1.1,()) λz3=>.br (!z3.1) (.lf BW (default,false,())) (.lf BW (y1.1,true,())))) ?_;refine Ay ?_ λ(y1:eW) i1=>Z (λh2=>Ad ?_ λ_=>Z (λh4=>Ad ?_ λ_=>Ad ?_ λ_=>Ai ?_ λ_=>Z (λh8=>Y ?_) λh8=>Y ?_) λh4=>Al<|Al<|AR ?_) (λh2=>Ai ?_ λ_=>Z (λh11=>Y ?_) λh11=>Y ?_)<;>have hz:=M6 s b<;>(try obtain⟨⟨a1,a2,a3,a4⟩,a5⟩:=i1)<;>(try simp only[std,Nat.reduceAdd,par,Ahu] at *)<;>(try simp(disch:=omega) only[FS,C_] at *)<;>(try simp(disch:=omega) only[G_,F_])<;>(try have e:=Zv (b:=b) (show y1.2.1.toNat<s.size from O) h4 a4;simp only[e] at *)<;>(try have t:=Ad8 (show y1.2.1.toNat<s.size from O) h4 a4)<;>(try have e:=Y6 (b:=b) (show s.size<=y1.2.1.toNat from O) a4;simp only[e] at *)<;>(first|trivial|omega|grind[ByteArray.size_extract]))
def findAttr (l:List cW) (n:ByteArray):Option ByteArray:=(l.find? λa=>decide (a.name=n)).map (·.value)
abbrev A1:Fct:=⟨[.v (.sl .attr),.v (.el .str)],[.el .str,.el .bool],λ(x:gp)=>x.1.length<=1000000000000,λ(x:gp)=>((findAttr x.1 x.2.1).getD ⟨#[]⟩,(findAttr x.1 x.2.1).isSome,())⟩
abbrev BP (l:(List cW)) (n:ByteArray):LInv:=⟨[⟨.s,6,true,.el .int⟩],λ_ (x:D_)=>0<=x.1/\x.1<=l.length/\findAttr (l.drop x.1.toNat) n=findAttr l n,λ(x:D_)=>l.length-x.1.toNat⟩
def Aoi:=Apq.a A1<|Fct.p (KP [0,1,4,5,6] [10,19]) (λ⟨l,n,_⟩=>lv [(2,BP l n)]) Apq.2 func160 (λ⟨(l:List cW),(n:ByteArray),_⟩ hp=>hg (.lq (Int×PUnit) (BP l n).inv (BP l n).m ((0:Int),()) λy1 bk1=>.br (decide (y1.1<(l.length:Int))) (.ob (inB y1.1 l.length)<|.br ((l.getD y1.1.toNat default).name.toList==n.toList) (.ob (inB y1.1 l.length)<|.lf A1 ((l.getD y1.1.toNat default).value,true,())) (.re (l)<|.re (Value.string n)<|.bk (bk1 (w1 y1.1,())))) (.lf A1 ((⟨#[]⟩:ByteArray),false,()))) (@findAttr.eq_1))
def scanKind (t:ai):Int:=if t.kind≠1 then 0 else if t.name=⟨#[115,99,114,105,112,116]⟩ then(if(findAttr t.bq ⟨#[107,105,110,100]⟩).getD ⟨#[]⟩=⟨#[109,111,100,117,108,101]⟩ then 5 else 2) else if t.name=⟨#[108,105,110,107]⟩ then 3 else if t.name=⟨#[105,109,103]⟩ then 4 else 0
def scanTo (t:ai):ByteArray:=if t.name=⟨#[108,105,110,107]⟩ then(findAttr t.bq ⟨#[104,114,101,102]⟩).getD ⟨#[]⟩ else(findAttr t.bq ⟨#[115,114,99]⟩).getD ⟨#[]⟩
def scanTok (t:ai) (b:ByteArray):ax×Bool:=if scanKind t≠0/\(par (scanTo t) b).2=true then(⟨scanKind t,(par (scanTo t) b).1,b,if scanKind t=5 then⟨#[]⟩ else(findAttr t.bq ⟨#[100,105,103,101,115,116]⟩).getD ⟨#[]⟩⟩,true) else(default,false)
def BB (l:List cW) (n:ByteArray):((findAttr l n).getD ⟨#[]⟩).size<=U B3 l:=by
 unfold findAttr;cases h:l.find? λa=>decide (a.name=n) with
 | none=>exact Nat.zero_le _
 | some a=>
  obtain⟨i,hi,he⟩:=List.mem_iff_getElem.1 (List.mem_of_find?_eq_some h);have:=Cy B3 (l:=l) (i:=i) hi;rw[bB,aH hi,he] at this;simp only[bC,Option.getD_some,B3] at *;omega
def VE {l:List cW} {n:ByteArray} (h:(findAttr l n).isSome=false):(findAttr l n).getD ⟨#[]⟩=⟨#[]⟩:=by
 simp_all
abbrev Ck:Fct:=⟨[.v (.el .token),.v (.el .str)],[.el .request,.el .bool],λ(x:gq)=>szT x.1<=100000000/\x.2.1.size<=100000000,λ(x:gq)=>((scanTok x.1 x.2.1).1,(scanTok x.1 x.2.1).2,())⟩
def AnQ:=Aoi.a Ck<|Fct.o (KP [1,2,4,5,6,7,8,10,12,13] [17,22,34,36,41,60,66]) Aoi.2 func263 (by
 rintro⟨(t:ai),(b:ByteArray),_⟩ hp;refine ho (let O_:=(⟨#[]⟩:ByteArray);let L_:=(⟨#[115,114,99]⟩:ByteArray);let J_:=(⟨#[100,105,103,101,115,116]⟩:ByteArray);let H_:Out:=.lf Ck (default,false,());.br (t.kind != 1) H_ (.br (t.name.toList==(⟨#[115,99,114,105,112,116]⟩:ByteArray).toList) (.cl A1 (t.bq,(⟨#[107,105,110,100]⟩:ByteArray),()) λz2=>.br (z2.1.toList==(⟨#[109,111,100,117,108,101]⟩:ByteArray).toList) (.cl A1 (t.bq,L_,()) λz3=>.cl BW (z3.1,b,()) λz4=>.br (!z4.2.1) H_ (.br ((5:Int) != (5:Int)) (.cl A1 (t.bq,J_,()) λz5=>.lf Ck (⟨(5:Int),z4.1,b,z5.1⟩,true,())) (.lf Ck (⟨(5:Int),z4.1,b,O_⟩,true,())))) (.cl A1 (t.bq,L_,()) λz6=>.cl BW (z6.1,b,()) λz7=>.br (!z7.2.1) H_ (.br ((2:Int) != (5:Int)) (.cl A1 (t.bq,J_,()) λz8=>.lf Ck (⟨(2:Int),z7.1,b,z8.1⟩,true,())) (.lf Ck (⟨(2:Int),z7.1,b,O_⟩,true,()))))) (.br (t.name.toList==(⟨#[108,105,110,107]⟩:ByteArray).toList) (.cl A1 (t.bq,(⟨#[104,114,101,102]⟩:ByteArray),()) λz9=>.cl BW (z9.1,b,()) λz10=>.br (!z10.2.1) H_ (.br ((3:Int) != (5:Int)) (.cl A1 (t.bq,J_,()) λz11=>.lf Ck (⟨(3:Int),z10.1,b,z11.1⟩,true,())) (.lf Ck (⟨(3:Int),z10.1,b,O_⟩,true,())))) (.br (t.name.toList==(⟨#[105,109,103]⟩:ByteArray).toList) (.cl A1 (t.bq,L_,()) λz12=>.cl BW (z12.1,b,()) λz13=>.br (!z13.2.1) H_ (.br ((4:Int) != (5:Int)) (.cl A1 (t.bq,J_,()) λz14=>.lf Ck (⟨(4:Int),z13.1,b,z14.1⟩,true,())) (.lf Ck (⟨(4:Int),z13.1,b,O_⟩,true,())))) H_)))) ?_;refine Z (λh1=>Y ?_) λh1=>Z (λh2=>Cs ?_ λo3 z2 ez2=>Z (λh4=>Cs ?_ λo5 z3 ez3=>Cs ?_ λo6 z4 ez4=>Z (λh7=>Y ?_) λh7=>Z (λh8=>Cs ?_ λo9 z5 ez5=>Y ?_) λh8=>Y ?_) λh4=>Cs ?_ λo10 z6 ez6=>Cs ?_ λo11 z7 ez7=>Z (λh12=>Y ?_) λh12=>Z (λh13=>Cs ?_ λo14 z8 ez8=>Y ?_) λh13=>Y ?_) λh2=>Z (λh15=>Cs ?_ λo16 z9 ez9=>Cs ?_ λo17 z10 ez10=>Z (λh18=>Y ?_) λh18=>Z (λh19=>Cs ?_ λo20 z11 ez11=>Y ?_) λh19=>Y ?_) λh15=>Z (λh21=>Cs ?_ λo22 z12 ez12=>Cs ?_ λo23 z13 ez13=>Z (λh24=>Y ?_) λh24=>Z (λh25=>Cs ?_ λo26 z14 ez14=>Y ?_) λh25=>Y ?_) λh21=>Y ?_;all_goals subst_vars
 all_goals (have hl:=Ac B3 t.bq;have hs:=BB t.bq;have hn:=λn=>VE (l:=t.bq) (n:=n))<;>(have hp0:=Ry b;try simp only[std,Nat.reduceAdd,scanTok,scanKind,scanTo,szT] at *)<;>(try simp(disch:=omega) only[FS,C_] at *)<;>(try simp(disch:=omega) only[G_,F_])<;>(first|trivial|omega|grind[FS,C_,B_,K_,I_,maxLen,scanTok,scanKind,scanTo,szT]))
def scanTokens (b:ByteArray):List ai->List ax
 | []=>[]
 | t::l=>if(scanTok t b).2 then(scanTok t b).1::scanTokens b l else scanTokens b l
def Qe {b:ByteArray} {l:List ai} {i:Nat} (h:i<l.length):scanTokens b (l.drop i)=if(scanTok (l.getD i default) b).2 then(scanTok (l.getD i default) b).1::scanTokens b (l.drop (i+1)) else scanTokens b (l.drop (i+1)):=by rw[B_ h];rfl
def Oy {b:ByteArray} {l:List ai} {i:Nat} (h:l.length<=i):scanTokens b (l.drop i)=[]:=by rw[cx h];rfl
def GV (b:ByteArray):∀ l:List ai,(scanTokens b l).length<=l.length
 | []=>X_ _
 | t::l=>by have:=GV b l;simp only[scanTokens];split<;>simp only[aw]<;>omega
abbrev Jt:Fct:=⟨[.v (.sl .token),.v (.el .str)],[.sl .request],λ(x:gu)=>U szT x.1<=1000000000000/\(∀ t,t∈x.1->szT t<=10000000)/\x.2.1.size<=10000000,λ(x:gu)=>(scanTokens x.2.1 x.1,())⟩
abbrev Bo (l:(List ai)) (b:ByteArray):LInv:=⟨[⟨.s,5,true,.sl .request⟩,⟨.s,6,true,.el .int⟩],λ_ (x:fF)=>0<=x.2.1/\x.2.1<=l.length/\x.1.length<=x.2.1/\x.1++scanTokens b (l.drop x.2.1.toNat)=scanTokens b l,λ(x:fF)=>l.length-x.2.1.toNat⟩
def Ao7:=AnQ.a Jt<|Fct.p (KP [0,1,4,5,6,7,8] [13,25]) (λ⟨l,b,_⟩=>lv [(3,Bo l b)]) AnQ.2 func230 (λ⟨(l:List ai),(b:ByteArray),_⟩ hp=>hg (.lq (List ax×Int×PUnit) (Bo l b).inv (Bo l b).m ([],((0:Int),())) λy1 bk1=>.br (decide (y1.2.1<(l.length:Int))) (.ob (inB y1.2.1 l.length)<|.cl Ck (l.getD y1.2.1.toNat default,b,()) λz2=>.br (z2.2.1) (.ap (y1.1.length+[z2.1].length) 72<|.re (l)<|.re (Value.string b)<|.bk (bk1 (y1.1++[z2.1],(w1 y1.2.1,())))) (.re (l)<|.re (Value.string b)<|.bk (bk1 (y1.1,(w1 y1.2.1,()))))) (.lf Jt (y1.1,()))) (an_ @Qe<|an_ @Oy<|an_ @bK.{0}<|an_ @List.singleton_append.{0}<|an_ @al.{0}<|an_ @dZ.{0}<|an_ (Ac szT l)<|(λi h=>hp.2.1 _ (Ae h):∀ i,i<l.length->szT (l.getD i default)<=10000000)))
def canGuess (r:ax):Bool:=isRequest r&&(decide (r.kind≠1)&&decide (r.to.host=r.from_))
abbrev Ia:Fct:=⟨[.v (.el .request)],[.el .bool],λ(x:eP)=>A6 x.1<=1099511627776,λ(x:eP)=>(canGuess x.1,())⟩
def ApR:=Ao7.a Ia<|Fct.o [1,2] Ao7.2 func231 (λ⟨(r:ax),_⟩ hp=>hg (.cl Ch (r,()) λz2=>.br (z2.1) (.br (r.kind != 1) (.lf Ia (r.to.host.toList==r.from_.toList,())) (.lf Ia (false,()))) (.lf Ia (false,()))) (@canGuess.eq_1))
def guessOk (p:A_) (out:List HO) (r:ax):Bool:=canGuess r&&(decide (checkRequest p.bm r=1)&&(!isAsked p r.to && !out.any λc=>decide (c=r.to)))
def gue (p:A_):List ax->List HO->List HO
 | [],out=>out
 | r::l,out=>if guessOk p out r then gue p l (out++[r.to]) else gue p l out
def Acl {p:A_} {l:List ax} {i:Nat} {out:List HO} (h:i<l.length):gue p (l.drop i) out=if guessOk p out (l.getD i default) then gue p (l.drop (i+1)) (out++[(l.getD i default).to]) else gue p (l.drop (i+1)) out:=by rw[B_ h];rfl
def X0 {p:A_} {l:List ax} {i:Nat} {out:List HO} (h:l.length<=i):gue p (l.drop i) out=out:=by rw[cx h];rfl
def guessesOf (p:A_):List HO:=gue p (scanTokens p.addr.host p.bp) []
def KY {p:A_}:∀ {l:List ax} {out:List HO},(∀ a∈out,isName a.host=true/\isName a.path=true)->∀ a∈gue p l out,isName a.host=true/\isName a.path=true
 | [],out,h=>h
 | r::l,out,h=>by
  rw[gue];split
  .rename_i hg;refine KY λa ha=>?_
   rcases ah.1 ha with ha|ha
   .exact h a ha
   .simp only[List.mem_singleton] at ha;subst ha;simp only[guessOk,canGuess,isRequest,T_] at hg;simp_all
  .exact KY h
def Acf (t:ai):(scanTo t).size<=szT t:=by
 unfold scanTo;have h1:=BB t.bq ⟨#[104,114,101,102]⟩;have h2:=BB t.bq ⟨#[115,114,99]⟩;have h3:U B3 t.bq<=szT t:=by simp only[szT];omega
 split<;>omega
def S2 (t:ai) (b:ByteArray):A6 (scanTok t b).1<=3*szT t+2*b.size:=by
 unfold scanTok;split
 .have h1:=M6 (scanTo t) b;have h2:=Acf t;have h3:=BB t.bq ⟨#[100,105,103,101,115,116]⟩;have h4:U B3 t.bq<=szT t:=by simp only[szT];omega
  have h5:szAddr (par (scanTo t) b).1<=2*szT t+b.size:=by
   unfold par;split
   .simp only[szAddr];omega
   .exact Nat.zero_le _
  have h6:ByteArray.size ⟨#[]⟩=0:=rfl;simp only[A6];split<;>omega
 .exact Nat.zero_le _
def Jd (b:ByteArray) {B:Nat}:∀ {l:List ai},(∀ t,t∈l->szT t<=B)->∀ r∈scanTokens b l,A6 r<=3*B+2*b.size
 | [],_,r,hr=>by cases hr
 | t::l,h,r,hr=>by
  have ih:=Jd b (l:=l) λx hx=>h x (cY _ hx)
  have h1:=S2 t b;have h2:=h t dx;simp only[scanTokens] at hr;grind
abbrev K7:Fct:=⟨[.v (.el .page)],[.sl .addr],λ(x:ae)=>Au x.1<=1000000000000/\(∀ t,t∈x.1.bp->szT t<=10000000)/\x.1.addr.host.size<=10000000,λ(x:ae)=>(guessesOf x.1,())⟩
abbrev CN (p:A_):LInv:=⟨[⟨.s,3,true,.sl .addr⟩,⟨.s,5,true,.el .int⟩,⟨.b,1,false,.el .page⟩,⟨.s,4,true,.sl .request⟩],λ(z x:gw)=>((0<=x.2.1/\x.2.1<=(scanTokens p.addr.host p.bp).length/\x.1.length<=x.2.1/\gue p ((scanTokens p.addr.host p.bp).drop x.2.1.toNat) x.1=guessesOf p)/\x.2.2.1=z.2.2.1)/\x.2.2.2.1=z.2.2.2.1,λ(x:gw)=>(scanTokens p.addr.host p.bp).length-x.2.1.toNat⟩
def AnN:=ApR.a K7<|Fct.p (KP [1,2,3,4,5,6] [17,51]) (λ⟨p,_⟩=>lv [(4,CN p)]) ApR.2 func184 (λ⟨(p:A_),_⟩ hp=>hg (let L_:=CN p;.cl Jt (p.bp,p.addr.host,()) λz2=>.lq (List HO×Int×A_×List ax×PUnit) L_.inv L_.m ([],((0:Int),(p,(z2.1,())))) λy2 bk2=>let J_:=y2.2.2.2.1.getD y2.2.1.toNat default;let H_:Out:=.bk (bk2 (y2.1,(w1 y2.2.1,(y2.2.2.1,(y2.2.2.2.1,())))));.br (decide (y2.2.1<(y2.2.2.2.1.length:Int))) (.ix y2.2.1 y2.2.2.2.1.length<|.ix y2.2.1 y2.2.2.2.1.length<|.cl Ia (y2.2.2.2.1.getD y2.2.1.toNat default,()) λz3=>.br (z3.1) (.ix y2.2.1 y2.2.2.2.1.length<|.cl AJ (y2.2.2.1.bm,y2.2.2.2.1.getD y2.2.1.toNat default,()) λ(z4:D_)=>.br (z4.1==1) (.cl Ma (y2.2.2.1,J_.to,()) λz5=>.br (!z5.1) (.cl Gw (y2.1,J_.to,()) λz6=>.br (!z6.1) (.ap (y2.1.length+[J_.to].length) 32<|.bk (bk2 (y2.1++[J_.to],(w1 y2.2.1,(y2.2.2.1,(y2.2.2.2.1,())))))) H_) H_) H_) H_) (.lf K7 (y2.1,()))) (an_ @Acl<|an_ @X0<|an_ @guessOk.eq_1<|an_ @guessesOf.eq_1<|an_ @al.{0}<|an_ @dZ.{0}<|an_ (by simp only[Au,szAddr];omega:U szT p.bp<=Au p/\U AD p.bf<=Au p/\U AA p.bi<=Au p/\p.addr.host.size<=Au p/\AG p.bm<=Au p)<|an_ (Ac szT p.bp)<|an_ (Ac AD p.bf)<|an_ (Ac AA p.bi)<|an_ (GV p.addr.host p.bp)<|(λi h=>by have hq:∀ t,t∈p.bp->szT t<=10000000:=hp.2.1;have:=Jd p.addr.host hq _ (Ae (i:=i) h);have hp2:p.addr.host.size<=10000000:=hp.2.2;omega:∀ i,i<(scanTokens p.addr.host p.bp).length->A6 ((scanTokens p.addr.host p.bp).getD i default)<=100000000)))
abbrev C8:Fct:=⟨[.v (.el .loader)],[.el .loader],λ(x:bR)=>szNet x.1.net<=68719476736/\Au x.1.page<=1099511627776/\x.1.parts.length<=1000000000/\x.1.conns.length<=1048576/\x.1.guesses.length<=4194304,λ(x:bR)=>(x.1,())⟩
def ApP:=AnN.a C8<|Fct.o [1,2] AnN.2 func50 (λ⟨(l:N_),_⟩ hp=>hq (.cl FN (l.net,()) λz2=>.cl Be (l.page,()) λz3=>.ap l.parts.length 16<|.ap l.conns.length 112<|.ap l.guesses.length 104<|.lf C8 (⟨z2.1,z3.1,l.parts,l.conns,l.guesses⟩,())))
def nex (l:N_):List HO->N_×Bool
 | []=>(l,false)
 | a::r=>if 0<=findGuess l.guesses a\/0<=findC a l.conns 0 then nex l r else(⟨(fetchNo l.net l.page.addr.host a true).1,l.page,l.parts,(ope l.conns a (fetchNo l.net l.page.addr.host a true).2 true).1,l.guesses⟩,true)
theorem cJ {l:N_} {m:List HO} {i:Nat} (h:i<m.length):nex l (m.drop i)=if 0<=findGuess l.guesses (m.getD i default)\/0<=findC (m.getD i default) l.conns 0 then nex l (m.drop (i+1)) else(⟨(fetchNo l.net l.page.addr.host (m.getD i default) true).1,l.page,l.parts,(ope l.conns (m.getD i default) (fetchNo l.net l.page.addr.host (m.getD i default) true).2 true).1,l.guesses⟩,true):=by rw[B_ h];rfl
theorem cB {l:N_} {m:List HO} {i:Nat} (h:m.length<=i):nex l (m.drop i)=(l,false):=by rw[cx h];rfl
def guessN (l:N_):N_×Bool:=if 3<=l.conns.length\/6<=(countIf (λg:bv=>!g.used) l.guesses:Int)+(countGuess l.conns:Int) then(l,false) else nex l (guessesOf l.page)
def IB {p:A_} {i:Nat} (h:i<(guessesOf p).length):szAddr ((guessesOf p).getD i default)<=16:=by
 have:=KY (p:=p) (l:=scanTokens p.addr.host p.bp) (out:=[]) (by simp) _ (Ae (i:=i) h);have h1:=Bb this.1;have h2:=Bb this.2;simp only[szAddr];simp only[guessesOf];omega
def Ll {p:A_}:∀ {l:List ax} {out:List HO},(gue p l out).length<=out.length+l.length
 | [],out=>X_ _
 | r::l,out=>by
  rw[gue];split
  .have:=Ll (p:=p) (l:=l) (out:=out++[r.to]);simp only[al,aw,bz] at *;omega
  .have:=Ll (p:=p) (l:=l) (out:=out);simp only[aw];omega
def Rw (p:A_):(guessesOf p).length<=Au p:=by
 have h1:=Ll (p:=p) (l:=scanTokens p.addr.host p.bp) (out:=[]);have h2:=GV p.addr.host p.bp;have h3:=Ac szT p.bp;simp only[guessesOf,Au,bz] at *;omega
def okNt (n:P_):Prop:=szNet n<=8000000000/\szCache n.cache<=80000000/\U Af n.servers<=1048576/\∀ e,e∈n.cache.bh->Ab e.bd<=1048576
def YQ {c:aZ} {t:ByteArray} {a:HO} {n:Int} {x:M_} (h:lookUp c t a n=some x) (B:Nat) (hc:∀ e,e∈c.bh->Ab e.bd<=B):Ab x<=B:=by
 unfold lookUp at h;obtain⟨e,he,rfl⟩:=Option.map_eq_some_iff.1 h;grind
def DV {n:P_} {t:ByteArray} {a:HO} {g:Bool} (h:okNt n):Ab (fetchNo n t a g).2<=1048576:=by
 obtain⟨h1,h2,h3,h4⟩:=h;unfold fetchNo;split
 .exact(show Ab notF<=1048576 by decide)
 .split
  .cases hq:lookUp n.cache t a n.now with
   | none=>exact(show Ab notF<=1048576 by decide)
   | some x=>exact YQ hq _ h4
  .exact aP (Kb _ _) h3
def okGN (l:N_):Prop:=okNt l.net/\(Au l.page<=1000000000000/\(∀ t,t∈l.page.bp->szT t<=10000000)/\l.page.addr.host.size<=10000000)/\l.parts.length<=1000000000/\l.conns.length<=1048576/\l.guesses.length<=4194304
abbrev EW:Fct:=⟨[.v (.el .loader)],[.el .loader,.el .bool],λ(x:bR)=>okGN x.1,λ(x:bR)=>((guessN x.1).1,(guessN x.1).2,())⟩
abbrev BE (l:N_):LInv:=⟨[⟨.s,6,true,.el .int⟩,⟨.b,1,false,.el .loader⟩,⟨.b,2,true,.el .loader⟩,⟨.b,4,true,.el .loader⟩,⟨.s,5,true,.sl .addr⟩],λ(z x:eX)=>((((0<=x.1/\x.1<=(guessesOf l.page).length/\nex l ((guessesOf l.page).drop x.1.toNat)=nex l (guessesOf l.page))/\x.2.1=z.2.1)/\x.2.2.1=z.2.2.1)/\x.2.2.2.1=z.2.2.2.1)/\x.2.2.2.2.1=z.2.2.2.2.1,λ(x:eX)=>(guessesOf l.page).length-x.1.toNat⟩
def ApB:=ApP.a EW<|Fct.p (KP [1,2,3,4,5,6,7,8,9] [25,33,51]) (λ⟨l,_⟩=>lv [(6,BE l)]) ApP.2 func133 (by
 rintro⟨(l:N_),_⟩ hp;refine ho (.cl C8 (l,()) λz2=>.br (decide ((l.conns.length:Int)>=3)) (.lf EW (z2.1,false,())) (.cl PM (l.guesses,()) λ(z3:D_)=>.cl Adr (l.conns,()) λ(z4:D_)=>.br (decide (wr (z3.1+z4.1)>=6)) (.lf EW (z2.1,false,())) (.cl K7 (l.page,()) λz5=>lpx (BE l) ((0:Int),(l,(default,(z2.1,(z5.1,()))))) λ(y7:eX) bk7=>.br (decide (y7.1<(y7.2.2.2.2.1.length:Int))) (.ix y7.1 y7.2.2.2.2.1.length<|.cl FZ (y7.2.1.guesses,y7.2.2.2.2.1.getD y7.1.toNat default,()) λ(z6:D_)=>.br (decide (z6.1>=0)) (.bk (bk7 (w1 y7.1,(y7.2.1,(y7.2.2.1,(y7.2.2.2.1,(y7.2.2.2.2.1,()))))))) (.cl AaR (y7.2.1.conns,y7.2.2.2.2.1.getD y7.1.toNat default,()) λ(z7:D_)=>.br (decide (z7.1>=0)) (.bk (bk7 (w1 y7.1,(y7.2.1,(y7.2.2.1,(y7.2.2.2.1,(y7.2.2.2.2.1,()))))))) (.cl AP (y7.2.1.net,y7.2.1.page.addr.host,y7.2.2.2.2.1.getD y7.1.toNat default,true,()) λz8=>.cl Zh (y7.2.1.conns,y7.2.2.2.2.1.getD y7.1.toNat default,z8.2.1,true,()) λz9=>.lf EW (⟨z8.1,y7.2.2.2.1.page,y7.2.2.2.1.parts,z9.1,y7.2.2.2.1.guesses⟩,true,())))) (.lf EW (y7.2.2.2.1,false,()))))) ?_;repeat' (guard_target =~ Out.holds _ _;first|refine Ay (li:=BE l) ?_ λ(y7:eX) i7=>?_|refine Y ?_|refine Z (λ_=>?_) λ_=>?_|refine Ai ?_ λ_=>?_|refine AR ?_|refine Ey ?_ λ_ _=>?_)
 all_goals obtain⟨z0,⟨z4,z5,z6⟩,z7,z8,z9⟩:=(show okGN l from hp)<;>have hf:=λa=>DV (t:=l.page.addr.host) (a:=a) (g:=true) z0<;>obtain⟨z1,z2,z3,_⟩:=z0<;>have hb2:∀ x:M_,x.body.size<=Ab x:=λx=>bN _ _<;>have hn:=λ{i:Nat} (h:i<(guessesOf l.page).length)=>IB (p:=l.page) h<;>(have hc:=aU (λg:bv=>!g.used) l.guesses;have hc2:=Qj l.conns;have hgl:=Rw l.page)<;>(try obtain⟨⟨⟨⟨⟨a1,a2,a3⟩,a4⟩,a5⟩,a6⟩,a7⟩:=i7;simp only[a4,a5,a6,a7] at *)<;>(try simp only[std,Nat.reduceAdd,guessN,cJ,cB] at *)<;>(try simp(disch:=omega) only[FS,C_] at *)<;>(try simp(disch:=omega) only[G_,F_])<;>(first|trivial|omega|grind[FS,C_,I_,maxLen,guessN,cJ,cB]))
def ta:List ByteArray->List cW->Option (List cW)
 | [],acc=>some acc
 | w::l,acc=>match GZ 61 (I w) with
  | none=>none
  | some r=>if isName (ofL r.1)&&(isValue (ofL r.2)&&(findAttr acc (ofL r.1)).isNone) then ta l (acc++[⟨ofL r.1,ofL r.2⟩]) else none
def tagFin (n:ByteArray):Option (List cW)->ai×Bool
 | none=>(default,false)
 | some ats=>if isName n=true/\ats.length<=4 then(⟨1,n,ats,⟨#[]⟩⟩,true) else(default,false)
def tagO (s:ByteArray):ai×Bool :=
 if 60<s.size then(default,false)
 else if 0<s.size/\s.data.getD 0 0=47 then(if isName (s.extract 1 s.size) then(⟨2,s.extract 1 s.size,[],⟨#[]⟩⟩,true) else(default,false))
 else tagFin ((K 32 s).getD 0 default) (ta ((K 32 s).drop 1) [])
def AgD {s:ByteArray} (h:s.size<=60) (hn:¬ (0<s.size/\s.data.getD 0 0=47)) (ha:ta ((K 32 s).drop 1) []=none):tagO s=(default,false):=by
 unfold tagO;rw[F_ O,F_ hn,ha];rfl
def Xa {s:ByteArray} {ats:List cW} (h:s.size<=60) (hn:¬ (0<s.size/\s.data.getD 0 0=47)) (ha:ta ((K 32 s).drop 1) []=some ats):tagO s=if isName ((K 32 s).getD 0 default)=true/\ats.length<=4 then(⟨1,(K 32 s).getD 0 default,ats,⟨#[]⟩⟩,true) else(default,false):=by
 unfold tagO;rw[F_ O,F_ hn,ha];rfl
def N7 {s:ByteArray}:(60<s.size->tagO s=(default,false))/\(s.size<=60->0<s.size->s.data.getD 0 0=47->tagO s=if isName (s.extract 1 s.size) then(⟨2,s.extract 1 s.size,[],⟨#[]⟩⟩,true) else(default,false)):=by
 unfold tagO;grind
def WP (b:UInt8):∀ l:List UInt8,L3 b l=match GZ b l with|none=>[l]|some (p,q)=>p::L3 b q:=by
 intro l
 induction l with
 | nil=>rfl
 | cons x l ih=>
  rw[Ec,GZ];by_cases hx:x=b
  .simp_all
  .rw[F_ hx,F_ hx,ih];cases GZ b l with
   | none=>rfl
   | some r=>rfl
def F8 (b:UInt8) (s:ByteArray):K b s=match GZ b (I s) with|none=>[s]|some (p,q)=>ofL p::K b (ofL q):=by
 unfold K;rw[WP];cases GZ b (I s) with
 | none=>simp[AM]
 | some r=>simp[BS]
def Mg {b:UInt8}:∀ {l p q:List UInt8},GZ b l=some (p,q)->b∈l
 | [],p,q,h=>by cases h
 | x::l,p,q,h=>by
  rw[GZ] at h;split at h
  .simp_all
  .obtain⟨r,hr,_⟩:=Option.map_eq_some_iff.1 h;exact cY _ (Mg (p:=r.1) (q:=r.2) hr)
def AfS (w:ByteArray):((K 61 w).length=2/\isName ((K 61 w).getD 0 default)=true/\isValue ((K 61 w).getD 1 default)=true)↔∃ r,GZ 61 (I w)=some r/\isName (ofL r.1)=true/\isValue (ofL r.2)=true/\(K 61 w).getD 0 default=ofL r.1/\(K 61 w).getD 1 default=ofL r.2:=by
 rw[F8];cases h:GZ 61 (I w) with
 | none=>simp
 | some r=>
  obtain⟨p,q⟩:=r;simp only[aw,R_];constructor
  .rintro⟨h1,h2,h3⟩;have hq:(K 61 (ofL q))=[ofL q]:=by
    rw[F8] at h1 ⊢;cases hc:GZ 61 (I (ofL q)) with
    | none=>rfl
    | some r2=>
     rw[hc] at h1;have:=(Eg 61 (ofL r2.2)).1;simp_all
   simp_all
  .rintro⟨r,rfl,h2,h3,h4,h5⟩;have hq:(K 61 (ofL q))=[ofL q]:=by
    rw[F8];cases hc:GZ 61 (I (ofL q)) with
    | none=>rfl
    | some r2=>exact absurd (Mg (p:=r2.1) (q:=r2.2) hc) (QW rfl h3)
   simp_all
def Va {l:List ByteArray} {i:Nat} {acc:List cW} (h:i<l.length):ta (l.drop i) acc=(match GZ 61 (I (l.getD i default)) with|none=>none|some r=>if isName (ofL r.1)&&(isValue (ofL r.2)&&(findAttr acc (ofL r.1)).isNone) then ta (l.drop (i+1)) (acc++[⟨ofL r.1,ofL r.2⟩]) else none):=by rw[B_ h];rfl
def LY {l:List ByteArray} {i:Nat} {acc:List cW} (h:l.length<=i):ta (l.drop i) acc=some acc:=by rw[cx h];rfl
abbrev Aag:Fct:=⟨[.v (.el .str)],[.el .token,.el .bool],λ(x:E_)=>x.1.size<=100000000,λ(x:E_)=>((tagO x.1).1,(tagO x.1).2,())⟩
def AmA {s:ByteArray} {i:Nat} {b:Nat} (hb:b<=255):((s.data.getD i 0).toNat:Int)=b↔s.data.getD i 0=UInt8.ofNat b:=Qf (b:=b) O O
def ZW {l:List ByteArray} {i:Nat} {acc:List cW} (h:i<l.length):ta (l.drop i) acc=if(K 61 (l.getD i default)).length=2/\isName ((K 61 (l.getD i default)).getD 0 default)=true/\isValue ((K 61 (l.getD i default)).getD 1 default)=true/\(findAttr acc ((K 61 (l.getD i default)).getD 0 default)).isSome=false then ta (l.drop (i+1)) (acc++[⟨(K 61 (l.getD i default)).getD 0 default,(K 61 (l.getD i default)).getD 1 default⟩]) else none:=by
 rw[Va h];generalize l.getD i default=w;by_cases hw:(K 61 w).length=2/\isName ((K 61 w).getD 0 default)=true/\isValue ((K 61 w).getD 1 default)=true
 .obtain⟨r,h1,h2,h3,h4,h5⟩:=(AfS w).1 hw;simp_all
 .rw[F_ λhh=>hw ⟨hh.1,hh.2.1,hh.2.2.1⟩];cases hc:GZ 61 (I w) with
  | none=>rfl
  | some r=>
   simp only;rw[F_];intro hh;simp only[T_] at hh;refine hw ?_;have hq:K 61 (ofL r.2)=[ofL r.2]:=by
    rw[F8];cases hc2:GZ 61 (I (ofL r.2)) with
    | none=>rfl
    | some r2=>exact absurd (Mg (p:=r2.1) (q:=r2.2) hc2) (QW rfl hh.2.1)
   rw[F8,hc];simp_all
abbrev EN (s:ByteArray):LInv:=⟨[⟨.b,5,true,.el .token⟩,⟨.s,6,true,.el .int⟩,⟨.b,2,true,.el .token⟩,⟨.s,4,true,.sl .str⟩],λ(z x:ei)=>((1<=x.2.1/\x.2.1<=(K 32 s).length/\x.1.bq.length+1<=x.2.1/\x.1=⟨1,(K 32 s).getD 0 default,x.1.bq,⟨#[]⟩⟩/\ta ((K 32 s).drop x.2.1.toNat) x.1.bq=ta ((K 32 s).drop 1) [])/\x.2.2.1=z.2.2.1)/\x.2.2.2.1=z.2.2.2.1,λ(x:ei)=>(K 32 s).length-x.2.1.toNat⟩
def Anm:=ApB.a Aag<|Fct.p (KP [0,2,3,4,5,6,7,9] [12,21,25,39,63,74,97]) (λ⟨s,_⟩=>lv [(10,EN s)]) ApB.2 func119 (by
 rintro⟨(s:ByteArray),_⟩ hp;refine ho (let aJ:=(s.size:Int);let aq:=(0:Int)<=(1:Int)/\(1:Int)<=aJ;let Y_:=(⟨#[]⟩:ByteArray);let J_:Out:=.leaf (.tup [(true,[vi ((0:Int)),vs (Y_),.nl,vs (Y_)]),(false,[vb (false)])]) [] [];let H_:Out:=.cl DQ (s,(32:Int),()) λz3=>.ob ((0:Int)<=(0:Int)/\(0:Int)<(z3.1.length:Int))<|.ob (0<z3.1.length)<|lpx (EN s) ((⟨(1:Int),z3.1.getD 0 default,[],Y_⟩:ai),((1:Int),(default,(z3.1,())))) λ(y12:ei) bk12=>.br (decide (y12.2.1<(y12.2.2.2.1.length:Int))) (.ix y12.2.1 y12.2.2.2.1.length<|.cl DQ (y12.2.2.2.1.getD y12.2.1.toNat default,(61:Int),()) λz4=>let bQ:=0<z4.1.length;let bD:=(z4.1.length:Int);let ay:=(⟨z4.1.getD 0 default,z4.1.getD 1 default⟩:cW);let O_:=(0:Int)<=(1:Int)/\(1:Int)<bD;let L_:=(0:Int)<=(0:Int)/\(0:Int)<bD;.br (bD != 2) J_ (.ob L_<|.ob bQ<|.cl By (z4.1.getD 0 default,()) λz5=>.br (!z5.1) J_ (.ob O_<|.ob (1<z4.1.length)<|.cl FI (z4.1.getD 1 default,()) λz6=>.br (!z6.1) J_ (.ob L_<|.ob bQ<|.cl A1 (y12.1.bq,z4.1.getD 0 default,()) λz7=>.br (z7.2.1) J_ (.ob L_<|.ob bQ<|.ob O_<|.ob (1<z4.1.length)<|.ap (y12.1.bq.length+[ay].length) 32<|.re (Value.string s)<|.bk (bk12 (({y12.1 with bq:=y12.1.bq++[ay]}:ai),(w1 y12.2.1,(y12.2.2.1,(y12.2.2.2.1,())))))))))) (.cl By (y12.1.name,()) λz8=>.br (!z8.1) J_ (.br (decide ((y12.1.bq.length:Int)>4)) J_ (.lf Aag (y12.1,true,()))));.br (decide (aJ>60)) J_ (.br (decide (aJ>0)) (.ob ((0:Int)<=(0:Int)/\(0:Int)<aJ)<|.br ((↑(s.data.getD 0 0).toNat:Int)==47) (.ob aq<|.cl By (s.extract 1 s.size,()) λz2=>.br (!z2.1) J_ (.ob aq<|.leaf (.tup [(true,[vi ((2:Int)),vs (s.extract 1 s.size),.nl,vs (Y_)]),(false,[vb (true)])]) [] [])) H_) H_)) ?_;refine Z (λh1=>Fct.leafZ (default,false,()) (by repeat' first|exact rfl|exact trivial|refine And.intro ?_ ?_) ?_) λh1=>Z (λh2=>Ad ?_ λ_=>Z (λh4=>Ad ?_ λ_=>Ai ?_ λ_=>Z (λh7=>Fct.leafZ (default,false,()) (by repeat' first|exact rfl|exact trivial|refine And.intro ?_ ?_) ?_) λh7=>Ad ?_ λ_=>Fct.leafZ (⟨(2:Int),s.extract (1:Nat) s.size,[],{ data := #[]:ByteArray }⟩,true,()) (by repeat' first|exact rfl|exact trivial|refine And.intro ?_ ?_) ?_) λh4=>Ai ?_ λ_=>Ad ?_ λ_=>Ad ?_ λ_=>Ay ?_ λ(y12:ei) i12=>Z (λh13=>Ey ?_ λo14 o15=>Ai ?_ λ_=>Z (λh17=>Fct.leafZ (default,false,()) (by repeat' first|exact rfl|exact trivial|refine And.intro ?_ ?_) ?_) λh17=>Ad ?_ λ_=>Ad ?_ λ_=>Ai ?_ λ_=>Z (λh21=>Fct.leafZ (default,false,()) (by repeat' first|exact rfl|exact trivial|refine And.intro ?_ ?_) ?_) λh21=>Ad ?_ λ_=>Ad ?_ λ_=>Ai ?_ λ_=>Z (λh25=>Fct.leafZ (default,false,()) (by repeat' first|exact rfl|exact trivial|refine And.intro ?_ ?_) ?_) λh25=>Ad ?_ λ_=>Ad ?_ λ_=>Ai ?_ λ_=>Z (λh29=>Fct.leafZ (default,false,()) (by repeat' first|exact rfl|exact trivial|refine And.intro ?_ ?_) ?_) λh29=>Ad ?_ λ_=>Ad ?_ λ_=>Ad ?_ λ_=>Ad ?_ λ_=>FB ?_ λ_=>Al<|AR ?_) λh13=>Ai ?_ λ_=>Z (λh37=>Fct.leafZ (default,false,()) (by repeat' first|exact rfl|exact trivial|refine And.intro ?_ ?_) ?_) λh37=>Z (λh38=>Fct.leafZ (default,false,()) (by repeat' first|exact rfl|exact trivial|refine And.intro ?_ ?_) ?_) λh38=>Y ?_) λh2=>Ai ?_ λ_=>Ad ?_ λ_=>Ad ?_ λ_=>Ay ?_ λ(y42:ei) i42=>Z (λh43=>Ey ?_ λo44 o45=>Ai ?_ λ_=>Z (λh47=>Fct.leafZ (default,false,()) (by repeat' first|exact rfl|exact trivial|refine And.intro ?_ ?_) ?_) λh47=>Ad ?_ λ_=>Ad ?_ λ_=>Ai ?_ λ_=>Z (λh51=>Fct.leafZ (default,false,()) (by repeat' first|exact rfl|exact trivial|refine And.intro ?_ ?_) ?_) λh51=>Ad ?_ λ_=>Ad ?_ λ_=>Ai ?_ λ_=>Z (λh55=>Fct.leafZ (default,false,()) (by repeat' first|exact rfl|exact trivial|refine And.intro ?_ ?_) ?_) λh55=>Ad ?_ λ_=>Ad ?_ λ_=>Ai ?_ λ_=>Z (λh59=>Fct.leafZ (default,false,()) (by repeat' first|exact rfl|exact trivial|refine And.intro ?_ ?_) ?_) λh59=>Ad ?_ λ_=>Ad ?_ λ_=>Ad ?_ λ_=>Ad ?_ λ_=>FB ?_ λ_=>Al<|AR ?_) λh43=>Ai ?_ λ_=>Z (λh67=>Fct.leafZ (default,false,()) (by repeat' first|exact rfl|exact trivial|refine And.intro ?_ ?_) ?_) λh67=>Z (λh68=>Fct.leafZ (default,false,()) (by repeat' first|exact rfl|exact trivial|refine And.intro ?_ ?_) ?_) λh68=>Y ?_;all_goals
  try simp only[std,Nat.reduceAdd] at *
  try simp only[show UInt8.ofNat (Int.toNat 32)=32 from rfl,show UInt8.ofNat (Int.toNat 61)=61 from rfl,Ahu] at *
 all_goals (have hk:=Eg 32 s;have hm:∀ i,i<(K 32 s).length->((K 32 s).getD i default).size<=s.size:=λi h=>RC (Ae h))<;>(have hx:(s.extract 1 s.size).size<=s.size:=by rw[db];omega)<;>(try obtain⟨⟨⟨a1,a2,a3,a4,a5⟩,a6⟩,a7⟩:=i12)<;>(try obtain⟨⟨⟨a1,a2,a3,a4,a5⟩,a6⟩,a7⟩:=i42)<;>(try simp only[a7] at *)<;>(first|trivial|omega|skip)<;>(try have hn:¬ (0<s.size/\s.data.getD 0 0=47):=by intro hh;first|(exact absurd hh.2 ‹_›)|omega)<;>(try have hg:y12.1.name=(K 32 s).getD 0 default:=cG ai.name a4)<;>(try have hg:y42.1.name=(K 32 s).getD 0 default:=cG ai.name a4)<;>(try have h0:=hm 0 O)<;>(try have hw:=hm y12.2.1.toNat O)<;>(try have hw0:=Dq 61 ((K 32 s).getD y12.2.1.toNat default) 0)<;>(try have hw1:=Dq 61 ((K 32 s).getD y12.2.1.toNat default) 1)<;>(first|(rw[N7.1 O];exact⟨rfl,rfl⟩)|(rw[N7.2 O O ‹_›,F_ (by rw[show isName _=false from ‹_›];decide)];exact⟨rfl,rfl⟩)|(rw[N7.2 O O ‹_›,G_ ‹_›];exact⟨rfl,rfl⟩)|(rw[hg];omega)|omega|skip)<;>(first|exact⟨O,O,by simp,trivial,rfl⟩|exact⟨O,O,O⟩|skip)<;>(first|(rw[ZW O,F_ (by rintro⟨c1,c2,c3,c4⟩;first|omega|exact absurd (c2.symm.trans (show isName _=false from ‹_›)) (by decide)|exact absurd (c3.symm.trans (show isValue _=false from ‹_›)) (by decide)|exact absurd (c4.symm.trans (show Option.isSome _=true from ‹_›)) (by decide))] at a5;rw[AgD O hn a5.symm];exact⟨rfl,rfl⟩)|skip)<;>(first|(rw[LY O] at a5;rw[Xa O hn a5.symm,F_ (by rintro⟨c1,c2⟩;rw[<-hg] at c1;first|omega|exact absurd (c1.symm.trans (show isName _=false from ‹_›)) (by decide))];exact⟨rfl,rfl⟩)|(rw[LY O] at a5;rw[Xa O hn a5.symm,G_ ⟨by rw[<-hg];assumption,O⟩];exact⟨a4,rfl⟩)|skip)<;>rw[ZW O,G_ (by exact⟨O,‹_›,‹_›,‹_›⟩)] at a5<;>rw[AE O,C_ O]<;>refine⟨⟨⟨⟨O,O,by rw[al];simp only[aw,bz];omega,?_,a5⟩,a6⟩,trivial⟩,O⟩<;>rw[a4])
def idx (b:UInt8) (s:ByteArray):Nat:=(I s).findIdx λx=>x==b
def JC (b:UInt8) (s:ByteArray):idx b s<=s.size:=by
 have:=List.findIdx_le_length (xs:=I s) (p:=λx=>x==b);rw[AU] at this;exact this
def AfX {b:UInt8} {s:ByteArray} {i:Nat} (h:i<s.size) (hb:s.data.getD i 0=b) (hn:b∉(I s).take i):idx b s=i:=by
 have e:I s=(I s).take i++b::(I s).drop (i+1):=by rw[<-hb,<-Kn h,dc]
 have hl:((I s).take i).length=i:=by rw[cZ,AU];omega
 unfold idx;grind
def AfJ {b:UInt8} {s:ByteArray} {i:Nat} (h:s.size<=i) (hn:b∉(I s).take i):idx b s=s.size:=by
 rw[cC (by rw[AU];exact h)] at hn;unfold idx;rw[List.findIdx_eq_length_of_false λx hx=>by
  have:x≠b:=λe=>hn (e▸hx)
  simpa using this]
 rfl
abbrev K8:Fct:=⟨[.v (.el .str),.v (.el .u8)],[.el .int],λ(x:aa)=>x.1.size<=1000000000000/\0<=x.2.1/\x.2.1<=255,λ(x:aa)=>((idx (UInt8.ofNat x.2.1.toNat) x.1:Int),())⟩
abbrev D6 (s:ByteArray) (b:Int):LInv:=⟨[⟨.s,5,true,.el .int⟩],λ_ (x:D_)=>0<=x.1/\x.1<=s.size/\UInt8.ofNat b.toNat∉(I s).take x.1.toNat,λ(x:D_)=>s.size-x.1.toNat⟩
def ApZ:=Anm.a K8<|Fct.p (KP [0,1,4,5] [9,16]) (λ⟨s,b,_⟩=>lv [(2,D6 s b)]) Anm.2 func118 (by
 rintro⟨(s:ByteArray),(b:Int),_⟩ hp;refine ho (lpx (D6 s b) ((0:Int),()) λ(y1:D_) bk1=>.br (decide (y1.1<(s.size:Int))) (.ob (0<=y1.1/\y1.1<(s.size:Int))<|.br ((↑(s.data.getD y1.1.toNat 0).toNat:Int)==b) (.lf K8 (y1.1,())) (.re (Value.string s)<|.re (Value.int IntKind.u8 b)<|.bk (bk1 (w1 y1.1,())))) (.lf K8 ((s.size:Int),()))) ?_;refine Ay ?_ λ(y1:D_) i1=>Z (λh2=>Ad ?_ λ_=>Z (λh4=>Y ?_) λh4=>Al<|Al<|AR ?_) (λh2=>Y ?_)<;>obtain⟨hp1,hp2,hp3⟩:=hp<;>(try obtain⟨a1,a2,a3⟩:=i1)<;>(try simp only[std,Nat.reduceAdd,Qf hp2 hp3] at *)<;>(try simp(disch:=omega) only[FS,C_] at *)<;>(try simp(disch:=omega) only[G_,F_])<;>(try have e:=AfX (show y1.1.toNat<s.size from O) h4 a3)<;>(try have t:=Ad8 (show y1.1.toNat<s.size from O) h4 a3)<;>(try have e:=AfJ (show s.size<=y1.1.toNat from O) a3)<;>(first|trivial|omega|grind))
def feed:Nat->ByteArray->List ai×ByteArray
 | 0,x=>([],x)
 | f+1,x=>
  if 0<idx 60 x/\idx 60 x<x.size then(⟨3,⟨#[]⟩,[],x.extract 0 (idx 60 x)⟩::(feed f (x.extract (idx 60 x) x.size)).1,(feed f (x.extract (idx 60 x) x.size)).2)
  else if idx 60 x≠0\/idx 62 x=x.size then([],x)
  else(if(tagO (x.extract 1 (idx 62 x))).2 then(tagO (x.extract 1 (idx 62 x))).1::(feed f (x.extract (idx 62 x+1) x.size)).1 else(feed f (x.extract (idx 62 x+1) x.size)).1,(feed f (x.extract (idx 62 x+1) x.size)).2)
def J4:∀ (f g:Nat) (x:ByteArray),x.size<f->x.size<g->feed f x=feed g x
 | 0,_,x,h,_=>O
 | _,0,x,_,h=>O
 | f+1,g+1,x,h1,h2=>by
  have hl:=JC 62 x;simp only[feed];split
  .rename_i hc;rw[J4 f g (x.extract (idx 60 x) x.size) (by rw[db];omega) (by rw[db];omega)]
  .split
   .rfl
   .rename_i hc;rw[J4 f g (x.extract (idx 62 x+1) x.size) (by rw[db];omega) (by rw[db];omega)]
def feedA (x:ByteArray):List ai×ByteArray:=feed (x.size+1) x
def Sr {x:ByteArray} (h:0<idx 60 x) (h2:idx 60 x<x.size):feedA x=(⟨3,⟨#[]⟩,[],x.extract 0 (idx 60 x)⟩::(feedA (x.extract (idx 60 x) x.size)).1,(feedA (x.extract (idx 60 x) x.size)).2):=by
 have e:feed x.size (x.extract (idx 60 x) x.size)=feedA (x.extract (idx 60 x) x.size):=J4 _ _ _ (by rw[db];omega) O;show feed (x.size+1) x=_;rw[feed,G_ ⟨h,h2⟩,e]
def Ko {x:ByteArray} (h:¬ (0<idx 60 x/\idx 60 x<x.size)) (h2:idx 60 x≠0\/idx 62 x=x.size):feedA x=([],x):=by
 show feed (x.size+1) x=_;rw[feed,F_ h,G_ h2]
def XK {x:ByteArray} (h:idx 60 x=0) (h2:idx 62 x<x.size):feedA x=(if(tagO (x.extract 1 (idx 62 x))).2 then(tagO (x.extract 1 (idx 62 x))).1::(feedA (x.extract (idx 62 x+1) x.size)).1 else(feedA (x.extract (idx 62 x+1) x.size)).1,(feedA (x.extract (idx 62 x+1) x.size)).2):=by
 have e:feed x.size (x.extract (idx 62 x+1) x.size)=feedA (x.extract (idx 62 x+1) x.size):=J4 _ _ _ (by rw[db];omega) O;show feed (x.size+1) x=_;rw[feed,F_ O,F_ O,e]
def Aa3 {x:ByteArray} (h:idx 60 x=0) (h2:idx 62 x<x.size):1<=idx 62 x:=by
 unfold idx at *
 have hl:(I x).length=x.size:=rfl;cases hx:I x with
 | nil=>rw[hx] at hl;simp only[bz] at hl;omega
 | cons c l=>
  grind
abbrev Km:Fct:=⟨[.v (.el .tokenizer),.v (.el .str)],[.sl .token,.el .tokenizer],λ(x:gx)=>x.1.rest.size<=50000000/\x.2.1.size<=50000000,λ(x:gx)=>((feedA (x.1.rest++x.2.1)).1,⟨(feedA (x.1.rest++x.2.1)).2⟩,())⟩
abbrev BM (t:dv) (s:ByteArray):LInv:=⟨[⟨.s,6,true,.sl .token⟩,⟨.s,7,true,.el .str⟩,⟨.b,5,true,.el .tokenizer⟩],λ(z x:eY)=>(x.1.length+x.2.1.size<=(t.rest++s).size/\x.1++(feedA x.2.1).1=(feedA (t.rest++s)).1/\(feedA x.2.1).2=(feedA (t.rest++s)).2)/\x.2.2.1=z.2.2.1,λ(x:eY)=>x.2.1.size⟩
def AoY:=ApZ.a Km<|Fct.p (KP [1,2,4,5,6,7,8,9,10,11] [26,46,57]) (λ⟨t,s,_⟩=>lv [(3,BM t s)]) ApZ.2 func66 (by
 rintro⟨(t:dv),(s:ByteArray),_⟩ hp;refine ho (let aq:=Value.string s;.ob (sameSize t.rest s)<|lpx (BM t s) ([],(t.rest++s,(default,()))) λ(y2:eY) bk2=>let O_:Out:=.lf Km (y2.1,⟨y2.2.1⟩,());let J_:=(y2.2.1.size:Int);.cl K8 (y2.2.1,(60:Int),()) λ(z2:D_)=>let ay:=0<=z2.1/\z2.1<=J_;let L_:=(⟨(3:Int),(⟨#[]⟩:ByteArray),[],y2.2.1.extract 0 z2.1.toNat⟩:ai);let H_:Out:=.cl K8 (y2.2.1,(62:Int),()) λ(z3:D_)=>let Y_:=0<=w1 z3.1/\w1 z3.1<=J_;.br (z2.1 != 0) O_ (.br (z3.1==J_) O_ (.ob ((0:Int)<=(1:Int)/\1<=z3.1/\z3.1<=J_)<|.cl Aag (y2.2.1.extract 1 z3.1.toNat,()) λz4=>.br (z4.2.1) (.ob (IM (y2.1.length+[z4.1].length) 64)<|.ob Y_<|.re aq<|.bk (bk2 (y2.1++[z4.1],(y2.2.1.extract (w1 z3.1).toNat y2.2.1.size,(y2.2.2.1,()))))) (.ob Y_<|.re aq<|.bk (bk2 (y2.1,(y2.2.1.extract (w1 z3.1).toNat y2.2.1.size,(y2.2.2.1,())))))));.br (decide (z2.1>0)) (.br (decide (z2.1<J_)) (.ob ay<|.ob (IM (y2.1.length+[L_].length) 64)<|.ob ay<|.re aq<|.bk (bk2 (y2.1++[L_],(y2.2.1.extract z2.1.toNat y2.2.1.size,(y2.2.2.1,()))))) H_) H_) ?_;repeat' (guard_target =~ Out.holds _ _;first|refine Ay (li:=BM t s) ?_ λ(y2:eY) i2=>?_|refine Y ?_|refine Z (λ_=>?_) λ_=>?_|refine Ai ?_ λ_=>?_|refine Ad ?_ λ_=>?_|refine AR ?_|refine Al ?_)
 all_goals (try obtain⟨⟨a1,a2,a3⟩,a4⟩:=i2)<;>(try simp only[std,Nat.reduceAdd] at *)<;>(try simp(disch:=omega) only[FS,C_] at *)<;>(try simp(disch:=omega) only[G_,F_])<;>(try simp only[show UInt8.ofNat (Int.toNat 60)=60 from rfl,show UInt8.ofNat (Int.toNat 62)=62 from rfl,eo,aQ] at *)<;>(try have k1:=JC 60 y2.2.1)<;>(try have k2:=JC 62 y2.2.1)<;>(try have k3:=Aa3 (x:=y2.2.1))<;>(try have k4:∀ a b,(y2.2.1.extract a b).size<=y2.2.1.size:=λa b=>by rw[db];omega)<;>(try simp(disch:=omega) only[FS] at *)<;>(first|trivial|omega|(unfold sameSize;omega)|(have:=k4 1 (idx 62 y2.2.1);omega)|skip)<;>(first|exact⟨Int.natCast_nonneg _,Int.ofNat_le.2 k1⟩|skip)<;>(try simp only[az,cw] at *)<;>(first|omega|exact⟨O,O⟩|exact⟨O,O,O⟩|skip)<;>(have k5:∀ a,(y2.2.1.extract a y2.2.1.size).size=y2.2.1.size-a:=λa=>by rw[db];omega)<;>(first|(rw[Ko (x:=y2.2.1) O O] at a2 a3;rw[cS] at a2;exact⟨a2,by rw[<-a3]⟩)|skip)<;>(first|rw[Sr (x:=y2.2.1) O O] at a2 a3|(rw[XK (x:=y2.2.1) O O] at a2 a3;first|rw[G_ ‹_›] at a2|rw[F_ (by rw[show Prod.snd _=false from ‹_›];decide)] at a2))<;>(try simp only[AE (show -9223372036854775808<=((idx 62 y2.2.1:Nat):Int)+1/\((idx 62 y2.2.1:Nat):Int)+1<=9223372036854775807 from O),show(((idx 62 y2.2.1:Nat):Int)+1).toNat=idx 62 y2.2.1+1 from O] at *)<;>refine⟨⟨⟨?_,?_,a3⟩,a4⟩,?_⟩<;>(first|(rw[k5];simp only[al,aw,bz];omega)|(rw[k5];omega)|exact a2|(rw[bK];exact a2)|skip))
def W0 {J:Type} [Inhabited J] (f:J->Nat) {l:List J} {i:Nat} (h:i<l.length):U f (l.drop i)=f (l.getD i default)+1+U f (l.drop (i+1)):=by rw[B_ h,Ah]
def Ny {b:UInt8}:∀ {l p q:List UInt8},GZ b l=some (p,q)->p.length+q.length+1=l.length
 | [],p,q,h=>by cases h
 | x::l,p,q,h=>by
  rw[GZ] at h;split at h
  .simp_all
  .obtain⟨r,hr,he⟩:=Option.map_eq_some_iff.1 h;have:=Ny (p:=r.1) (q:=r.2) hr;grind
def Od:∀ {l:List ByteArray} {acc ats:List cW},ta l acc=some ats->U B3 ats<=U B3 acc+U Ag l
 | [],acc,ats,h=>by simp only[ta,R_] at h;subst h;omega
 | w::l,acc,ats,h=>by
  simp only[ta] at h;split at h
  .cases h
  .rename_i r hr;split at h
   .have h1:=Od h;have h2:=Ny (p:=r.1) (q:=r.2) hr;rw[Dj] at h1;rw[Ah,Ag];rw[AU] at h2;simp only[B3,Df] at h1;omega
   .cases h
def AeN (s:ByteArray):szT (tagO s).1<=s.size:=by
 have h0:szT default=0:=by decide
 unfold tagO;split
 .simp only[h0];omega
 .split
  .split
   .simp only[szT,U,db,List.map_nil,List.sum_nil,bz,show ByteArray.size ⟨#[]⟩=0 from rfl];omega
   .simp only[h0];omega
  .have hs:=PH 32 s;have hp:=(Eg 32 s).1;cases ht:ta ((K 32 s).drop 1) [] with
   | none=>simp only[tagFin,h0];omega
   | some ats=>
    have h1:=Od ht;have h2:=W0 Ag (l:=K 32 s) (i:=0) hp;rw[fx,cM] at h2;have h3:U B3 []=0:=rfl;simp only[tagFin];simp only[Ag] at h2;split
    .simp only[szT,show ByteArray.size ⟨#[]⟩=0 from rfl];omega
    .simp only[h0];omega
def AkZ {b:UInt8} {x:ByteArray} (h:idx b x<x.size):idx b (x.extract (idx b x) x.size)=0:=by
 have hl:idx b x<(I x).length:=h;have hg:=List.findIdx_getElem (w:=hl);unfold idx at *
 rw[AI,cC (by rw[AU];exact X_ _),List.drop_eq_getElem_cons hl,List.findIdx_cons,hg];rfl
def Ae4:∀ (f:Nat) (x:ByteArray),U szT (feed f x).1+(feed f x).2.size<=x.size+(if idx 60 x=0 then 0 else 1):=by
 intro f
 induction f with
 | zero=>intro x;have:U szT []=0:=rfl;simp only[feed];omega
 | succ f ih=>
  intro x;have hl:=JC 62 x;have h3:U B3 []=0:=rfl;have h4:U szT []=0:=rfl;simp only[feed];split
  .rename_i hc;have:=ih (x.extract (idx 60 x) x.size);have hz:idx 60 (x.extract (idx 60 x) x.size)=0:=AkZ hc.2;rw[Ah];rw[G_ hz] at this;rw[F_ O];simp only[szT,db,show ByteArray.size ⟨#[]⟩=0 from rfl,h3] at *
   omega
  .split
   .simp_all
   .rename_i hc;have:=ih (x.extract (idx 62 x+1) x.size);have ht:=AeN (x.extract 1 (idx 62 x));have ho:=Aa3 (x:=x) O O;rw[db] at this ht;rw[G_ (show idx 60 x=0 from O)];have h5:U szT (feed f (x.extract (idx 62 x+1) x.size)).1+(feed f (x.extract (idx 62 x+1) x.size)).2.size<=x.size-(idx 62 x+1)+1:=by split at this<;>omega
    split
    .simp only[Ah];omega
    .dsimp only;omega
def endT (r:ByteArray):List ai:=if r=⟨#[]⟩\/r.data.getD 0 0=60 then[] else[⟨3,⟨#[]⟩,[],r⟩]
def OY (r:ByteArray):U szT (endT r)<=r.size+1:=by
 unfold endT;have h3:U B3 []=0:=rfl;have h4:U szT []=0:=rfl;split
 .omega
 .rw[Ah];simp only[szT,h3,h4,show ByteArray.size ⟨#[]⟩=0 from rfl];omega
def AlA {s:ByteArray} {i:Nat}:((s.data.getD i 0).toNat:Int)=60↔s.data.getD i 0=60:=AmA (b:=60) O
def AfK {s:ByteArray} (h:¬ s=⟨#[]⟩):0<s.size:=by
 rcases Nat.eq_zero_or_pos s.size with h0|h0
 .exact absurd (ByteArray.ext (Array.eq_empty_of_size_eq_zero h0)) h
 .exact h0
abbrev IQ:Fct:=⟨[.v (.el .tokenizer)],[.sl .token],λ(x:dv×Unit)=>x.1.rest.size<=1000000000000,λ(x:dv×Unit)=>(endT x.1.rest,())⟩
def ApJ:=AoY.a IQ<|Fct.o (KP [1,2] [11]) AoY.2 func65 (by
 rintro⟨(t:dv),_⟩ hp;refine ho (.br (t.rest.toList==(⟨#[]⟩:ByteArray).toList) (.lf IQ ([],())) (.ob ((0:Int)<=(0:Int)/\(0:Int)<(t.rest.size:Int))<|.br ((↑(t.rest.data.getD 0 0).toNat:Int)==60) (.lf IQ ([],())) (.lf IQ ([(⟨(3:Int),(⟨#[]⟩:ByteArray),[],t.rest⟩:ai)],())))) ?_;refine Z (λh1=>Y ?_) λh1=>Ad ?_ λ_=>Z (λh3=>Y ?_) λh3=>Y ?_;all_goals try simp only[std,Nat.reduceAdd,endT,AlA] at *
 all_goals have hz:=@AfK t.rest<;>(first|trivial|omega|(have:=hz ‹_›;omega)|rw[G_ (by first|exact .inl ‹_›|exact .inr ‹_›)]|rw[F_ (by rintro(h|h)<;>contradiction)]))
def MA (r:ByteArray):(endT r).length<=1:=by unfold endT;split<;>simp
theorem dK:(default:dv).rest=⟨#[]⟩/\(∀ s:ByteArray,(⟨#[]⟩:ByteArray)++s=s)/\ByteArray.size ⟨#[]⟩=0:=⟨rfl,λs=>ByteArray.ext (by simp),rfl⟩
def toke (s:ByteArray):List ai:=(feedA s).1++endT (feedA s).2
def KH (x:ByteArray):U szT (feedA x).1+(feedA x).2.size<=x.size+1:=by
 have:=Ae4 (x.size+1) x;unfold feedA;grind
def N4 (x:ByteArray):(feedA x).1.length+(feedA x).2.size<=x.size+1:=by
 have:=KH x;have:=Ac szT (feedA x).1;omega
abbrev M8:Fct:=⟨[.v (.el .str)],[.sl .token],λ(x:E_)=>x.1.size<=10000000,λ(x:E_)=>(toke x.1,())⟩
def ApH:=ApJ.a M8<|Fct.o [0,2,3,4] ApJ.2 func152 (by
 rintro⟨(s:ByteArray),_⟩ hp;refine ho (.cl Km (default,s,()) λz2=>.cl IQ (z2.2.1,()) λz3=>.ob (IM (z2.1.length+z3.1.length) 64)<|.lf M8 (z2.1++z3.1,())) ?_;refine Ai ?_ λ_=>(Ai ?_ λ_=>Ad ?_ λ_=>Y ?_)<;>(have hz:=N4 s;have he:=MA (feedA s).2;try simp only[std,Nat.reduceAdd,toke,dK] at *)<;>(try simp(disch:=omega) only[FS,C_] at *)<;>(try simp(disch:=omega) only[G_,F_])<;>(first|trivial|omega|grind[FS,C_,B_,K_,I_,maxLen,toke,dK]))
def arriveT (p:A_) (s:ByteArray):A_:=if p.ended=true then p else{ p with bp:=p.bp++(feedA (p.tok.rest++s)).1,tok:=⟨(feedA (p.tok.rest++s)).2⟩}
abbrev Gm:Fct:=⟨[.v (.el .page),.v (.el .str)],[.el .page],λ(x:dI)=>Au x.1<=1000000000000/\x.1.tok.rest.size<=10000000/\x.2.1.size<=10000000,λ(x:dI)=>(arriveT x.1 x.2.1,())⟩
def Apx:=ApH.a Gm<|Fct.o (KP [1,2,4,5,6,7] [11]) ApH.2 func29 (by
 rintro⟨(p:A_),(s:ByteArray),_⟩ hp;refine ho (.cl Be (p,()) λz2=>.br (p.ended) (.lf Gm (z2.1,())) (.cl Km (p.tok,s,()) λz3=>.ob (IM (z2.1.bp.length+z3.1.length) 64)<|.lf Gm ({z2.1 with tok:=z3.2.1,bp:=z2.1.bp++z3.1},()))) ?_;refine Ai ?_ λ_=>(Z (λh2=>Y ?_) λh2=>Ai ?_ λ_=>Ad ?_ λ_=>Y ?_)<;>(have hz:=N4 (p.tok.rest++s);have hl2:=Ac szT p.bp;have hq:U szT p.bp+p.tok.rest.size<=Au p:=by simp only[Au,EQ];omega)<;>rw[aQ] at hz<;>(try simp only[std,Nat.reduceAdd,arriveT] at *)<;>(try simp(disch:=omega) only[FS,C_] at *)<;>(try simp(disch:=omega) only[G_,F_])<;>(first|trivial|omega|grind[FS,C_,B_,K_,I_,maxLen,arriveT]))
def endPage (p:A_):A_:=if p.ended=true then p else{ p with bp:=p.bp++endT p.tok.rest,tok:=default,ended:=true }
abbrev JW:Fct:=⟨[.v (.el .page)],[.el .page],λ(x:ae)=>Au x.1<=1000000000000,λ(x:ae)=>(endPage x.1,())⟩
def Ao0:=Apx.a JW<|Fct.o (KP [1,2,3] [7]) Apx.2 func28 (λ⟨(p:A_),_⟩ hp=>hg (.cl Be (p,()) λz2=>.br (p.ended) (.lf JW (z2.1,())) (.cl IQ (p.tok,()) λz3=>.ob (IM (z2.1.bp.length+z3.1.length) 64)<|.lf JW ({z2.1 with tok:=default,bp:=z2.1.bp++z3.1,ended:=true},()))) (an_ @endPage.eq_1<|an_ (MA p.tok.rest)<|an_ (Ac szT p.bp)<|(by simp only[Au,EQ];omega:U szT p.bp+p.tok.rest.size<=Au p)))
def sty (l:List av):Bool:=l.all λs=>!(decide (s.mode=2) && !s.done)
def AcG {l:List av} {i:Nat} (h:i<l.length):sty (l.drop i)=(!(decide ((l.getD i default).mode=2) && !(l.getD i default).done)&&sty (l.drop (i+1))):=by rw[B_ h];rfl
def ZD {l:List av} {i:Nat} (h:l.length<=i):sty (l.drop i)=true:=by rw[cx h];rfl
abbrev Da:Fct:=⟨[.v (.el .page)],[.el .bool],λ(x:ae)=>x.1.bf.length<=1000000000000,λ(x:ae)=>(sty x.1.bf,())⟩
abbrev Bh (p:A_):LInv:=⟨[⟨.s,3,true,.el .int⟩,⟨.b,1,false,.el .page⟩],λ(z x:dE)=>(0<=x.1/\x.1<=p.bf.length/\sty (p.bf.drop x.1.toNat)=sty p.bf)/\x.2.1=z.2.1,λ(x:dE)=>p.bf.length-x.1.toNat⟩
def AoF:=Ao0.a Da<|Fct.p (KP [1,2,3] [8,26]) (λ⟨p,_⟩=>lv [(2,Bh p)]) Ao0.2 func109 (λ⟨(p:A_),_⟩ hp=>hg (.lq (Int×A_×PUnit) (Bh p).inv (Bh p).m ((0:Int),(p,())) λy1 bk1=>.br (decide (y1.1<(y1.2.1.bf.length:Int))) (.ob (inB y1.1 y1.2.1.bf.length)<|.br ((y1.2.1.bf.getD y1.1.toNat default).mode==2) (.ob (inB y1.1 y1.2.1.bf.length)<|.br (!(y1.2.1.bf.getD y1.1.toNat default).done) (.lf Da (false,())) (.bk (bk1 (w1 y1.1,(y1.2.1,()))))) (.bk (bk1 (w1 y1.1,(y1.2.1,()))))) (.lf Da (true,()))) (an_ @AcG<|@ZD))
def tex (n:Int):List cT->ByteArray->ByteArray
 | [],s=>s
 | x::l,s=>tex n l (if x.parent=n/\x.name=⟨#[]⟩ then s++x.text else s)
def Ab5 {n:Int} {l:List cT} {i:Nat} {s:ByteArray} (h:i<l.length):tex n (l.drop i) s=tex n (l.drop (i+1)) (if(l.getD i default).parent=n/\(l.getD i default).name=⟨#[]⟩ then s++(l.getD i default).text else s):=by rw[B_ h];rfl
def XV {n:Int} {l:List cT} {i:Nat} {s:ByteArray} (h:l.length<=i):tex n (l.drop i) s=s:=by rw[cx h];rfl
abbrev VW:Fct:=⟨[.v (.el .ba),.v (.el .int)],[.el .str],λ(x:eZ)=>szB x.1<=1000000000000,λ(x:eZ)=>(tex x.2.1 x.1.bj ⟨#[]⟩,())⟩
abbrev Ez (b:am) (n:Int):LInv:=⟨[⟨.s,5,true,.el .str⟩,⟨.s,6,true,.el .int⟩,⟨.b,2,false,.el .ba⟩],λ(z x:gy)=>(0<=x.2.1/\x.2.1<=b.bj.length/\x.1.size+U AS (b.bj.drop x.2.1.toNat)<=U AS b.bj/\tex n (b.bj.drop x.2.1.toNat) x.1=tex n b.bj ⟨#[]⟩)/\x.2.2.1=z.2.2.1,λ(x:gy)=>b.bj.length-x.2.1.toNat⟩
def An9:=AoF.a VW<|Fct.p (KP [1,2,4,5,6] [11,30]) (λ⟨b,n,_⟩=>lv [(3,Ez b n)]) AoF.2 func111 (λ⟨(b:am),(n:Int),_⟩ hp=>hg (let aq:=Value.int IntKind.i64 n;let Y_:=Ez b n;let O_:=(⟨#[]⟩:ByteArray);.lq (ByteArray×Int×am×PUnit) Y_.inv Y_.m (O_,((0:Int),(b,()))) λy1 bk1=>let L_:=inB y1.2.1 y1.2.2.1.bj.length;let J_:=y1.2.2.1.bj.getD y1.2.1.toNat default;let H_:Out:=.re aq<|.re (Value.string O_)<|.bk (bk1 (y1.1,(w1 y1.2.1,(y1.2.2.1,()))));.br (decide (y1.2.1<(y1.2.2.1.bj.length:Int))) (.ob L_<|.br (J_.parent==n) (.ob L_<|.br (J_.name.toList==O_.toList) (.ob L_<|.ob (sameSize y1.1 J_.text)<|.re aq<|.re (Value.string O_)<|.bk (bk1 (y1.1++J_.text,(w1 y1.2.1,(y1.2.2.1,()))))) H_) H_) (.lf VW (y1.1,()))) (an_ @Ab5<|an_ @XV<|an_ @sameSize.eq_1<|an_ @aQ<|an_ @AS.eq_1<|an_ (Ac AS b.bj)<|an_ (by simp only[szB];omega:U AS b.bj<=szB b)<|(λi h=>W0 AS h:∀ i,i<b.bj.length->U AS (b.bj.drop i)=AS (b.bj.getD i default)+1+U AS (b.bj.drop (i+1)))))
def countName (n:ByteArray) (l:List cT):Int:=countIf (λx=>decide (x.name=n)) l
abbrev D4:Fct:=⟨[.v (.el .ba),.v (.el .str)],[.el .int],λ(x:e7)=>x.1.bj.length<=1000000000000,λ(x:e7)=>(countName x.2.1 x.1.bj,())⟩
abbrev BC (b:am) (n:ByteArray):LInv:=⟨[⟨.s,5,true,.el .int⟩,⟨.s,6,true,.el .int⟩,⟨.b,2,false,.el .ba⟩],λ(z x_:gA)=>(0<=x_.2.1/\x_.2.1<=b.bj.length/\0<=x_.1/\x_.1<=x_.2.1/\x_.1+countIf (λx=>decide (x.name=n)) (b.bj.drop x_.2.1.toNat)=countName n b.bj)/\x_.2.2.1=z.2.2.1,λ(x_:gA)=>b.bj.length-x_.2.1.toNat⟩
def AoS:=An9.a D4<|Fct.p (KP [1,2,4,5,6] [11,21]) (λ⟨b,n,_⟩=>lv [(3,BC b n)]) An9.2 func254 (λ⟨(b:am),(n:ByteArray),_⟩ hp=>hg (.lq (Int×Int×am×PUnit) (BC b n).inv (BC b n).m ((0:Int),((0:Int),(b,()))) λy1 bk1=>.br (decide (y1.2.1<(y1.2.2.1.bj.length:Int))) (.ob (inB y1.2.1 y1.2.2.1.bj.length)<|.br ((y1.2.2.1.bj.getD y1.2.1.toNat default).name.toList==n.toList) (.re (Value.string n)<|.re (Value.int IntKind.i64 (0:Int))<|.bk (bk1 (w1 y1.1,(w1 y1.2.1,(y1.2.2.1,()))))) (.re (Value.string n)<|.re (Value.int IntKind.i64 (0:Int))<|.bk (bk1 (y1.1,(w1 y1.2.1,(y1.2.2.1,())))))) (.lf D4 (y1.1,()))) (an_ @countName.eq_1<|an_ @countIf.eq_1<|an_ @countIf.eq_2<|@aU))
def colR (n:ByteArray) (rs:List dL) (z:Int):Nat->Int
 | 0=>z
 | m+1=>if(rs.getD m default).name=n then(rs.getD m default).color else colR n rs z m
def colS (n:ByteArray) (l:List bF):Nat->Int
 | 0=>0
 | m+1=>colR n (l.getD m default).rules (colS n l m) (l.getD m default).rules.length
def colorOf (l:List bF) (n:ByteArray):Int:=colS n l l.length
def Z0 {n:ByteArray} {rs:List dL} {z k:Int} (h:0<=k):colR n rs z (k+1).toNat=if(rs.getD k.toNat default).name=n then(rs.getD k.toNat default).color else colR n rs z k.toNat:=by
 rw[show(k+1).toNat=k.toNat+1 from O];rfl
def Abd {n:ByteArray} {l:List bF} {k:Int} (h:0<=k):colS n l (k+1).toNat=colR n (l.getD k.toNat default).rules (colS n l k.toNat) (l.getD k.toNat default).rules.length:=by
 rw[show(k+1).toNat=k.toNat+1 from O];rfl
def Ags {n:ByteArray} {rs:List dL} {z k:Int} (h:k<0):colR n rs z (k+1).toNat=z:=by
 rw[show(k+1).toNat=0 from O];rfl
def Age {n:ByteArray} {l:List bF} {k:Int} (h:k<0):colS n l (k+1).toNat=0:=by
 rw[show(k+1).toNat=0 from O];rfl
def AgU {n:ByteArray} {l:List bF}:colS n l ((l.length:Int)-1+1).toNat=colorOf l n:=by
 rw[show((l.length:Int)-1+1).toNat=l.length from O];rfl
def WF {n:ByteArray} {rs:List dL} {z:Int}:colR n rs z ((rs.length:Int)-1+1).toNat=colR n rs z rs.length:=by
 simp
abbrev FQ:Fct:=⟨[.v (.sl .sheet),.v (.el .str)],[.el .int],λ(x:gB)=>U ET x.1<=1000000000000,λ(x:gB)=>(colorOf x.1 x.2.1,())⟩
abbrev Dx (l:(List bF)) (n:ByteArray):LInv:=⟨[⟨.s,5,true,.el .int⟩],λ_ (x:D_)=>-1<=x.1/\x.1<l.length/\colS n l (x.1+1).toNat=colorOf l n,λ(x:D_)=>(x.1+1).toNat⟩
abbrev DA (l:(List bF)) (n:ByteArray):LInv:=⟨[⟨.s,6,true,.el .int⟩,⟨.s,5,true,.el .int⟩],λ(z x:aR)=>x.2.1=z.2.1/\0<=x.2.1/\x.2.1<l.length/\-1<=x.1/\x.1<(l.getD x.2.1.toNat default).rules.length/\colR n (l.getD x.2.1.toNat default).rules (colS n l x.2.1.toNat) (x.1+1).toNat=colorOf l n,λ(x:aR)=>(x.1+1).toNat⟩
def AnR:=AoS.a FQ<|Fct.p (KP [0,1,4,5,6] [11,22,35]) (λ⟨l,n,_⟩=>λ|2=>some (Dx l n)|5=>some (DA l n)|_=>none) AoS.2 func255 (by
 rintro⟨(l:List bF),(n:ByteArray),_⟩ hp;refine ho (lpx (Dx l n) (wr ((l.length:Int)-(1:Int)),()) λ(y1:D_) bk1=>.br (decide (y1.1>=0)) (.ob (inB y1.1 l.length)<|lpx (DA l n) (wr ((↑(l.getD y1.1.toNat default).rules.length:Int)-(1:Int)),(y1.1,())) λ(y4:aR) bk4=>let O_:=inB y4.2.1 l.length;let H_:=l.getD y4.2.1.toNat default;let L_:=H_.rules.getD y4.1.toNat default;let J_:=0<=y4.1/\y4.1<(H_.rules.length:Int);.br (decide (y4.1>=0)) (.ob O_<|.ob J_<|.br (L_.name.toList==n.toList) (.ob O_<|.ob J_<|.lf FQ (L_.color,())) (.re (l)<|.re (Value.string n)<|.bk (bk4 (wr (y4.1-(1:Int)),(y4.2.1,()))))) (.re (l)<|.re (Value.string n)<|.bk (bk1 (wr (y4.2.1-(1:Int)),())))) (.lf FQ ((0:Int),()))) ?_;refine Ay ?_ λ(y1:D_) i1=>Z (λh2=>Ad ?_ λ_=>Ay ?_ λ(y4:aR) i4=>Z (λh5=>Ad ?_ λ_=>Ad ?_ λ_=>Z (λh8=>Ad ?_ λ_=>Ad ?_ λ_=>Y ?_) λh8=>Al<|Al<|AR ?_) λh5=>Al<|Al<|AR ?_) (λh2=>Y ?_)<;>(have hl:=Ac ET l;have hx:∀ i,i<l.length->(l.getD i default).rules.length<=1000000000000:=λi h=>by have:=Cy ET (l:=l) h;have h2:=Ac OR (l.getD i default).rules;have h3:U ET l<=1000000000000:=hp;simp only[ET] at this;omega)<;>(try simp only[std,Nat.reduceAdd] at *)<;>(first|trivial|omega|(rw[AE O];exact⟨O,O,AgU⟩)|(obtain⟨a1,a2,a3⟩:=i1))<;>(first|trivial|omega|(have:=hx y1.1.toNat O;rw[AE O];first|exact⟨O,O,O,O,O,by rw[WF,<-Abd O];exact a3⟩|exact⟨O,O,O,O,by rw[WF,<-Abd O];exact a3⟩)|(rw[Age O] at a3;exact a3)|(obtain⟨b0,b1,b2,b3,b4,b5⟩:=i4))<;>(first|(have:=hx y4.2.1.toNat O)|skip)<;>(first|(rw[Z0 O,G_ ‹_›] at b5;exact b5)|(rw[Z0 O,F_ ‹_›] at b5;rw[AE O,show(y4.1-1+1).toNat=y4.1.toNat from O];exact⟨⟨O,O,O,O,O,b5⟩,O⟩)|(rw[Ags O] at b5;rw[AE O,show(y4.2.1-1+1).toNat=y4.2.1.toNat from O];exact⟨⟨O,O,b5⟩,O⟩)|omega|skip))
def words8:List ByteArray:=[⟨#[]⟩,⟨#[119,114,105,116,101,32]⟩,⟨#[97,100,100,32]⟩,⟨#[99,111,117,110,116,32]⟩,⟨#[108,111,111,107,32]⟩,⟨#[115,97,121,32]⟩]
abbrev UF:Fct:=⟨[],[.sl .str],λ(x:Unit)=>True,λ(x:Unit)=>(words8,())⟩
def Aoo:=AnR.a UF<|Fct.o [0] AnR.2 func252 (by
 rintro⟨_⟩ hp;exact hg (.lf UF ([(⟨#[]⟩:ByteArray),(⟨#[119,114,105,116,101,32]⟩:ByteArray),(⟨#[97,100,100,32]⟩:ByteArray),(⟨#[99,111,117,110,116,32]⟩:ByteArray),(⟨#[108,111,111,107,32]⟩:ByteArray),(⟨#[115,97,121,32]⟩:ByteArray)],())) (@words8.eq_1))
def line8L (s:ByteArray):List ByteArray->Int->bU×Bool
 | [],_=>(default,false)
 | w::l,op=>if w.size<=s.size/\s.extract 0 w.size=w then(⟨op,s.extract w.size s.size⟩,if op=1\/op=5 then decide (s.size-w.size<=60) else isName (s.extract w.size s.size)) else line8L s l (op+1)
def AbO {s:ByteArray} {l:List ByteArray} {i:Nat} {k:Int} (h:i<l.length):line8L s (l.drop i) k=if(l.getD i default).size<=s.size/\s.extract 0 (l.getD i default).size=l.getD i default then(⟨k,s.extract (l.getD i default).size s.size⟩,if k=1\/k=5 then decide (s.size-(l.getD i default).size<=60) else isName (s.extract (l.getD i default).size s.size)) else line8L s (l.drop (i+1)) (k+1):=by rw[B_ h];rfl
def Zu {s:ByteArray} {l:List ByteArray} {i:Nat} {k:Int} (h:l.length<=i):line8L s (l.drop i) k=(default,false):=by rw[cx h];rfl
def line8 (s:ByteArray):bU×Bool:=line8L s (words8.drop 1) 1
def Lz:words8.length=6:=rfl
abbrev Py:Fct:=⟨[.v (.el .str)],[.el .line,.el .bool],λ(x:E_)=>x.1.size<=1000000000000,λ(x:E_)=>((line8 x.1).1,(line8 x.1).2,())⟩
abbrev EF (s:ByteArray):LInv:=⟨[⟨.s,5,true,.el .int⟩,⟨.b,2,true,.el .line⟩,⟨.s,4,true,.sl .str⟩],λ(z x:e8)=>((1<=x.1/\x.1<=6/\line8L s (words8.drop x.1.toNat) x.1=line8 s)/\x.2.1=z.2.1)/\x.2.2.1=z.2.2.1,λ(x:e8)=>(6-x.1).toNat⟩
def AoN:=Aoo.a Py<|Fct.p (KP [0,2,3,4,5,6,7,8] [13,32]) (λ⟨s,_⟩=>lv [(3,EF s)]) Aoo.2 func207 (by
 rintro⟨(s:ByteArray),_⟩ hp;refine ho (.cl UF () λz2=>lpx (EF s) ((1:Int),(default,(z2.1,()))) λ(y1:e8) bk1=>let bQ:=y1.2.2.1.getD y1.1.toNat default;let aq:Out:=.re (Value.string s)<|.bk (bk1 (w1 y1.1,(y1.2.1,(y1.2.2.1,()))));let H_:=(bQ.size:Int);let bD:=(0:Int)<=H_/\H_<=(s.size:Int);let aJ:=decide ((↑(s.extract H_.toNat s.size).size:Int)<=60);let ay:Out:=.lf Py (⟨y1.1,s.extract H_.toNat s.size⟩,true,());let Y_:Out:=.lf Py (⟨y1.1,s.extract H_.toNat s.size⟩,false,());let O_:Out:=.cl By (s.extract H_.toNat s.size,()) λz3=>.lf Py (⟨y1.1,s.extract H_.toNat s.size⟩,z3.1,());let aK:Out:=.br (!y1.1==5) O_ Y_;let L_:Out:=.br aJ ay (.br (!true) O_ Y_);let J_:Out:=.br (y1.1==5) (.br aJ ay aK) aK;.br (decide (y1.1<(y1.2.2.1.length:Int))) (.ix y1.1 y1.2.2.1.length<|.br (decide ((s.size:Int)>=H_)) (.ob bD<|.br ((s.extract 0 H_.toNat).toList==bQ.toList) (.ob bD<|.br (y1.1==1) (.lp (Bool) (True) (λx=>True) λy10=>.br (y10) (.lp (Bool) (True) (λx=>True) λy12=>.br (y12) L_ L_) L_) (.lp (Bool) (True) (λx=>True) λy23=>.br (y23) (.lp (Bool) (True) (λx=>True) λy25=>.br (y25) J_ J_) J_)) aq) aq) (.lf Py (default,false,()))) ?_;refine Ai trivial λ_=>(Ay ?_ λ(y1:e8) i1=>Z (λh2=>Ey ?_ λo3 o4=>Z (λh5=>Ad ?_ λ_=>Z (λh7=>Ad ?_ λ_=>Z (λh9=>HT trivial λy10 i10=>Z (λh11=>HT trivial λy12 i12=>Z (λh13=>Z (λh14=>Y ?_) λh14=>Z (λh15=>Ai ?_ λ_=>Y ?_) λh15=>Y ?_) λh13=>Z (λh17=>Y ?_) λh17=>Z (λh18=>Ai ?_ λ_=>Y ?_) λh18=>Y ?_) λh11=>Z (λh20=>Y ?_) λh20=>Z (λh21=>Ai ?_ λ_=>Y ?_) λh21=>Y ?_) λh9=>HT trivial λy23 i23=>Z (λh24=>HT trivial λy25 i25=>Z (λh26=>Z (λh27=>Z (λh28=>Y ?_) λh28=>Z (λh29=>Ai ?_ λ_=>Y ?_) λh29=>Y ?_) λh27=>Z (λh31=>Ai ?_ λ_=>Y ?_) λh31=>Y ?_) λh26=>Z (λh33=>Z (λh34=>Y ?_) λh34=>Z (λh35=>Ai ?_ λ_=>Y ?_) λh35=>Y ?_) λh33=>Z (λh37=>Ai ?_ λ_=>Y ?_) λh37=>Y ?_) λh24=>Z (λh39=>Z (λh40=>Y ?_) λh40=>Z (λh41=>Ai ?_ λ_=>Y ?_) λh41=>Y ?_) λh39=>Z (λh43=>Ai ?_ λ_=>Y ?_) λh43=>Y ?_) λh7=>Al<|AR ?_) λh5=>Al<|AR ?_) λh2=>Y ?_)<;>(have k2:∀ a,(s.extract a s.size).size=s.size-a:=λa=>by rw[db];omega)<;>(try simp only[std,Nat.reduceAdd] at *)<;>(first|exact⟨O,O,rfl⟩|(obtain⟨⟨⟨a1,a2,a3⟩,a4⟩,a5⟩:=i1;simp only[a5,Lz,eo,k2] at *))<;>(first|trivial|omega|skip)<;>(try have e:=AbO (s:=s) (l:=words8) (i:=y1.1.toNat) (k:=y1.1) (by rw[Lz];omega);rw[a3] at e)<;>(first|(rw[F_ (by rintro⟨q1,q2⟩;first|omega|exact absurd q2 ‹_›)] at e;rw[AE O,show(y1.1+1).toNat=y1.1.toNat+1 from O];exact⟨⟨⟨⟨O,O,e.symm⟩,a4⟩,trivial⟩,O⟩)|skip)<;>(try have e:=Zu (s:=s) (l:=words8) (i:=y1.1.toNat) (k:=y1.1) (by rw[Lz];omega);rw[a3] at e;rw[e];exact⟨by first|assumption|rfl,rfl⟩)<;>rw[G_ (by exact⟨O,‹_›⟩)] at e<;>(rw[e];refine⟨rfl,?_⟩)<;>(first|rw[G_ O]|rw[F_ O])<;>(first|rfl|(rw[cP O])|(rw[decide_eq_false O])))
def lines8 (l:List ByteArray):List bU:=l.map λw=>(line8 w).1
def allOk8 (l:List ByteArray):Bool:=l.all λw=>(line8 w).2
def parseS (s:ByteArray):List bU×Bool:=if s=⟨#[]⟩ then([],true) else if(K 59 s).length<=6/\allOk8 (K 59 s)=true then(lines8 (K 59 s),true) else([],false)
abbrev De:Fct:=⟨[.v (.el .str)],[.sl .line,.el .bool],λ(x:E_)=>x.1.size<=4200000000,λ(x:E_)=>((parseS x.1).1,(parseS x.1).2,())⟩
def Uc {l:List ByteArray} {i:Nat} (h:i<l.length):lines8 (l.take (i+1))=lines8 (l.take i)++[(line8 (l.getD i default)).1]/\allOk8 (l.take (i+1))=(allOk8 (l.take i)&&(line8 (l.getD i default)).2):=by
 rw[Q_ h];exact⟨by simp[lines8],by simp[allOk8]⟩
def Adg {l:List ByteArray} {i:Nat} (h:i<l.length) (h2:(line8 (l.getD i default)).2=false):allOk8 l=false:=by
 unfold allOk8;grind
abbrev B1 (s:ByteArray):LInv:=⟨[⟨.s,4,true,.sl .line⟩,⟨.s,6,true,.el .int⟩,⟨.s,5,true,.sl .str⟩],λ(z x:fe)=>(0<=x.2.1/\x.2.1<=(K 59 s).length/\(x.2.1=0\/(K 59 s).length<=6)/\x.1=lines8 ((K 59 s).take x.2.1.toNat)/\allOk8 ((K 59 s).take x.2.1.toNat)=true)/\x.2.2.1=z.2.2.1,λ(x:fe)=>(K 59 s).length-x.2.1.toNat⟩
def Aqa:=AoN.a De<|Fct.p (KP [0,2,3,4,5,6,7,8] [11,18,35]) (λ⟨s,_⟩=>lv [(6,B1 s)]) AoN.2 func149 (by
 rintro⟨(s:ByteArray),_⟩ hp;refine ho (.br (s.toList==(⟨#[]⟩:ByteArray).toList) (.lf De ([],true,())) (.cl DQ (s,(59:Int),()) λz2=>lpx (B1 s) ([],((0:Int),(z2.1,()))) λ(y3:fe) bk3=>.br (decide (y3.2.1<(y3.2.2.1.length:Int))) (.ix y3.2.1 y3.2.2.1.length<|.cl Py (y3.2.2.1.getD y3.2.1.toNat default,()) λz3=>.br (!z3.2.1) (.lf De ([],false,())) (.br (decide ((y3.2.2.1.length:Int)>6)) (.lf De ([],false,())) (.ap (y3.1.length+[z3.1].length) 24<|.re (Value.string s)<|.bk (bk3 (y3.1++[z3.1],(w1 y3.2.1,(y3.2.2.1,()))))))) (.lf De (y3.1,true,())))) ?_;refine Z (λh1=>Y ?_) λh1=>Ai ?_ λ_=>Ay ?_ λ(y3:fe) i3=>Z (λh4=>Ey ?_ λo5 o6=>Ai ?_ λ_=>Z (λh8=>Y ?_) λh8=>Z (λh9=>Y ?_) λh9=>FB ?_ λ_=>Al<|AR ?_) λh4=>Y ?_;all_goals
  have hk:=Eg 59 s;have hm:∀ i,i<(K 59 s).length->((K 59 s).getD i default).size<=s.size:=λi h=>RC (Ae h)
  have hp1:s.size<=4200000000:=hp;try simp only[std,Nat.reduceAdd,show UInt8.ofNat (Int.toNat 59)=59 from rfl] at *
 all_goals (first|trivial|omega|(unfold parseS;rw[G_ ‹_›];exact⟨rfl,rfl⟩)|exact⟨O,O,.inl (by trivial),rfl,rfl⟩|exact⟨O,by decide,by decide⟩|(obtain⟨⟨a1,a2,a3,a4,a5⟩,a6⟩:=i3;simp only[a6] at *))<;>(try have hl:y3.1.length<=(K 59 s).length:=by rw[a4,lines8,cE,cZ];omega)<;>(first|trivial|omega|(have:=hm y3.2.1.toNat O;omega)|skip)<;>(first|(unfold parseS;rw[F_ ‹_›,F_ (by rintro⟨q1,q2⟩;rw[Adg (i:=y3.2.1.toNat) O ‹_›] at q2;cases q2)];exact⟨rfl,rfl⟩)|(unfold parseS;rw[F_ ‹_›,F_ O];exact⟨rfl,rfl⟩)|skip)<;>(first|(rw[cC (l:=K 59 s) (i:=y3.2.1.toNat) O] at a4 a5;unfold parseS;rw[F_ ‹_›,G_ (by exact⟨O,a5⟩)];exact⟨a4,rfl⟩)|skip)<;>(first|(have e:=Uc (l:=K 59 s) (i:=y3.2.1.toNat) O;rw[AE O,show(y3.2.1+1).toNat=y3.2.1.toNat+1 from O];refine⟨⟨⟨O,O,.inr O,by rw[e.1,a4],by rw[e.2,a5];assumption⟩,by first|assumption|trivial⟩,O⟩)|skip))
def mk8 (x:UInt8):UInt8:=if x=91 then 60 else if x=93 then 62 else x
def markup (s:ByteArray):ByteArray:=ofL ((I s).map mk8)
abbrev enc8 (x:UInt8):Value:=.int .u8 (x.toNat:Int)
abbrev Ux:Fct:=⟨[aT],[rT],λx=>x.1.size<=1000000000000,λx=>(markup x.1,())⟩
open Go.RowKit Go.Lib Go.Sort in
def V1 (w:World) (e:TypeId) (s:ByteArray):Holds enc8 (bytesWorld w e s) w.heap.size 0 s.data:=by
 intro j hj;have hn:=bytesWorld_at_new w e s;refine⟨?_,?_⟩
 .simp only[World.cell?,cM,hn];have:(Lib.bytesCells w e s)[j]? = some (.int .u8 s.data[j].toNat):=by unfold Lib.bytesCells;grind
  grind
 .have h2:j<(bytesCells w e s).size:=by unfold Lib.bytesCells;rw[Array.size_append,Array.size_map];omega
  simp[World.frozen?,hn];omega
open Go.RowKit Go.Lib Go.Sort in
def Mu {s:ByteArray} {dk:Array UInt8} {i:Nat} {y:UInt8} (hi:i<s.size) (hs:dk.size=s.data.size) (hd:∀ t,t<s.size->dk[t]! = if t<i then mk8 s.data[t]! else s.data[t]!) (hy:y=mk8 s.data[i]!) :
 (dk.setIfInBounds i y).size=s.data.size/\∀ t,t<s.size->(dk.setIfInBounds i y)[t]! = if t<i+1 then mk8 s.data[t]! else s.data[t]!:=by
 have hsz:s.data.size=s.size:=rfl;refine⟨by rw[Array.size_setIfInBounds];exact hs,λt ht=>?_⟩;by_cases h:t=i
 .subst h;rw[getElem!_set_same _ _ _ O,G_ O,hy]
 .rw[getElem!_pos _ t (by rw[Array.size_setIfInBounds];omega),Array.getElem_setIfInBounds O,F_ λe=>h e.symm,<-getElem!_pos dk t O,hd t ht];by_cases h2:t<i
  .rw[G_ h2,G_ O]
  .rw[F_ h2,F_ O]
open Go.RowKit Go.Lib Go.Sort in
def Afs {s:ByteArray} {dk:Array UInt8} {i:Nat} (hi:i<s.size) (hs:dk.size=s.data.size) (hd:∀ t,t<s.size->dk[t]! = if t<i then mk8 s.data[t]! else s.data[t]!) (hy:s.data[i]! = mk8 s.data[i]!) :
 ∀ t,t<s.size->dk[t]! = if t<i+1 then mk8 s.data[t]! else s.data[t]!:=by
 intro t ht;rw[hd t ht];by_cases h:t=i
 .subst h;rw[F_ (Nat.lt_irrefl _),G_ O,<-hy]
 .by_cases h2:t<i
  .rw[G_ h2,G_ O]
  .rw[F_ h2,F_ O]
def AkN {x:UInt8} (h:((x.toNat:Int)==91)=true):60=mk8 x:=by
 have:x=91:=by apply UInt8.toNat_inj.1;have:=da.1 h;exact Int.ofNat.inj this
 subst this;rfl
def AkF {x:UInt8} (h:((x.toNat:Int)==91)=false) (h2:((x.toNat:Int)==93)=true):62=mk8 x:=by
 have:x=93:=by apply UInt8.toNat_inj.1;have:=da.1 h2;exact Int.ofNat.inj this
 subst this;rfl
def Amu {x:UInt8} (h:((x.toNat:Int)==91)=false) (h2:((x.toNat:Int)==93)=false):x=mk8 x:=by
 unfold mk8;rw[F_ (by rintro rfl;cases h),F_ (by rintro rfl;cases h2)]
open Go.RowKit Go.Lib Go.Sort in
def Vs (s:ByteArray) (hs1:s.size<=1000000000000) (w:World):Calls Tryz.prog 253 #[.string s] w λe w'=>e=.returned (.string (markup s))/\∃ dk,dk.size=s.data.size/\w'=putRow enc8 (bytesWorld w 5 s) w.heap.size 0 dk:=by
 have hcv:=λ(w:World)=>Lib.run_convert_string_bytes w 9 22 5 s Tryz.underlying9 Tryz.underlying22 Tryz.underlying5
 have hH:=V1 w 5 s;have hsz:s.data.size=s.size:=rfl
 go_enter func253,Tryz.ntmps253
 go_wp2
 generalize hW1:bytesWorld w 5 s=W1 at *
 go_loopw [4] (λvi wr=>∃ (i:Nat) (dk:Array UInt8),vi=.int .i64 i/\i<=s.size/\dk.size=s.data.size/\wr=putRow enc8 W1 w.heap.size 0 dk/\(∀ t,t<s.size->dk[t]! = if t<i then mk8 s.data[t]! else s.data[t]!)) (λvi _=>s.size+1-(RowKit.intOf vi).toNat)
 case atStart=>exact⟨0,s.data,rfl,O,rfl,(putRow_self _ _ _ _ _ hH).symm,λt ht=>by rw[F_ O]⟩
 case round=>
  obtain⟨i,dk,rfl,hi,hsk,hw,hd⟩:=hrel;by_cases h1:i<s.size
  .have hcd:=cell?_putRow enc8 W1 w.heap.size 0 s.data dk hH hsk i O;have hfz:wr.frozen? ⟨w.heap.size,0+i,none⟩=false:=by rw[hw,frozen?_putRow];exact(hH i O).2
   rw[<-hw,cM] at hcd;rw[cM] at hfz;have hxi:=hd i h1;rw[F_ (Nat.lt_irrefl _)] at hxi;rw[hxi] at hcd;generalize hx:s.data[i]! = x at *
   dsimp only[enc8] at hcd;have hst:=λy=>putRow_set enc8 W1 w.heap.size 0 dk i y O
   rw[cM] at hst;have hW:Hid (wr=putRow enc8 W1 w.heap.size 0 dk):=hw;have hD:Hid (∀ t,t<s.size->dk[t]! = if t<i then mk8 s.data[t]! else s.data[t]!):=hd;have hS:Hid (∀ y,(putRow enc8 W1 w.heap.size 0 dk).setCell ⟨w.heap.size,i,none⟩ (enc8 y)=putRow enc8 W1 w.heap.size 0 (dk.setIfInBounds i y)):=hst;clear hw hd hst hH hxi
   go_wp2
   case roundEnd=>
    exact⟨⟨i+1,dk.setIfInBounds i 60,rfl,h1,(Mu h1 hsk hD.out (by rw[hx];exact AkN ‹_›)).1,by rw[hW.out];exact hS.out 60,(Mu h1 hsk hD.out (by rw[hx];exact AkN ‹_›)).2⟩,by simp only[RowKit.intOf];omega⟩
   case roundEnd=>
    exact⟨⟨i+1,dk.setIfInBounds i 62,rfl,h1,(Mu h1 hsk hD.out (by rw[hx];exact AkF ‹_› ‹_›)).1,by rw[hW.out];exact hS.out 62,(Mu h1 hsk hD.out (by rw[hx];exact AkF ‹_› ‹_›)).2⟩,by simp only[RowKit.intOf];omega⟩
   case roundEnd=>
    exact⟨⟨i+1,dk,rfl,h1,hsk,hW.out,Afs h1 hsk hD.out (by rw[hx];exact Amu ‹_› ‹_›)⟩,by simp only[RowKit.intOf];omega⟩
  .have hie:i=s.size:=O
   subst hie;have hback:=run_convert_bytes_back (P:=Tryz.prog) wr 22 9 5 ⟨w.heap.size,0,none⟩ (grownCap w s.size 0 5) dk.toList Tryz.underlying22 Tryz.underlying5 Tryz.underlying9 (λj hj=>by
    have hj2:j<dk.size:=by simpa using hj
    have:=cell?_putRow enc8 W1 w.heap.size 0 s.data dk hH hsk j hj2;rw[<-hw] at this;rw[Addr.add_lit,this];simp[getElem!_pos dk j hj2])
   have hl:dk.toList.length=s.size:=by simpa using hsk
   rw[hl,hw] at hback;have hfin:markup s=⟨dk.toList.toArray⟩:=by
    unfold markup ofL;congr 2;apply List.ext_getElem (by simp[AU,hl]);intro k h2 h3;have hk:k<s.size:=O
    have:=hd k hk;rw[G_ hk,getElem!_pos dk k O,getElem!_pos s.data k hk] at this;simp[I,this]
   have hfin:Hid _:=hfin;have hw:Hid _:=hw
   go_wp2
   go_ret
   exact⟨by rw[hfin.out];simp,dk,hsk,by rw[hW1];first|done|exact hw.out⟩
open Go.RowKit Go.Lib Go.Sort in
def ZB (w:World) (e:TypeId) (s:ByteArray) (f:Array Value->Array Value):mapBlock (bytesWorld w e s) w.heap.size f=grow (w.drewN 1) #[onCells f (.cells (bytesCells w e s) e ((bytesCells w e s).size,(bytesCells w e s).size+1))]:=by
 have hn:=bytesWorld_at_new w e s;have hz:=bytesWorld_size w e s;have ho:=bytesWorld_at_old w e s;have hh:(bytesWorld w e s).heap.modify w.heap.size (onCells f)=w.heap ++ #[onCells f (.cells (bytesCells w e s) e ((bytesCells w e s).size,(bytesCells w e s).size+1))]:=by grind
 unfold mapBlock grow;rw[hh];rfl
open Go.RowKit Go.Lib Go.Sort in
def Adw:Ux.ok Tryz.prog 253 :=
 AdU rfl rfl λx hx w ow hB=>(Vs x.1 hx w).mono λe w' ⟨a,dk,hs,b⟩=>⟨a,1,_,b.trans (ZB w 5 x.1 _)⟩
def Aov:=Aqa.a Ux<|Adw
def runL (b:am) (l:List bF) (x:bU):am×ByteArray×ByteArray :=
 if x.op=1 then(b,markup x.text,⟨#[]⟩)
 else if x.op=2 then((if 1<=b.bj.length/\b.bj.length<=39/\isName x.text=true then⟨b.bj++[⟨x.text,⟨#[]⟩,0,[]⟩],b.bn⟩ else b),⟨#[]⟩,⟨#[]⟩)
 else if x.op=3 then(b,⟨#[]⟩,⟨#[99,111,117,110,116,32]⟩++x.text++⟨#[32]⟩++RL (countName x.text b.bj))
 else if x.op=4 then(b,⟨#[]⟩,⟨#[108,111,111,107,32]⟩++x.text++⟨#[32]⟩++RL (colorOf l x.text))
 else if x.op=5 then(b,⟨#[]⟩,⟨#[115,97,121,32]⟩++x.text)
 else(b,⟨#[]⟩,⟨#[]⟩)
def okSh (l:List bF):Prop:=∀ s,s∈l->∀ r,r∈s.rules->-9223372036854775808<=r.color/\r.color<=9223372036854775807
def AdZ {n:ByteArray} {rs:List dL} {z:Int} (hz : -9223372036854775808<=z/\z<=9223372036854775807) (h:∀ r,r∈rs->-9223372036854775808<=r.color/\r.color<=9223372036854775807):∀ m,m<=rs.length->-9223372036854775808<=colR n rs z m/\colR n rs z m<=9223372036854775807
 | 0,_=>hz
 | m+1,hm=>by
  rw[colR];split
  .grind
  .exact AdZ hz h m O
def AcJ {n:ByteArray} {l:List bF} (h:okSh l):∀ m,m<=l.length->-9223372036854775808<=colS n l m/\colS n l m<=9223372036854775807
 | 0,_=>by rw[colS];decide
 | m+1,hm=>by rw[colS];exact AdZ (AcJ h m O) (h _ (Ae O)) _ (X_ _)
def OU {l:List bF} (h:okSh l) (n:ByteArray) : -9223372036854775808<=colorOf l n/\colorOf l n<=9223372036854775807:=AcJ h _ (X_ _)
def L2 (n:ByteArray) (l:List cT):0<=countName n l/\countName n l<=l.length:=by unfold countName;have:=aU (λx:cT=>decide (x.name=n)) l;omega
abbrev Bs:Fct:=⟨[.v (.el .ba),.v (.sl .sheet),.v (.el .line)],[.el .ba,.el .str,.el .str],λ(x:gD)=>szB x.1<=100000000000/\U ET x.2.1<=100000000000/\x.2.2.1.text.size<=1000000000/\okSh x.2.1,λ(x:gD)=>((runL x.1 x.2.1 x.2.2.1).1,(runL x.1 x.2.1 x.2.2.1).2.1,(runL x.1 x.2.1 x.2.2.1).2.2,())⟩
def AnH:=Aov.a Bs<|Fct.o (KP [1,3,5,6,7,8,9,13] [14,20,30,40,53,66]) Aov.2 func208 (by
 rintro⟨(b:am),(l:List bF),(x:bU),_⟩ hp;refine ho (let Y_:=(⟨#[115,97,121,32]⟩:ByteArray);let O_:=(⟨#[]⟩:ByteArray);let L_:=(⟨#[32]⟩:ByteArray);let J_:=(⟨#[108,111,111,107,32]⟩:ByteArray);let H_:=(⟨#[99,111,117,110,116,32]⟩:ByteArray);.cl DS (b,()) λz2=>let aq:Out:=.lf Bs (z2.1,O_,O_,());.br (x.op==1) (.cl Ux (x.text,()) λz3=>.lf Bs (z2.1,z3.1,O_,())) (.br (x.op==2) (.cl Ap ((b.bj.length:Int),(1:Int),(39:Int),()) λz4=>.br (z4.1) (.cl By (x.text,()) λz5=>.br (z5.1) (.ob (IM (z2.1.bj.length+[(⟨x.text,O_,(0:Int),[]⟩:cT)].length) 64)<|.lf Bs (⟨z2.1.bj++[(⟨x.text,O_,(0:Int),[]⟩:cT)],z2.1.bn⟩,O_,O_,())) aq) aq) (.br (x.op==3) (.lp (Bool) (True) (λx=>True) λy10=>.br (y10) (.lp (Bool) (True) (λx=>True) λy12=>.br (y12) (.lp (Bool) (True) (λx=>True) λy14=>.br (y14) (.lp (Bool) (True) (λx=>True) λy16=>.br (y16) (.lp (Bool) (True) (λx=>True) λy18=>.br (y18) (.ob (sameSize H_ x.text)<|.ob (sameSize (H_++x.text) L_)<|.cl D4 (b,x.text,()) λ(z6:D_)=>.cl AO (z6.1,()) λz7=>.ob (sameSize (H_++x.text++L_) z7.1)<|.lf Bs (z2.1,O_,H_++x.text++L_++z7.1,())) (.ob (sameSize H_ x.text)<|.ob (sameSize (H_++x.text) L_)<|.cl D4 (b,x.text,()) λ(z8:D_)=>.cl AO (z8.1,()) λz9=>.ob (sameSize (H_++x.text++L_) z9.1)<|.lf Bs (z2.1,O_,H_++x.text++L_++z9.1,()))) (.ob (sameSize H_ x.text)<|.cl D4 (b,x.text,()) λ(z10:D_)=>.cl AO (z10.1,()) λz11=>.ob (sameSize (H_++x.text) L_)<|.ob (sameSize (H_++x.text++L_) z11.1)<|.lf Bs (z2.1,O_,H_++x.text++L_++z11.1,()))) (.cl D4 (b,x.text,()) λ(z12:D_)=>.cl AO (z12.1,()) λz13=>.ob (sameSize H_ x.text)<|.ob (sameSize (H_++x.text) L_)<|.ob (sameSize (H_++x.text++L_) z13.1)<|.lf Bs (z2.1,O_,H_++x.text++L_++z13.1,()))) (.cl D4 (b,x.text,()) λ(z14:D_)=>.cl AO (z14.1,()) λz15=>.ob (sameSize H_ x.text)<|.ob (sameSize (H_++x.text) L_)<|.ob (sameSize (H_++x.text++L_) z15.1)<|.lf Bs (z2.1,O_,H_++x.text++L_++z15.1,()))) (.cl D4 (b,x.text,()) λ(z16:D_)=>.cl AO (z16.1,()) λz17=>.ob (sameSize H_ x.text)<|.ob (sameSize (H_++x.text) L_)<|.ob (sameSize (H_++x.text++L_) z17.1)<|.lf Bs (z2.1,O_,H_++x.text++L_++z17.1,()))) (.br (x.op==4) (.lp (Bool) (True) (λx=>True) λy51=>.br (y51) (.lp (Bool) (True) (λx=>True) λy53=>.br (y53) (.lp (Bool) (True) (λx=>True) λy55=>.br (y55) (.lp (Bool) (True) (λx=>True) λy57=>.br (y57) (.lp (Bool) (True) (λx=>True) λy59=>.br (y59) (.ob (sameSize J_ x.text)<|.ob (sameSize (J_++x.text) L_)<|.cl FQ (l,x.text,()) λ(z18:D_)=>.cl AO (z18.1,()) λz19=>.ob (sameSize (J_++x.text++L_) z19.1)<|.lf Bs (z2.1,O_,J_++x.text++L_++z19.1,())) (.ob (sameSize J_ x.text)<|.ob (sameSize (J_++x.text) L_)<|.cl FQ (l,x.text,()) λ(z20:D_)=>.cl AO (z20.1,()) λz21=>.ob (sameSize (J_++x.text++L_) z21.1)<|.lf Bs (z2.1,O_,J_++x.text++L_++z21.1,()))) (.ob (sameSize J_ x.text)<|.cl FQ (l,x.text,()) λ(z22:D_)=>.cl AO (z22.1,()) λz23=>.ob (sameSize (J_++x.text) L_)<|.ob (sameSize (J_++x.text++L_) z23.1)<|.lf Bs (z2.1,O_,J_++x.text++L_++z23.1,()))) (.cl FQ (l,x.text,()) λ(z24:D_)=>.cl AO (z24.1,()) λz25=>.ob (sameSize J_ x.text)<|.ob (sameSize (J_++x.text) L_)<|.ob (sameSize (J_++x.text++L_) z25.1)<|.lf Bs (z2.1,O_,J_++x.text++L_++z25.1,()))) (.cl FQ (l,x.text,()) λ(z26:D_)=>.cl AO (z26.1,()) λz27=>.ob (sameSize J_ x.text)<|.ob (sameSize (J_++x.text) L_)<|.ob (sameSize (J_++x.text++L_) z27.1)<|.lf Bs (z2.1,O_,J_++x.text++L_++z27.1,()))) (.cl FQ (l,x.text,()) λ(z28:D_)=>.cl AO (z28.1,()) λz29=>.ob (sameSize J_ x.text)<|.ob (sameSize (J_++x.text) L_)<|.ob (sameSize (J_++x.text++L_) z29.1)<|.lf Bs (z2.1,O_,J_++x.text++L_++z29.1,()))) (.br (x.op==5) (.lp (Bool) (True) (λx=>True) λy92=>.br (y92) (.lp (Bool) (True) (λx=>True) λy94=>.br (y94) (.lp (Bool) (True) (λx=>True) λy96=>.br (y96) (.ob (sameSize Y_ x.text)<|.lf Bs (z2.1,O_,Y_++x.text,())) (.ob (sameSize Y_ x.text)<|.lf Bs (z2.1,O_,Y_++x.text,()))) (.ob (sameSize Y_ x.text)<|.lf Bs (z2.1,O_,Y_++x.text,()))) (.ob (sameSize Y_ x.text)<|.lf Bs (z2.1,O_,Y_++x.text,()))) aq))))) ?_;refine Ai ?_ λ_=>(Z (λh2=>Ai ?_ λ_=>Y ?_) λh2=>Z (λh4=>Ai trivial λ_=>Z (λh5=>Ai ?_ λ_=>Z (λh7=>Ad ?_ λ_=>Y ?_) λh7=>Y ?_) λh5=>Y ?_) λh4=>Z (λh9=>HT trivial λy10 i10=>Z (λh11=>HT trivial λy12 i12=>Z (λh13=>HT trivial λy14 i14=>Z (λh15=>HT trivial λy16 i16=>Z (λh17=>HT trivial λy18 i18=>Z (λh19=>Ad ?_ λ_=>Ad ?_ λ_=>Ai ?_ λ_=>Ai ?_ λ_=>Ad ?_ λ_=>Y ?_) λh19=>Ad ?_ λ_=>Ad ?_ λ_=>Ai ?_ λ_=>Ai ?_ λ_=>Ad ?_ λ_=>Y ?_) λh17=>Ad ?_ λ_=>Ai ?_ λ_=>Ai ?_ λ_=>Ad ?_ λ_=>Ad ?_ λ_=>Y ?_) λh15=>Ai ?_ λ_=>Ai ?_ λ_=>Ad ?_ λ_=>Ad ?_ λ_=>Ad ?_ λ_=>Y ?_) λh13=>Ai ?_ λ_=>Ai ?_ λ_=>Ad ?_ λ_=>Ad ?_ λ_=>Ad ?_ λ_=>Y ?_) λh11=>Ai ?_ λ_=>Ai ?_ λ_=>Ad ?_ λ_=>Ad ?_ λ_=>Ad ?_ λ_=>Y ?_) λh9=>Z (λh50=>HT trivial λy51 i51=>Z (λh52=>HT trivial λy53 i53=>Z (λh54=>HT trivial λy55 i55=>Z (λh56=>HT trivial λy57 i57=>Z (λh58=>HT trivial λy59 i59=>Z (λh60=>Ad ?_ λ_=>Ad ?_ λ_=>Ai ?_ λ_=>Ai ?_ λ_=>Ad ?_ λ_=>Y ?_) λh60=>Ad ?_ λ_=>Ad ?_ λ_=>Ai ?_ λ_=>Ai ?_ λ_=>Ad ?_ λ_=>Y ?_) λh58=>Ad ?_ λ_=>Ai ?_ λ_=>Ai ?_ λ_=>Ad ?_ λ_=>Ad ?_ λ_=>Y ?_) λh56=>Ai ?_ λ_=>Ai ?_ λ_=>Ad ?_ λ_=>Ad ?_ λ_=>Ad ?_ λ_=>Y ?_) λh54=>Ai ?_ λ_=>Ai ?_ λ_=>Ad ?_ λ_=>Ad ?_ λ_=>Ad ?_ λ_=>Y ?_) λh52=>Ai ?_ λ_=>Ai ?_ λ_=>Ad ?_ λ_=>Ad ?_ λ_=>Ad ?_ λ_=>Y ?_) λh50=>Z (λh91=>HT trivial λy92 i92=>Z (λh93=>HT trivial λy94 i94=>Z (λh95=>HT trivial λy96 i96=>Z (λh97=>Ad ?_ λ_=>Y ?_) λh97=>Ad ?_ λ_=>Y ?_) λh95=>Ad ?_ λ_=>Y ?_) λh93=>Ad ?_ λ_=>Y ?_) λh91=>Y ?_)<;>(have hl:=Ac AS b.bj;have hb:U AS b.bj<=szB b:=by simp only[szB];omega)<;>(have hc:=L2 x.text b.bj;have hx:=OU hp.2.2.2 x.text;have hf:=λ(n:Int) (h0 : -9223372036854775808<=n) (h1:n<=9223372036854775807)=>NS h0 h1)<;>(try simp only[std,Nat.reduceAdd,runL,inRange,sameSize,aQ] at *)<;>(try simp(disch:=omega) only[FS,C_] at *)<;>(try simp(disch:=omega) only[G_,F_])<;>(first|trivial|omega|grind[FS,C_,B_,K_,I_,maxLen,runL,inRange,sameSize,ByteArray.size_append]))
def runLi (l:List bF):List bU->am->ByteArray->List ByteArray->am×ByteArray×List ByteArray
 | [],b,w,g=>(b,w,g)
 | x::r,b,w,g=>runLi l r (runL b l x).1 (w++(runL b l x).2.1) (if(runL b l x).2.2=⟨#[]⟩ then g else g++[(runL b l x).2.2])
theorem cV {l:List bF} {r:List bU} {i:Nat} {b:am} {w:ByteArray} {g:List ByteArray} (h:i<r.length):runLi l (r.drop i) b w g=runLi l (r.drop (i+1)) (runL b l (r.getD i default)).1 (w++(runL b l (r.getD i default)).2.1) (if(runL b l (r.getD i default)).2.2=⟨#[]⟩ then g else g++[(runL b l (r.getD i default)).2.2]):=by rw[B_ h];rfl
theorem cK {l:List bF} {r:List bU} {i:Nat} {b:am} {w:ByteArray} {g:List ByteArray} (h:r.length<=i):runLi l (r.drop i) b w g=(b,w,g):=by rw[cx h];rfl
def Pw (b:am) (l:List bF) (x:bU):szB (runL b l x).1<=szB b+x.text.size+1/\(runL b l x).2.1.size<=x.text.size:=by
 have h0:ByteArray.size ⟨#[]⟩=0:=rfl;have h1:(markup x.text).size=x.text.size:=by unfold markup;rw[Df,cE,AU]
 have h3:U B3 []=0:=rfl;unfold runL;repeat' split
 all_goals simp only[h0,h1,szB,Dj,AS,h3]<;>omega
def runS (b:am) (l:List bF) (r:List bU):am×ByteArray×List ByteArray:=runLi l r b ⟨#[]⟩ []
abbrev IZ:Fct:=⟨[.v (.el .ba),.v (.sl .sheet),.v (.sl .line)],[.el .ba,.el .str,.sl .str],λ(x:gE)=>szB x.1<=50000000000/\U ET x.2.1<=100000000000/\U EK x.2.2.1<=1000000000/\okSh x.2.1,λ(x:gE)=>((runS x.1 x.2.1 x.2.2.1).1,(runS x.1 x.2.1 x.2.2.1).2.1,(runS x.1 x.2.1 x.2.2.1).2.2,())⟩
abbrev CE (b:am) (l:(List bF)) (r:(List bU)):LInv:=⟨[⟨.b,9,true,.el .ba⟩,⟨.s,10,true,.el .str⟩,⟨.s,11,true,.sl .str⟩,⟨.s,12,true,.el .int⟩,⟨.b,6,true,.el .ba⟩],λ(z x:fg)=>(0<=x.2.2.2.1/\x.2.2.2.1<=r.length/\szB x.1+U EK (r.drop x.2.2.2.1.toNat)<=szB b+U EK r/\x.2.1.size+U EK (r.drop x.2.2.2.1.toNat)<=U EK r/\x.2.2.1.length<=x.2.2.2.1/\runLi l (r.drop x.2.2.2.1.toNat) x.1 x.2.1 x.2.2.1=runS b l r)/\x.2.2.2.2.1=z.2.2.2.2.1,λ(x:fg)=>r.length-x.2.2.2.1.toNat⟩
def Aou:=AnH.a IZ<|Fct.p (KP [1,2,3,6,7,8,9,10,11,12,13,14,15] [22,41]) (λ⟨b,l,r,_⟩=>lv [(5,CE b l r)]) AnH.2 func150 (by
 rintro⟨(b:am),(l:List bF),(r:List bU),_⟩ hp;refine ho (.cl DS (b,()) λz2=>lpx (CE b l r) (z2.1,((⟨#[]⟩:ByteArray),([],((0:Int),(default,()))))) λ(y2:fg) bk2=>.br (decide (y2.2.2.2.1<(r.length:Int))) (.ob (inB y2.2.2.2.1 r.length)<|.cl Bs (y2.1,l,r.getD y2.2.2.2.1.toNat default,()) λz3=>.ob (sameSize y2.2.1 z3.2.1)<|.br (!z3.2.2.1.toList==(⟨#[]⟩:ByteArray).toList) (.ap (y2.2.2.1.length+[z3.2.2.1].length) 16<|.re (l)<|.re (r)<|.re (Value.string (⟨#[]⟩:ByteArray))<|.bk (bk2 (z3.1,(y2.2.1++z3.2.1,(y2.2.2.1++[z3.2.2.1],(w1 y2.2.2.2.1,(y2.2.2.2.2.1,()))))))) (.re (l)<|.re (r)<|.re (Value.string (⟨#[]⟩:ByteArray))<|.bk (bk2 (z3.1,(y2.2.1++z3.2.1,(y2.2.2.1,(w1 y2.2.2.2.1,(y2.2.2.2.2.1,())))))))) (.lf IZ (y2.1,y2.2.1,y2.2.2.1,()))) ?_;refine Ai ?_ λ_=>(Ay ?_ λ(y2:fg) i2=>Z (λh3=>Ad ?_ λ_=>Ai ?_ λ_=>Ad ?_ λ_=>Z (λh7=>FB ?_ λ_=>Al<|Al<|Al<|AR ?_) λh7=>Al<|Al<|Al<|AR ?_) λh3=>Y ?_)<;>(have hr:=Ac EK r;have hx:∀ i,i<r.length->U EK (r.drop i)=(r.getD i default).text.size+1+U EK (r.drop (i+1)):=λi h=>W0 EK h)<;>have hs:=λbb x=>Pw bb l x<;>(have hrs:runLi l r b ⟨#[]⟩ []=runS b l r:=rfl;try simp only[std,Nat.reduceAdd,cV,cK,sameSize,aQ] at *)<;>(try simp(disch:=omega) only[FS,C_] at *)<;>(try simp(disch:=omega) only[G_,F_])<;>(first|trivial|omega|grind[FS,C_,B_,K_,I_,maxLen,cV,cK,sameSize,ByteArray.size_append]))
def decV:List UInt8->Int->Int
 | [],n=>n
 | x::l,n=>decV l (10*n+((x.toNat:Int)-48))
def digit (x:UInt8):Bool:=decide (48<=(x.toNat:Int)/\(x.toNat:Int)<=57)
def pars (s:ByteArray):Int×Bool:=if 1<=s.size/\s.size<=13/\(I s).all digit=true/\decV (I s) 0<=1000000000000/\RL (decV (I s) 0)=s then(decV (I s) 0,true) else(0,false)
abbrev J7:Fct:=⟨[.v (.el .str)],[.el .int,.el .bool],λ(x:E_)=>x.1.size<=1000000000000,λ(x:E_)=>((pars x.1).1,(pars x.1).2,())⟩
def Xf {s:ByteArray} {i:Nat} (h:i<s.size):(I s).take (i+1)=(I s).take i++[s.data.getD i 0]:=by
 have h2:i<s.data.size:=h;have e:s.data.getD i 0=s.data[i]:=by unfold Array.getD;rw[dif_pos h2];rfl
 rw[List.take_succ_eq_append_getElem (by rw[AU];exact h),e];rfl
def S3:∀ (l:List UInt8) (x:UInt8) (n:Int),decV (l++[x]) n=10*decV l n+((x.toNat:Int)-48)
 | [],x,n=>rfl
 | y::l,x,n=>by rw[cy,decV,decV,S3 l]
def AmN:∀ i:Nat,i<=13->(10:Int) ^ i<=10000000000000:=λi h=>(by decide:∀ i:Fin 14,(10:Int) ^ i.val<=10000000000000) ⟨i,O⟩
def Ad1 {s:ByteArray} {i:Nat} (h:i<s.size) (hd:digit (s.data.getD i 0)=false):(I s).all digit=false:=by
 rw[List.all_eq_false];refine⟨s.data.getD i 0,?_,by rw[hd];decide⟩;have:=fw (l:=I s) (i:=i+1) (a:=s.data.getD i 0) (by rw[Xf h];simp);exact this
def Jz {s:ByteArray} (h:¬ (1<=s.size/\s.size<=13/\(I s).all digit=true/\decV (I s) 0<=1000000000000/\RL (decV (I s) 0)=s)):0=(pars s).1/\false=(pars s).2:=by
 unfold pars;rw[F_ h];exact⟨rfl,rfl⟩
def Tr {s:ByteArray} (h:1<=s.size/\s.size<=13/\(I s).all digit=true/\decV (I s) 0<=1000000000000/\RL (decV (I s) 0)=s):decV (I s) 0=(pars s).1/\true=(pars s).2:=by
 unfold pars;rw[G_ h];exact⟨rfl,rfl⟩
def u8_in (x:UInt8):IntKind.i64.wrap (x.toNat:Int)=x.toNat/\(x.toNat:Int)<=255:=by
 have:=x.toNat_lt;exact⟨FS O O,O⟩
def Ad5 {x:UInt8} (h:48<=(x.toNat:Int)):IntKind.i64.wrap (IntKind.u8.wrap ((x.toNat:Int)-48))=(x.toNat:Int)-48:=by
 have:=x.toNat_lt;have e:IntKind.u8.wrap ((x.toNat:Int)-48)=(x.toNat:Int)-48:=by show((x.toNat:Int)-48) % 256=_;omega
 rw[e];exact FS O O
abbrev Dc (s:ByteArray):LInv:=⟨[⟨.s,4,true,.el .int⟩,⟨.s,5,true,.el .int⟩],λ_ (x:aR)=>0<=x.2.1/\x.2.1<=s.size/\0<=x.1/\x.1<10 ^ x.2.1.toNat/\((I s).take x.2.1.toNat).all digit=true/\x.1=decV ((I s).take x.2.1.toNat) 0,λ(x:aR)=>s.size-x.2.1.toNat⟩
def Apj:=Aou.a J7<|Fct.p (KP [0,2,3,4,5] [9,13,21,37]) (λ⟨s,_⟩=>lv [(5,Dc s)]) Aou.2 func256 (by
 rintro⟨(s:ByteArray),_⟩ hp;refine ho (let J_:=(s.size:Int);let H_:Out:=.lf J7 ((0:Int),false,());.cl Ap (J_,(1:Int),(13:Int),()) λz2=>.br (!z2.1) H_ (lpx (Dc s) ((0:Int),((0:Int),())) λ(y2:aR) bk2=>let O_:=0<=y2.2.1/\y2.2.1<J_;let L_:=(↑(s.data.getD y2.2.1.toNat 0).toNat:Int);.br (decide (y2.2.1<J_)) (.ob O_<|.cl Ap (wr L_,(48:Int),(57:Int),()) λz3=>.br (!z3.1) H_ (.ob O_<|.re (Value.string s)<|.bk (bk2 (wr (wr ((10:Int)*y2.1)+wr (IntKind.u8.wrap (L_-(48:Int)))),(w1 y2.2.1,()))))) (.br (decide (y2.1>1000000000000)) H_ (.cl AO (y2.1,()) λz4=>.br (!z4.1.toList==s.toList) H_ (.lf J7 (y2.1,true,())))))) ?_;refine Ai trivial λ_=>(Z (λh1=>Y ?_) λh1=>Ay ?_ λ(y2:aR) i2=>Z (λh3=>Ad ?_ λ_=>Ai trivial λ_=>Z (λh5=>Y ?_) λh5=>Ad ?_ λ_=>Al<|AR ?_) λh3=>Z (λh8=>Y ?_) λh8=>Ai ?_ λ_=>Z (λh10=>Y ?_) λh10=>Y ?_)<;>(try simp only[std,Nat.reduceAdd,inRange,u8_in] at *)<;>(try simp only[T_,fB,az,cw] at *)<;>(first|(refine Jz ?_;omega)|exact⟨O,O,O,by decide,rfl,rfl⟩|(obtain⟨a1,a2,a3,a4,a5,a6⟩:=i2;have hq:=AmN y2.2.1.toNat O))<;>(first|omega|skip)<;>(try rw[cC (l:=I s) (i:=y2.2.1.toNat) (by rw[AU];omega)] at a5 a6)<;>(first|(rw[<-a6];exact⟨O,O⟩)|(refine Jz ?_;rintro⟨q1,q2,q3,q4,q5⟩;rw[<-a6] at *;first|omega|contradiction)|(rw[a6];exact Tr ⟨O,O,a5,O,by rw[<-a6];assumption⟩)|skip)<;>(first|(refine Jz ?_;rintro⟨q1,q2,q3,q4,q5⟩;rw[Ad1 (i:=y2.2.1.toNat) O (by unfold digit;simp only[cw];omega)] at q3;cases q3)|skip)<;>rw[Ad5 O,AE (n:=10*y2.1) O,AE (n:=y2.2.1+1) O,AE O,show(y2.2.1+1).toNat=y2.2.1.toNat+1 from O,Xf O,List.all_append,S3,Int.pow_succ]<;>refine⟨⟨O,O,O,O,?_,by rw[<-a6]⟩,O⟩<;>(rw[a5];simp only[List.all_cons,List.all_nil,digit,Bool.and_true,Bool.true_and,az];omega))
def Adu {b:UInt8}:∀ {l:List UInt8},GZ b l=none->b∉l
 | [],_,h=>by cases h
 | x::l,hc,h=>by
  rw[GZ] at hc;split at hc
  .cases hc
  .rename_i hx;rcases au.1 h with e|h
   .exact hx e.symm
   .exact Adu (Option.map_eq_none_iff.1 hc) h
def ruleOf (w:ByteArray):Option dL:=match GZ 58 (I w) with
 | none=>none
 | some r=>if isName (ofL r.1)=true/\(pars (ofL r.2)).2=true/\1<=(pars (ofL r.2)).1/\(pars (ofL r.2)).1<=999 then some ⟨ofL r.1,(pars (ofL r.2)).1⟩ else none
def parseR:List ByteArray->List dL->List dL
 | [],acc=>acc
 | w::l,acc=>parseR l (if acc.length<8 then acc++(ruleOf w).toList else acc)
def QK {l:List ByteArray} {i:Nat} {acc:List dL} (h:i<l.length):parseR (l.drop i) acc=parseR (l.drop (i+1)) (if acc.length<8 then acc++(ruleOf (l.getD i default)).toList else acc):=by rw[B_ h];rfl
def OC {l:List ByteArray} {i:Nat} {acc:List dL} (h:l.length<=i):parseR (l.drop i) acc=acc:=by rw[cx h];rfl
def If:∀ {l:List ByteArray} {acc:List dL},¬ acc.length<8->parseR l acc=acc
 | [],_,_=>rfl
 | w::l,acc,h=>by rw[parseR,F_ h];exact If h
def Agd (w:ByteArray):ruleOf w=if(K 58 w).length=2/\isName ((K 58 w).getD 0 default)=true/\(pars ((K 58 w).getD 1 default)).2=true/\1<=(pars ((K 58 w).getD 1 default)).1/\(pars ((K 58 w).getD 1 default)).1<=999 then some ⟨(K 58 w).getD 0 default,(pars ((K 58 w).getD 1 default)).1⟩ else none:=by
 unfold ruleOf;rw[F8];cases h:GZ 58 (I w) with
 | none=>simp
 | some r=>
  obtain⟨p,q⟩:=r;simp only[aw];by_cases hq:(58:UInt8)∈q
  .have hd:(pars (ofL q)).2=false:=by unfold pars;rw[F_];rintro⟨q1,q2,q3,_⟩;rw[BS,aM] at q3;have:=q3 58 hq;cases this
   have hl:(K 58 (ofL q)).length≠1:=by
    intro hl;rw[F8,BS] at hl;cases hc:GZ 58 q with
    | none=>exact Adu hc hq
    | some r2=>
     rw[hc] at hl;have:=(Eg 58 (ofL r2.2)).1;simp_all
   simp_all
  .have hs:K 58 (ofL q)=[ofL q]:=by
    rw[F8,BS];cases hc:GZ 58 q with
    | none=>rfl
    | some r2=>exact absurd (Mg (p:=r2.1) (q:=r2.2) hc) hq
   rw[hs];simp
def parseSh (s:ByteArray):bF:=⟨parseR (K 59 s) []⟩
abbrev JD:Fct:=⟨[.v (.el .str)],[.el .sheet],λ(x:E_)=>x.1.size<=4200000000,λ(x:E_)=>(parseSh x.1,())⟩
abbrev Cj (s:ByteArray):LInv:=⟨[⟨.b,3,true,.el .sheet⟩,⟨.s,5,true,.el .int⟩,⟨.b,2,true,.el .sheet⟩,⟨.s,4,true,.sl .str⟩],λ(z x:fh)=>((0<=x.2.1/\x.2.1<=(K 59 s).length/\x.1.rules.length<=8/\parseR ((K 59 s).drop x.2.1.toNat) x.1.rules=parseR (K 59 s) [])/\x.2.2.1=z.2.2.1)/\x.2.2.2.1=z.2.2.2.1,λ(x:fh)=>(K 59 s).length-x.2.1.toNat⟩
def An7:=Apj.a JD<|Fct.p (KP [0,2,3,4,5,6,7,8] [21,38,50]) (λ⟨s,_⟩=>lv [(4,Cj s)]) Apj.2 func209 (by
 rintro⟨(s:ByteArray),_⟩ hp;refine ho (.cl DQ (s,(59:Int),()) λz2=>lpx (Cj s) (default,((0:Int),(default,(z2.1,())))) λ(y2:fh) bk2=>let Y_:Out:=.lf JD (y2.1,());let H_:Out:=.re (Value.string s)<|.bk (bk2 (y2.1,(w1 y2.2.1,(y2.2.2.1,(y2.2.2.2.1,())))));.br (decide (y2.2.1<(y2.2.2.2.1.length:Int))) (.br (decide ((y2.1.rules.length:Int)<8)) (.ix y2.2.1 y2.2.2.2.1.length<|.cl DQ (y2.2.2.2.1.getD y2.2.1.toNat default,(58:Int),()) λz3=>let L_:=(z3.1.length:Int);let J_:=(0:Int)<=(0:Int)/\(0:Int)<L_;.br (L_ != 2) H_ (.ob J_<|.ob (0<z3.1.length)<|.cl By (z3.1.getD 0 default,()) λz4=>.br (!z4.1) H_ (.ob ((0:Int)<=(1:Int)/\(1:Int)<L_)<|.ob (1<z3.1.length)<|.cl J7 (z3.1.getD 1 default,()) λ(z5:Int×Bool×PUnit)=>let O_:=(⟨z3.1.getD 0 default,z5.1⟩:dL);.br (z5.2.1) (.cl Ap (z5.1,(1:Int),(999:Int),()) λz6=>.br (z6.1) (.ob J_<|.ob (0<z3.1.length)<|.ap (y2.1.rules.length+[O_].length) 24<|.re (Value.string s)<|.bk (bk2 ((⟨y2.1.rules++[O_]⟩:bF),(w1 y2.2.1,(y2.2.2.1,(y2.2.2.2.1,())))))) H_) H_))) Y_) Y_) ?_;refine Ai ?_ λ_=>(Ay ?_ λ(y2:fh) i2=>Z (λh3=>Z (λh4=>Ey ?_ λo5 o6=>Ai ?_ λ_=>Z (λh8=>Al<|AR ?_) λh8=>Ad ?_ λ_=>Ad ?_ λ_=>Ai ?_ λ_=>Z (λh13=>Al<|AR ?_) λh13=>Ad ?_ λ_=>Ad ?_ λ_=>Ai ?_ λ_=>Z (λh18=>Ai trivial λ_=>Z (λh19=>Ad ?_ λ_=>Ad ?_ λ_=>FB ?_ λ_=>Al<|AR ?_) λh19=>Al<|AR ?_) λh18=>Al<|AR ?_) λh4=>Y ?_) λh3=>Y ?_)<;>(have hk:=Eg 59 s;have hm:∀ i,i<(K 59 s).length->((K 59 s).getD i default).size<=s.size:=λi h=>RC (Ae h))<;>(have hp1:s.size<=4200000000:=hp;try simp only[std,Nat.reduceAdd,inRange,show UInt8.ofNat (Int.toNat 59)=59 from rfl,show UInt8.ofNat (Int.toNat 58)=58 from rfl] at *)<;>(first|trivial|omega|exact⟨O,by decide,by decide⟩|exact⟨O,O,by decide,rfl⟩|(obtain⟨⟨⟨a1,a2,a3,a4⟩,a5⟩,a6⟩:=i2;simp only[a6,T_,fB,az,cw] at *))<;>(try have hw:=hm y2.2.1.toNat O)<;>(try have hw0:=Dq 58 ((K 59 s).getD y2.2.1.toNat default) 0)<;>(try have hw1:=Dq 58 ((K 59 s).getD y2.2.1.toNat default) 1)<;>(first|trivial|omega|exact⟨O,by decide,by decide⟩|exact⟨O,O⟩|skip)<;>(first|(rw[OC O] at a4;show y2.1=parseSh s;unfold parseSh;rw[<-a4])|(rw[If O] at a4;show y2.1=parseSh s;unfold parseSh;rw[<-a4])|skip)<;>have e:=QK (l:=K 59 s) (i:=y2.2.1.toNat) (acc:=y2.1.rules) O<;>rw[a4,G_ O,Agd] at e<;>rw[AE O,show(y2.2.1+1).toNat=y2.2.1.toNat+1 from O]<;>(first|(rw[F_ (by rintro⟨q1,q2,q3,q4,q5⟩;first|omega|exact absurd (q2.symm.trans (show isName _=false from ‹_›)) (by decide)|exact absurd (q3.symm.trans (show Prod.snd _=false from ‹_›)) (by decide)),Option.toList_none,cS] at e;exact⟨⟨⟨⟨O,O,O,e.symm⟩,‹_›⟩,trivial⟩,O⟩)|(rw[G_ (by exact⟨O,‹_›,‹_›,O,O⟩),Option.toList_some] at e;exact⟨⟨⟨⟨O,O,by rw[al];simp only[aw,bz];omega,e.symm⟩,‹_›⟩,trivial⟩,O⟩)|skip))
def openI {J:Type} (f:J->Bool):List J->Int->List Int
 | [],_=>[]
 | x::l,k=>if f x then k::openI f l (k+1) else openI f l (k+1)
theorem aW {J:Type} [Inhabited J] {f:J->Bool} {l:List J} {i:Nat} {k:Int} (h:i<l.length):openI f (l.drop i) k=if f (l.getD i default) then k::openI f (l.drop (i+1)) (k+1) else openI f (l.drop (i+1)) (k+1):=by rw[B_ h];rfl
theorem aN {J:Type} {f:J->Bool} {l:List J} {i:Nat} {k:Int} (h:l.length<=i):openI f (l.drop i) k=[]:=by rw[cx h];rfl
def DT {J:Type} (f:J->Bool):∀ (l:List J) (k:Int) (x:Int),x∈openI f l k->k<=x/\x<k+l.length
 | [],k,x,h=>by cases h
 | a::l,k,x,h=>by rw[openI] at h;have ih:=DT f l (k+1) x;grind
def DJ {J:Type} (f:J->Bool):∀ (l:List J) (k:Int),(openI f l k).length<=l.length
 | [],k=>X_ _
 | a::l,k=>by have:=DJ f l (k+1);rw[openI];grind
def openSl (p:A_):List Int:=openI (λs=>!s.done) p.bf 0
def openM (p:A_):List Int:=openI (λm=>!m.done) p.bi 0
abbrev IH:Fct:=⟨[.v (.el .page)],[.sl .int],λ(x:ae)=>x.1.bf.length<=1000000000000,λ(x:ae)=>(openSl x.1,())⟩
abbrev CI (p:A_):LInv:=⟨[⟨.s,3,true,.sl .int⟩,⟨.s,4,true,.el .int⟩,⟨.b,1,false,.el .page⟩],λ(z x:bV)=>(0<=x.2.1/\x.2.1<=p.bf.length/\x.1.length<=x.2.1/\x.1++openI (λs=>!s.done) (p.bf.drop x.2.1.toNat) x.2.1=openSl p)/\x.2.2.1=z.2.2.1,λ(x:bV)=>p.bf.length-x.2.1.toNat⟩
def AnE:=An7.a IH<|Fct.p (KP [1,2,3,4] [10,19]) (λ⟨p,_⟩=>lv [(3,CI p)]) An7.2 func67 (by
 rintro⟨(p:A_),_⟩ hp;refine ho (lpx (CI p) ([],((0:Int),(p,()))) λ(y1:bV) bk1=>.br (decide (y1.2.1<(y1.2.2.1.bf.length:Int))) (.ob (inB y1.2.1 y1.2.2.1.bf.length)<|.br (!(y1.2.2.1.bf.getD y1.2.1.toNat default).done) (.ap (y1.1.length+[y1.2.1].length) 8<|.bk (bk1 (y1.1++[y1.2.1],(w1 y1.2.1,(y1.2.2.1,()))))) (.bk (bk1 (y1.1,(w1 y1.2.1,(y1.2.2.1,())))))) (.lf IH (y1.1,()))) ?_;refine Ay ?_ λ(y1:bV) i1=>Z (λh2=>Ad ?_ λ_=>Z (λh4=>FB ?_ λ_=>AR ?_) λh4=>AR ?_) (λh2=>Y ?_)<;>(have h0:openI (λs:av=>!s.done) (p.bf.drop 0) 0=openSl p:=rfl;try simp only[std,Nat.reduceAdd,aW,aN,al,aw,bz,bK] at *)<;>(try simp(disch:=omega) only[FS,C_] at *)<;>(try simp(disch:=omega) only[G_,F_])<;>(first|trivial|omega|grind[FS,C_,B_,K_,I_,maxLen,aW,aN,List.length_append,List.length_cons,List.length_nil,List.append_assoc]))
abbrev Kl:Fct:=⟨[.v (.el .page)],[.sl .int],λ(x:ae)=>x.1.bi.length<=1000000000000,λ(x:ae)=>(openM x.1,())⟩
abbrev C1 (p:A_):LInv:=⟨[⟨.s,3,true,.sl .int⟩,⟨.s,4,true,.el .int⟩,⟨.b,1,false,.el .page⟩],λ(z x:bV)=>(0<=x.2.1/\x.2.1<=p.bi.length/\x.1.length<=x.2.1/\x.1++openI (λm=>!m.done) (p.bi.drop x.2.1.toNat) x.2.1=openM p)/\x.2.2.1=z.2.2.1,λ(x:bV)=>p.bi.length-x.2.1.toNat⟩
def AoE:=AnE.a Kl<|Fct.p (KP [1,2,3,4] [10,19]) (λ⟨p,_⟩=>lv [(3,C1 p)]) AnE.2 func69 (by
 rintro⟨(p:A_),_⟩ hp;refine ho (lpx (C1 p) ([],((0:Int),(p,()))) λ(y1:bV) bk1=>.br (decide (y1.2.1<(y1.2.2.1.bi.length:Int))) (.ob (inB y1.2.1 y1.2.2.1.bi.length)<|.br (!(y1.2.2.1.bi.getD y1.2.1.toNat default).done) (.ap (y1.1.length+[y1.2.1].length) 8<|.bk (bk1 (y1.1++[y1.2.1],(w1 y1.2.1,(y1.2.2.1,()))))) (.bk (bk1 (y1.1,(w1 y1.2.1,(y1.2.2.1,())))))) (.lf Kl (y1.1,()))) ?_;refine Ay ?_ λ(y1:bV) i1=>Z (λh2=>Ad ?_ λ_=>Z (λh4=>FB ?_ λ_=>AR ?_) λh4=>AR ?_) (λh2=>Y ?_)<;>(have h0:openI (λm:Z_=>!m.done) (p.bi.drop 0) 0=openM p:=rfl;try simp only[std,Nat.reduceAdd,aW,aN,al,aw,bz,bK] at *)<;>(try simp(disch:=omega) only[FS,C_] at *)<;>(try simp(disch:=omega) only[G_,F_])<;>(first|trivial|omega|grind[FS,C_,B_,K_,I_,maxLen,aW,aN,List.length_append,List.length_cons,List.length_nil,List.append_assoc]))
def allowsInline (p:aA) (n:ByteArray):Bool:=!p.set_||(!decide (p.nonce=⟨#[]⟩)&&decide (p.nonce=n))
abbrev Em:Fct:=⟨[.v (.el .bm),.v (.el .str)],[.el .bool],λ(x:gF)=>True,λ(x:gF)=>(allowsInline x.1 x.2.1,())⟩
def AnL:=AoE.a Em<|Fct.o [1,2,4] AoE.2 func213 (λ⟨(p:aA),(n:ByteArray),_⟩ hp=>hg (.br (!p.set_) (.lf Em (true,())) (.br (!p.nonce.toList==(⟨#[]⟩:ByteArray).toList) (.lf Em (p.nonce.toList==ByteArray.toList n,())) (.lf Em (false,())))) (@allowsInline.eq_1))
def isVoid (n:ByteArray):Bool:=decide (n=⟨#[105,109,103]⟩)||decide (n=⟨#[108,105,110,107]⟩)
abbrev Rm:Fct:=⟨[.v (.el .str)],[.el .bool],λ(x:E_)=>True,λ(x:E_)=>(isVoid x.1,())⟩
def AoV:=AnL.a Rm<|Fct.o [0,2] AnL.2 func211 (λ⟨(n:ByteArray),_⟩ hp=>hg (.br (ByteArray.toList n==(⟨#[105,109,103]⟩:ByteArray).toList) (.lf Rm (true,())) (.lf Rm (ByteArray.toList n==(⟨#[108,105,110,107]⟩:ByteArray).toList,()))) (@isVoid.eq_1))
def she (l:List av):List bF:=(l.filter λs=>decide (s.mode=2)&&(s.done&&decide (s.code=1))).map λs=>parseSh s.body
theorem ct {l:List av} {i:Nat} (h:i<l.length):she (l.drop i)=if(l.getD i default).mode=2/\(l.getD i default).done=true/\(l.getD i default).code=1 then parseSh (l.getD i default).body::she (l.drop (i+1)) else she (l.drop (i+1)):=by
 rw[B_ h];unfold she;grind
theorem cL {l:List av} {i:Nat} (h:l.length<=i):she (l.drop i)=[]:=by rw[cx h];rfl
def okBod (p:A_):Prop:=∀ i,i<p.bf.length->(p.bf.getD i default).body.size<=4200000000
abbrev KC:Fct:=⟨[.v (.el .page)],[.sl .sheet],λ(x:ae)=>U AD x.1.bf<=1000000000000/\okBod x.1,λ(x:ae)=>(she x.1.bf,())⟩
abbrev CZ (p:A_):LInv:=⟨[⟨.s,3,true,.sl .sheet⟩,⟨.s,4,true,.el .int⟩,⟨.b,1,false,.el .page⟩],λ(z x:fi)=>(0<=x.2.1/\x.2.1<=p.bf.length/\x.1.length<=x.2.1/\x.1++she (p.bf.drop x.2.1.toNat)=she p.bf)/\x.2.2.1=z.2.2.1,λ(x:fi)=>p.bf.length-x.2.1.toNat⟩
def Aoj:=AoV.a KC<|Fct.p (KP [1,2,3,4,5] [11,30]) (λ⟨p,_⟩=>lv [(3,CZ p)]) AoV.2 func151 (by
 rintro⟨(p:A_),_⟩ hp;refine ho (lpx (CZ p) ([],((0:Int),(p,()))) λ(y1:fi) bk1=>let J_:Out:=.bk (bk1 (y1.1,(w1 y1.2.1,(y1.2.2.1,()))));let H_:=y1.2.2.1.bf.getD y1.2.1.toNat default;.br (decide (y1.2.1<(y1.2.2.1.bf.length:Int))) (.ob (inB y1.2.1 y1.2.2.1.bf.length)<|.br (H_.mode==2) (.br (H_.done) (.br (H_.code==1) (.cl JD (H_.body,()) λz2=>.ob (IM (y1.1.length+[z2.1].length) 24)<|.bk (bk1 (y1.1++[z2.1],(w1 y1.2.1,(y1.2.2.1,()))))) J_) J_) J_) (.lf KC (y1.1,()))) ?_;refine Ay ?_ λ(y1:fi) i1=>Z (λh2=>Ad ?_ λ_=>Z (λh4=>Z (λh5=>Z (λh6=>Ai ?_ λ_=>Ad ?_ λ_=>AR ?_) λh6=>AR ?_) λh5=>AR ?_) λh4=>AR ?_) (λh2=>Y ?_)<;>(have h0:she (p.bf.drop 0)=she p.bf:=rfl;have hl:=Ac AD p.bf;have hg:∀ i,i<p.bf.length->(p.bf.getD i default).body.size<=4200000000:=hp.2;have hg2:U AD p.bf<=1000000000000:=hp.1;clear hp;try simp only[std,Nat.reduceAdd,ct,cL,al,aw,bz,bK] at *)<;>(try simp(disch:=omega) only[FS,C_] at *)<;>(try simp(disch:=omega) only[G_,F_])<;>(first|trivial|omega|grind[FS,C_,B_,K_,I_,maxLen,ct,cL,List.length_append,List.length_cons,List.length_nil,List.append_assoc]))
def AdV {w:ByteArray} {r:dL} (h:ruleOf w=some r):r.name.size<=w.size/\1<=r.color/\r.color<=999:=by
 unfold ruleOf at h;split at h
 .cases h
 .rename_i q hq;split at h
  .rename_i hc;have:=Ny (p:=q.1) (q:=q.2) hq;obtain rfl:=Option.some.inj h;rw[AU] at this;exact⟨by rw[Df];omega,hc.2.2⟩
  .cases h
def FP:∀ (l:List ByteArray) (acc:List dL),U OR (parseR l acc)<=U OR acc+U Ag l/\∀ r,r∈parseR l acc->r∈acc\/1<=r.color/\r.color<=999
 | [],acc=>⟨by rw[parseR];omega,λr h=>.inl h⟩
 | w::l,acc=>by
  rw[parseR,Ah];by_cases hc:acc.length<8
  .rw[G_ hc];cases hr:ruleOf w with
   | none=>
    obtain⟨i1,i2⟩:=FP l acc;grind
   | some x=>
    obtain⟨i1,i2⟩:=FP l (acc++[x]);have hx:=AdV hr;rw[Option.toList_some];rw[Dj] at i1;refine⟨by simp only[OR,Ag] at *;omega,λr h=>?_⟩;grind
  .rw[F_ hc];obtain⟨i1,i2⟩:=FP l acc;exact⟨O,i2⟩
def Qm (s:ByteArray):ET (parseSh s)<=s.size+1/\∀ r,r∈(parseSh s).rules->1<=r.color/\r.color<=999:=by
 obtain⟨h1,h2⟩:=FP (K 59 s) [];rw[PH] at h1;have h0:U OR []=0:=rfl;exact⟨by simp only[ET,parseSh];omega,λr h=>(h2 r h).elim (λh=>by cases h) id⟩
def F7:∀ (l:List av),U ET (she l)<=2*U AD l/\okSh (she l)
 | []=>⟨Nat.zero_le _,λs h=>by cases h⟩
 | x::l=>by
  obtain⟨i1,i2⟩:=F7 l;have e:=ct (l:=x::l) (i:=0) (by simp);rw[fx] at e;rw[e,Ah];split
  .have hp:=Qm x.body;refine⟨?_,λs h=>?_⟩
   .rw[Ah];simp only[AD] at *;show ET (parseSh x.body)+1+U ET (she l)<=_;omega
   .rcases au.1 h with rfl|h
    .grind
    .exact i2 s h
  .grind
def Nm (s:ByteArray):∀ (l:List ByteArray) (k:Int),(line8L s l k).2=true->(line8L s l k).1.text.size<=60
 | [],k,h=>by cases h
 | w::l,k,h=>by
  rw[line8L] at h ⊢;split
  .rename_i hc;rw[G_ hc] at h;dsimp only at h ⊢;split at h
   .simp_all
   .have:=Bb h;omega
  .rename_i hc;rw[F_ hc] at h;exact Nm s l _ h
def GX (s:ByteArray):U EK (parseS s).1<=366/\(parseS s).1.length<=6:=by
 unfold parseS;split
 .exact⟨by decide,by decide⟩
 .split
  .rename_i hc;have hs:∀ l:List ByteArray,allOk8 l=true->U EK (lines8 l)<=61*l.length:=by
    intro l
    induction l with
    | nil=>intro _;decide
    | cons w l ih=>
     intro h;simp only[allOk8,List.all_cons,T_] at h;have:=ih h.2;have h2:=Nm w _ _ h.1;show U EK ((line8 w).1::lines8 l)<=_;rw[Ah];simp only[EK,aw,line8] at *;omega
   have:=hs _ hc.2;exact⟨by dsimp only;omega,by dsimp only;rw[lines8,cE];exact hc.1⟩
  .exact⟨by decide,by decide⟩
def BR {J:Type} (f:J->Nat):∀ (l m:List J),U f (l++m)=U f l+U f m
 | [],m=>by show U f m=0+U f m;omega
 | x::l,m=>by rw[cy,Ah,Ah,BR f l m];omega
def addL:List ByteArray->List ByteArray->List ByteArray
 | g,[]=>g
 | g,x::l=>if g.length<40 then addL (g++[x]) l else g
def Sk {l g:List ByteArray} {i:Nat} (h:i<l.length):addL g (l.drop i)=if g.length<40 then addL (g++[l.getD i default]) (l.drop (i+1)) else g:=by rw[B_ h];rfl
def OO {l g:List ByteArray} {i:Nat} (h:l.length<=i):addL g (l.drop i)=g:=by rw[cx h];cases g<;>rfl
def Jx {l g:List ByteArray} (h:¬ g.length<40):addL g l=g:=by
 cases l with
 | nil=>cases g<;>rfl
 | cons x l=>rw[addL,F_ h]
def I2 (g:List ByteArray):addL g []=g:=by cases g<;>rfl
def rsOf (p:A_) (c:ByteArray):am×ByteArray×List ByteArray:=runS p.ba (she p.bf) (parseS c).1
def runC (p:A_) (c:ByteArray) (w:Bool):A_ :=
 if(parseS c).2=true then{ p with ba:=(rsOf p c).1,bp:=if w=true then toke (rsOf p c).2.1++p.bp else p.bp,log:=addL p.log (rsOf p c).2.2 }
 else{ p with log:=addL p.log [⟨#[101,114,114,111,114]⟩]}
def Jv (l:List bF):∀ (r:List bU) (b:am) (w:ByteArray) (g:List ByteArray),szB (runLi l r b w g).1<=szB b+U EK r/\(runLi l r b w g).2.1.size<=w.size+U EK r/\(runLi l r b w g).2.2.length<=g.length+r.length
 | [],b,w,g=>⟨bN _ _,bN _ _,bN _ _⟩
 | x::r,b,w,g=>by
  have h:=Pw b l x;have i1:=Jv l r (runL b l x).1 (w++(runL b l x).2.1) (if(runL b l x).2.2=⟨#[]⟩ then g else g++[(runL b l x).2.2]);rw[runLi,Ah];have hg:(if(runL b l x).2.2=⟨#[]⟩ then g else g++[(runL b l x).2.2]).length<=g.length+1:=by split<;>simp
  rw[aQ] at i1;simp only[aw,EK] at *
  omega
def Acj (p:A_) (c:ByteArray):szB (rsOf p c).1<=szB p.ba+366/\(rsOf p c).2.1.size<=366/\(rsOf p c).2.2.length<=6:=by
 have h1:=Jv (she p.bf) (parseS c).1 p.ba ⟨#[]⟩ [];have h2:=GX c;have h0:ByteArray.size ⟨#[]⟩=0:=rfl;simp only[rsOf,runS,bz] at *
 omega
def Jw (s:ByteArray):U szT (toke s)<=s.size+2/\(toke s).length<=s.size+2:=by
 have h1:=KH s;have h2:=OY (feedA s).2;have h3:U szT (toke s)<=s.size+2:=by unfold toke;rw[BR];omega
 exact⟨h3,aP (Ac _ _) h3⟩
abbrev GA:Fct:=⟨[.v (.el .page),.v (.el .str),.v (.el .bool)],[.el .page],λ(x:gG)=>Au x.1<=1000000000000/\szB x.1.ba<=40000000000/\U AD x.1.bf<=40000000000/\x.2.1.size<=4200000000/\okBod x.1,λ(x:gG)=>(runC x.1 x.2.1 x.2.2.1,())⟩
abbrev Do (p:A_) (c:ByteArray) (w:Bool):LInv:=⟨[⟨.b,7,true,.el .page⟩,⟨.s,13,true,.el .int⟩,⟨.b,6,true,.el .page⟩,⟨.s,12,true,.sl .str⟩],λ(z x:fj)=>((0<=x.2.1/\x.2.1<=(rsOf p c).2.2.length/\x.1={ p with ba:=(rsOf p c).1,log:=x.1.log }/\addL x.1.log ((rsOf p c).2.2.drop x.2.1.toNat)=addL p.log (rsOf p c).2.2/\x.1.log.length<=p.log.length+x.2.1)/\x.2.2.1=z.2.2.1)/\x.2.2.2.1=z.2.2.2.1,λ(x:fj)=>(rsOf p c).2.2.length-x.2.1.toNat⟩
def AoI:=Aoj.a GA<|Fct.p (KP [1,2,3,6,7,8,9,10,11,12,13] [22,26,54,66]) (λ⟨p,c,w,_⟩=>lv [(10,Do p c w)]) Aoj.2 func110 (by
 rintro⟨(p:A_),(c:ByteArray),(w:Bool),_⟩ hp;refine ho (.cl Be (p,()) λz2=>.cl De (c,()) λz3=>.br (!z3.2.1) (.br (decide ((z2.1.log.length:Int)<40)) (.ap (z2.1.log.length+1) 16<|.lf GA ({z2.1 with log:=z2.1.log++[(⟨#[101,114,114,111,114]⟩:ByteArray)]},())) (.lf GA (z2.1,()))) (.cl KC (p,()) λz4=>.cl IZ (p.ba,z4.1,z3.1,()) λz5=>lpx (Do p c w) (({z2.1 with ba:=z5.1}:A_),((0:Int),(default,(z5.2.2.1,())))) λ(y8:fj) bk8=>let H_:Out:=.br (w) (.cl M8 (z5.2.1,()) λz6=>.ob (IM (z6.1.length+y8.1.bp.length) 64)<|.lf GA ({y8.1 with bp:=z6.1++y8.1.bp},())) (.lf GA (y8.1,()));.br (decide (y8.2.1<(y8.2.2.2.1.length:Int))) (.br (decide ((y8.1.log.length:Int)<40)) (.ix y8.2.1 y8.2.2.2.1.length<|.ap (y8.1.log.length+[y8.2.2.2.1.getD y8.2.1.toNat default].length) 16<|.re (Value.string c)<|.re (Value.bool w)<|.re (Value.bool z3.2.1)<|.re (Value.string z5.2.1)<|.bk (bk8 (({y8.1 with log:=y8.1.log++[y8.2.2.2.1.getD y8.2.1.toNat default]}:A_),(w1 y8.2.1,(y8.2.2.1,(y8.2.2.2.1,())))))) H_) H_)) ?_;refine Ai ?_ λ_=>(Ai ?_ λ_=>Z (λh3=>Z (λh4=>FB ?_ λ_=>Y ?_) λh4=>Y ?_) λh3=>Ai ?_ λ_=>Ai ?_ λ_=>Ay ?_ λ(y8:fj) i8=>Z (λh9=>Z (λh10=>Ey ?_ λo11 o12=>FB ?_ λ_=>Al<|Al<|Al<|Al<|AR ?_) λh10=>Z (λh15=>Ai ?_ λ_=>Ad ?_ λ_=>Y ?_) λh15=>Y ?_) λh9=>Z (λh18=>Ai ?_ λ_=>Ad ?_ λ_=>Y ?_) λh18=>Y ?_)<;>(have hz:=Acj p c;have hs:=GX c;have hk:=F7 p.bf;have hq:U szT p.bp+szB p.ba+U AD p.bf+U Ag p.log<=Au p:=by simp only[Au];omega)<;>(have hq1:=Ac szT p.bp;have hq2:=Ac Ag p.log)<;>obtain⟨hp1,hp2,hp3,hp4,hp5⟩:=(show Au p<=1000000000000/\szB p.ba<=40000000000/\U AD p.bf<=40000000000/\c.size<=4200000000/\okBod p from hp)<;>(have hrs:runS p.ba (she p.bf) (parseS c).1=rsOf p c:=rfl;try simp only[WJ] at *)<;>(try simp only[std,Nat.reduceAdd,hrs] at *)<;>(first|trivial|omega|exact⟨O,hp5⟩|exact⟨O,O,O,hk.2⟩|exact⟨O,O,rfl,rfl,O⟩|skip)<;>(first|(unfold runC;rw[F_ (by rw[show Prod.snd _=false from ‹_›];decide)];first|rw[addL,G_ O,I2]|(rw[Jx O]))|skip)<;>(obtain⟨⟨⟨a1,a2,a3,a4,a5⟩,a6⟩,a7⟩:=i8;obtain⟨q,i,d,lg,u⟩:=y8;try dsimp only at *;generalize q.log=L at *;subst a3;subst a7;try dsimp only at *)<;>(first|trivial|omega|(have:=Jw (rsOf p c).2.1;simp only[IM];omega)|(have:=Jw (rsOf p c).2.1;omega)|skip)<;>(first|(rw[OO O] at a4;unfold runC;rw[G_ ‹_›,<-a4];first|rw[G_ ‹_›]|(rw[F_ (by rw[show w=false from ‹_›];decide)]))|(rw[Jx O] at a4;unfold runC;rw[G_ ‹_›,<-a4];first|rw[G_ ‹_›]|(rw[F_ (by rw[show w=false from ‹_›];decide)]))|skip)<;>(rw[Sk O,G_ O] at a4;rw[AE O,show(i+1).toNat=i.toNat+1 from O])<;>exact⟨⟨⟨⟨O,O,rfl,a4,by rw[al];simp only[aw,bz];omega⟩,a6⟩,rfl⟩,O⟩)
def closeN (b:am) (n:ByteArray):Nat->List Int
 | 0=>b.bn
 | 1=>b.bn
 | m+2=>if 0<=b.bn.getD (m+1) default/\b.bn.getD (m+1) default<b.bj.length/\(b.bj.getD (b.bn.getD (m+1) default).toNat default).name=n then b.bn.take (m+1) else closeN b n (m+1)
def Ac8 {b:am} {n:ByteArray} {i:Int} (h:1<=i):closeN b n (i+1).toNat=if 0<=b.bn.getD i.toNat default/\b.bn.getD i.toNat default<b.bj.length/\(b.bj.getD (b.bn.getD i.toNat default).toNat default).name=n then b.bn.take i.toNat else closeN b n i.toNat:=by
 obtain⟨m,rfl⟩:∃ m:Nat,i=m+1:=⟨(i-1).toNat,O⟩;rfl
def Zw {b:am} {n:ByteArray} {i:Int} (h:i<=0):closeN b n (i+1).toNat=b.bn:=by
 have h2:(i+1).toNat=0\/(i+1).toNat=1:=O
 rcases h2 with h2|h2<;>rw[h2]<;>rfl
def closeB (b:am) (n:ByteArray):am:=⟨b.bj,closeN b n b.bn.length⟩
abbrev Pb:GS:=⟨[.g (.el .ba),.l (.v (.el .str))],[.el .ba],λ(x:e7)=>szB x.1<=1000000000000,λ(x:e7)=>((closeB x.1 x.2.1,()),(()))⟩
abbrev Ev (b:am) (n:ByteArray):LInv:=⟨[⟨.s,5,true,.el .int⟩,⟨.b,2,true,.el .ba⟩,⟨.b,4,true,.el .ba⟩],λ_ (x:fk)=>x.2.1=b/\-1<=x.1/\x.1<b.bn.length/\closeN b n (x.1+1).toNat=closeN b n b.bn.length,λ(x:fk)=>(x.1+1).toNat⟩
def Apo:=AoI.G Pb<|GS.of (S:=Pb) (L:=λ⟨b,n,_⟩=>λ|2=>some (Ev b n)|_=>none) (kp:=(KP [1,2,4,5,6] [12,35])) AoI.2 func210 k_ k_ (by
 rintro⟨(b:am),(n:ByteArray),_⟩ hp;refine ho (lpx (Ev b n) (wr ((b.bn.length:Int)-(1:Int)),(b,(default,()))) λ(y1:fk) bk1=>.br (decide (y1.1>0)) (.ix y1.1 y1.2.1.bn.length<|.cl Ap (y1.2.1.bn.getD y1.1.toNat default,(0:Int),wr ((y1.2.1.bj.length:Int)-(1:Int)),()) λz2=>.br (z2.1) (.ix (y1.2.1.bn.getD y1.1.toNat default) y1.2.1.bj.length<|.br ((y1.2.1.bj.getD (y1.2.1.bn.getD y1.1.toNat default).toNat default).name.toList==n.toList) (.ob (0<=y1.1/\y1.1<=(y1.2.1.bn.length:Int))<|.ob (0+(y1.1.toNat-0)<=y1.2.1.bn.length)<|GS.out Pb ((⟨y1.2.1.bj,cut y1.2.1.bn 0 (y1.1.toNat-0)⟩,()),(()))) (.re (Value.string n)<|.bk (bk1 (wr (y1.1-(1:Int)),(y1.2.1,(y1.2.2.1,())))))) (.re (Value.string n)<|.bk (bk1 (wr (y1.1-(1:Int)),(y1.2.1,(y1.2.2.1,())))))) (GS.out Pb ((y1.2.1,()),(())))) ?_;refine Ay ?_ λ(y1:fk) i1=>Z (λh2=>Ey ?_ λo3 o4=>Ai trivial λ_=>Z (λh5=>Ey ?_ λo6 o7=>Z (λh8=>Ad ?_ λ_=>Ad ?_ λ_=>GS.leafY ?_) λh8=>Al<|AR ?_) λh5=>Al<|AR ?_) (λh2=>GS.leafY ?_)<;>(have hl:b.bn.length<=1000000000000:=by have h1:szB b<=1000000000000:=hp;simp only[szB] at h1;omega)<;>(have hn:b.bj.length<=1000000000000:=by have h1:szB b<=1000000000000:=hp;have:=Ac AS b.bj;simp only[szB] at h1;omega)<;>(try simp only[std,Nat.reduceAdd,inRange,closeB] at *)<;>(try obtain⟨a0,a1,a2,a3⟩:=i1;simp only[a0] at *)<;>(try simp only[AE (show -9223372036854775808<=(b.bn.length:Int)-1/\(b.bn.length:Int)-1<=9223372036854775807 from O)] at *)<;>(first|trivial|omega|(rw[show((b.bn.length:Int)-1+1).toNat=b.bn.length from O];exact⟨O,O,rfl⟩)|skip)<;>(try simp only[T_,fB,az,cw,AE (show -9223372036854775808<=(b.bj.length:Int)-1/\(b.bj.length:Int)-1<=9223372036854775807 from O)] at *)<;>(first|omega|(rw[Zw O] at a3;rw[<-a3])|skip)<;>rw[Ac8 O] at a3<;>(first|(rw[G_ (by exact⟨O,O,‹_›⟩)] at a3;rw[<-a3];first|rfl|simp[cut])|(rw[F_ (by rintro⟨q1,q2,q3⟩;first|omega|exact absurd q3 ‹_›)] at a3;rw[AE O,show(y1.1-1+1).toNat=y1.1.toNat from O];exact⟨⟨by first|assumption|trivial,O,O,a3⟩,O⟩)))
def las (b:am):Int:=b.bn.getD (b.bn.length-1) default
def addT (b:am) (t:ai):am×Int :=
 if t.kind=2 then(closeB b t.name,-1)
 else if b.bj.length<40/\0<b.bn.length/\(t.kind=1/\isVoid t.name=false->b.bn.length<8)/\(t.kind=1\/t.kind=3/\t.text≠⟨#[]⟩) then
  (if t.kind=1 then⟨b.bj++[⟨t.name,⟨#[]⟩,las b,t.bq⟩],if isVoid t.name=true then b.bn else b.bn++[(b.bj.length:Int)]⟩ else⟨b.bj++[⟨⟨#[]⟩,t.text,las b,[]⟩],b.bn⟩,(b.bj.length:Int))
 else(b,-1)
def Oz {b:am} {t:ai} (h:t.kind=2):addT b t=(closeB b t.name,-1):=by unfold addT;rw[G_ h]
def Ut {b:am} {t:ai} (h:¬ t.kind=2) (h2:40<=b.bj.length\/b.bn.length=0\/(t.kind=1/\isVoid t.name=false/\8<=b.bn.length)\/(t.kind≠1/\(t.kind≠3\/t.text=⟨#[]⟩))):addT b t=(b,-1):=by
 unfold addT;grind
def Vf {b:am} {t:ai} (h:t.kind=1) (h1:b.bj.length<40) (h2:0<b.bn.length) (h3:isVoid t.name=true\/b.bn.length<8):addT b t=(⟨b.bj++[⟨t.name,⟨#[]⟩,las b,t.bq⟩],if isVoid t.name=true then b.bn else b.bn++[(b.bj.length:Int)]⟩,(b.bj.length:Int)):=by
 unfold addT;grind
def V0 {b:am} {t:ai} (h:t.kind=3) (h1:b.bj.length<40) (h2:0<b.bn.length) (h3:¬ t.text=⟨#[]⟩):addT b t=(⟨b.bj++[⟨⟨#[]⟩,t.text,las b,[]⟩],b.bn⟩,(b.bj.length:Int)):=by
 unfold addT;simp_all
def Nk {b:am}:b.bn.getD ((b.bn.length:Int)-1).toNat default=las b:=by
 rw[show((b.bn.length:Int)-1).toNat=b.bn.length-1 from O];rfl
abbrev C3:Fct:=⟨[.v (.el .ba),.v (.el .token)],[.el .ba,.el .int],λ(x:am×ai×Unit)=>szB x.1<=100000000000/\szT x.2.1<=100000000000,λ(x:am×ai×Unit)=>((addT x.1 x.2.1).1,(addT x.1 x.2.1).2,())⟩
def ApG:=Apo.a C3<|Fct.o (KP [2,3,4,5,6,7,8,9] [17,47,59,70,88]) Apo.2 func153 (by
 rintro⟨(b:am),(t:ai),_⟩ hp;refine ho (let aJ:=(⟨#[]⟩:ByteArray);let bP:=!t.text.toList==aJ.toList;let ay:=(b.bn.length:Int);let Y_:=(b.bj.length:Int);let bX:=decide (Y_>=40);let L_:=ay-(1:Int);let aO:=0<=wr L_/\wr L_<ay;let J_:=(⟨aJ,t.text,b.bn.getD (wr L_).toNat default,[]⟩:cT);.cl DS (b,()) λz2=>let aK:=z2.1.bn.length+[Y_].length;let bQ:=IM (z2.1.bj.length+[J_].length) 64;let O_:Out:=.lf C3 (z2.1,(-1:Int),());.br (t.kind==2) (.ob (Pb.pre (z2.1,t.name,()))<|.lt _ (Pb.fn (z2.1,t.name,())) λz3=>.lf C3 (z3.1.1,(-1:Int),())) (.br (t.kind==1) (.cl Rm (t.name,()) λz4=>let H_:Out:=.ob aO<|.br (t.kind==1) (.cl FW (t.bq,()) λz5=>let aq:=(⟨t.name,aJ,b.bn.getD (wr L_).toNat default,z5.1⟩:cT);.ob (IM (z2.1.bj.length+[aq].length) 64)<|.br (!z4.1) (.ap aK 8<|.lf C3 (⟨z2.1.bj++[aq],z2.1.bn++[Y_]⟩,Y_,())) (.lf C3 (⟨z2.1.bj++[aq],z2.1.bn⟩,Y_,()))) (.br (t.kind==3) (.br bP (.ob bQ<|.br (!z4.1) (.ap aK 8<|.lf C3 (⟨z2.1.bj++[J_],z2.1.bn++[Y_]⟩,Y_,())) (.lf C3 (⟨z2.1.bj++[J_],z2.1.bn⟩,Y_,()))) O_) O_);.br bX O_ (.br (ay==0) O_ (.br (!z4.1) (.br (decide (ay>=8)) O_ H_) H_))) (.br bX O_ (.br (ay==0) O_ (.ob aO<|.br (t.kind==1) (.cl FW (t.bq,()) λz7=>let bD:=(⟨t.name,aJ,b.bn.getD (wr L_).toNat default,z7.1⟩:cT);.ob (IM (z2.1.bj.length+[bD].length) 64)<|.lf C3 (⟨z2.1.bj++[bD],z2.1.bn⟩,Y_,())) (.br (t.kind==3) (.br bP (.ob bQ<|.lf C3 (⟨z2.1.bj++[J_],z2.1.bn⟩,Y_,())) O_) O_)))))) ?_;repeat' first|(guard_target =~ Out.holds _ _;first|refine Y ?_|refine Z (λ_=>?_) λ_=>?_|refine Ai ?_ λ_=>?_|refine Ad ?_ λ_=>?_|refine K6 ?_|refine FB ?_ λ_=>?_)|exact trivial
 all_goals (have hl:b.bn.length<=100000000000:=by have h1:szB b<=100000000000:=hp.1;simp only[szB] at h1;omega)<;>(have hn:b.bj.length<=100000000000:=by have h1:szB b<=100000000000:=hp.1;have:=Ac AS b.bj;simp only[szB] at h1;omega)<;>(have ha:U B3 t.bq<=100000000000/\t.bq.length<=100000000000:=by have h1:szT t<=100000000000:=hp.2;have:=Ac B3 t.bq;simp only[szT] at h1;omega)<;>(try simp only[std,Nat.reduceAdd] at *)<;>(try simp only[AE (show -9223372036854775808<=(b.bn.length:Int)-1/\(b.bn.length:Int)-1<=9223372036854775807 from O),Nk] at *)<;>(first|trivial|omega|skip)<;>(first|(rw[Oz ‹_›];exact⟨rfl,rfl⟩)|skip)<;>(first|(rw[Ut O (by first|exact .inl O|exact .inr (.inl O)|exact .inr (.inr (.inl ⟨O,‹_›,O⟩))|exact .inr (.inr (.inr ⟨O,.inl O⟩))|exact .inr (.inr (.inr ⟨O,.inr ‹_›⟩)))];exact⟨rfl,rfl⟩)|skip)<;>(first|(rw[Vf O O O (by first|exact .inl ‹_›|exact .inr O)];first|rw[G_ ‹_›]|rw[F_ (by rw[show isVoid t.name=false from ‹_›];decide)])|(rw[V0 O O O ‹_›])|skip)<;>(first|exact⟨rfl,rfl⟩|exact absurd ((show isVoid t.name=true from ‹_›).symm.trans (show isVoid t.name=false from ‹_›)) (by decide)))
def LG (s b:ByteArray):(par s b).1.host.size<=s.size+b.size/\(par s b).1.path.size<=s.size+b.size:=by
 have:=M6 s b;unfold par;split
 .grind
 .exact⟨Nat.zero_le _,Nat.zero_le _⟩
def reqO (p:A_) (s:av):ax:=⟨kindOf s.mode,s.to,p.addr.host,s.digest⟩
def raw (p:A_) (mode:Int) (to digest:ByteArray) (node:Int):av:=⟨mode,(par to p.addr.host).1,digest,node,false,0,⟨#[]⟩⟩
def newS (p:A_) (mode:Int) (to digest:ByteArray) (node:Int):av :=
 if(par to p.addr.host).2=true/\checkRequest p.bm (reqO p (raw p mode to digest node))=1 then raw p mode to digest node
 else⟨mode,(par to p.addr.host).1,digest,node,true,2,⟨#[]⟩⟩
def addS (p:A_) (mode:Int) (to digest:ByteArray) (node:Int):A_×Int :=
 if p.bf.length<20/\kindOf mode≠0 then({ p with bf:=p.bf++[newS p mode to digest node]},(p.bf.length:Int)) else(p,-1)
def Sz (p:A_) (s:av):slotRequest { p with bf:=p.bf++[s]} (p.bf.length:Int)=reqO p s:=by
 unfold slotRequest reqO;grind
def X4 {p:A_} {mode:Int} {to digest:ByteArray} {node:Int} (h:20<=p.bf.length\/kindOf mode=0):addS p mode to digest node=(p,-1):=by
 unfold addS;rw[F_];rintro⟨q1,q2⟩;rcases h with h|h
 .omega
 .exact q2 h
def TK {p:A_} {mode:Int} {to digest:ByteArray} {node:Int} (h:p.bf.length<20) (h2:¬ kindOf mode=0):addS p mode to digest node=({ p with bf:=p.bf++[newS p mode to digest node]},(p.bf.length:Int)):=by
 unfold addS;rw[G_ ⟨h,h2⟩]
def Jp {J:Type}:∀ (l:List J) (x:J) (f:J->J),(l++[x]).modify l.length f=l++[f x]
 | [],x,f=>rfl
 | a::l,x,f=>by show a::(l++[x]).modify l.length f=_;rw[Jp l x f];rfl
def YF {p:A_} {m:Int} {to d:ByteArray} {n:Int} (h:(par to p.addr.host).2=false\/¬ checkRequest p.bm (reqO p (raw p m to d n))=1):newS p m to d n=⟨m,(par to p.addr.host).1,d,n,true,2,⟨#[]⟩⟩:=by
 unfold newS;rw[F_];rintro⟨q1,q2⟩;rcases h with h|h
 .simp_all
 .exact h q2
def Uu {p:A_} {m:Int} {to d:ByteArray} {n:Int} (h:(par to p.addr.host).2=true) (h2:checkRequest p.bm (reqO p (raw p m to d n))=1):newS p m to d n=raw p m to d n:=by
 unfold newS;rw[G_ ⟨h,h2⟩]
abbrev Ff:Fct:=⟨[.v (.el .page),.v (.el .int),.v (.el .str),.v (.el .str),.v (.el .int)],[.el .page,.el .int],λ(x:gH)=>Au x.1<=1090000000000/\x.1.addr.host.size<=4000000000/\x.2.2.1.size<=4000000000/\x.2.2.2.1.size<=50000000000,λ(x:gH)=>((addS x.1 x.2.1 x.2.2.1 x.2.2.2.1 x.2.2.2.2.1).1,(addS x.1 x.2.1 x.2.2.1 x.2.2.2.1 x.2.2.2.2.1).2,())⟩
def ApY:=ApG.a Ff<|Fct.o (KP [1,2,3,4,5,10,11,12,13,14,15] [27,57]) ApG.2 func212 (by
 rintro⟨(p:A_),(m:Int),(to:ByteArray),(d:ByteArray),(n:Int),_⟩ hp;refine ho (let J_:=(p.bf.length:Int);.cl Be (p,()) λz2=>let O_:Out:=.lf Ff (z2.1,(-1:Int),());.br (decide (J_>=20)) O_ (.cl Bp (m,()) λ(z3:D_)=>.br (z3.1==0) O_ (.cl BW (to,p.addr.host,()) λz4=>let H_:=(⟨m,z4.1,d,n,false,(0:Int),(⟨#[]⟩:ByteArray)⟩:av);let L_:=z2.1.bf++[H_];.ap (z2.1.bf.length+[H_].length) 96<|.br (!z4.2.1) (.ix J_ (L_.length)<|.lt (List av) (L_.modify J_.toNat λz=>({z with done:=true}:av)) λz5=>.ix J_ z5.length<|.lt (List av) (z5.modify J_.toNat λz=>({z with code:=(2:Int)}:av)) λz6=>.lf Ff ({z2.1 with bf:=z6},J_,())) (.cl Bl (({z2.1 with bf:=z2.1.bf++[H_]}:A_),J_,()) λz7=>.cl AJ (p.bm,z7.1,()) λ(z8:D_)=>.br (z8.1 != 1) (.ix J_ (L_.length)<|.lt (List av) (L_.modify J_.toNat λz=>({z with done:=true}:av)) λz9=>.ix J_ z9.length<|.lt (List av) (z9.modify J_.toNat λz=>({z with code:=(2:Int)}:av)) λz10=>.lf Ff ({z2.1 with bf:=z10},J_,())) (.lf Ff ({z2.1 with bf:=z2.1.bf++[H_]},J_,())))))) ?_;repeat' first|(guard_target =~ Out.holds _ _;first|refine Y ?_|refine Z (λ_=>?_) λ_=>?_|refine Ai ?_ λ_=>?_|refine K6 ?_|refine FB ?_ λ_=>?_|refine Ey ?_ λ_ _=>?_)|exact trivial
 all_goals (have hl:p.bf.length<=1090000000000:=by have h1:Au p<=1090000000000:=hp.1;have:=Ac AD p.bf;simp only[Au] at h1;omega)<;>(have hpo:AG p.bm<=1090000000000:=by have h1:Au p<=1090000000000:=hp.1;simp only[Au] at h1;omega)<;>(have hz:=LG to p.addr.host;try simp only[WJ] at *)<;>(try simp only[std,Nat.reduceAdd] at *)<;>(try simp only[Sz,Jp,al,aw,bz,eo] at *)<;>(first|trivial|omega|(rw[X4 (by first|exact .inl O|exact .inr ‹_›)];exact⟨rfl,rfl⟩)|rw[TK O ‹_›]|skip)<;>(first|exact⟨O,by simp only[A6,szAddr,reqO];omega⟩|(rw[YF (by first|exact .inl ‹_›|exact .inr ‹_›)];exact⟨rfl,rfl⟩)|(rw[Uu ‹_› ‹_›];exact⟨rfl,rfl⟩)))
def fillS (p:A_) (x:M_) (s:av):av:=if s.done=true then s else{ s with done:=true,code:=checkResponse p.bm (reqO p s) x,body:=(usable p.bm (reqO p s) x).1 }
def fillSl (p:A_) (k:Int) (x:M_):A_:=if 0<=k/\k<p.bf.length then{ p with bf:=p.bf.modify k.toNat (fillS p x)} else p
abbrev J0:Fct:=⟨[.v (.el .page),.v (.el .int),.v (.el .bd)],[.el .page],λ(x:gJ)=>Au x.1<=1000000000000/\x.1.addr.host.size<=4000000000/\(∀ i,i<x.1.bf.length->AD (x.1.bf.getD i default)<=50000000000)/\-9223372036854775808<=x.2.1/\x.2.1<=9223372036854775807/\x.2.2.1.bm.size<=200000000/\x.2.2.1.body.size<=1000000000,λ(x:gJ)=>(fillSl x.1 x.2.1 x.2.2.1,())⟩
def ask (a:HO):List Z_->Nat
 | []=>0
 | m::l=>if cmp m.to a<0 then ask a l+1 else 0
def YT {a:HO} {l:List Z_} {i:Nat} (h:i<l.length):ask a (l.drop i)=if cmp (l.getD i default).to a<0 then ask a (l.drop (i+1))+1 else 0:=by rw[B_ h];rfl
def VK {a:HO} {l:List Z_} {i:Nat} (h:l.length<=i):ask a (l.drop i)=0:=by rw[cx h];rfl
def newM (p:A_) (a:HO):Z_:=if checkRequest p.bm ⟨5,a,p.addr.host,⟨#[]⟩⟩=1 then⟨a,false,0,⟨#[]⟩⟩ else⟨a,true,2,⟨#[]⟩⟩
def askM (p:A_) (a:HO):A_ :=
 if ask a p.bi<p.bi.length/\(p.bi.getD (ask a p.bi) default).to=a then p
 else{ p with bi:=p.bi.take (ask a p.bi)++newM p a::p.bi.drop (ask a p.bi)}
def AlW {l:List Z_} {i:Nat} {m:Z_} (h:i<=l.length):cut l 0 i++[m]++cut l i (l.length-i)=l.take i++m::l.drop i:=by
 simp only[cut,fx,bK,cy,eH];rw[cC (l:=List.drop i l) (by simp)]
def Acg {p:A_} {a:HO} {i:Nat} (h:ask a p.bi=i) (h1:i<p.bi.length) (h2:(p.bi.getD i default).to=a):askM p a=p:=by
 unfold askM;rw[h,G_ ⟨h1,h2⟩]
def Ajy {p:A_} {a:HO} {i:Nat} (h:ask a p.bi=i) (h0:i<=p.bi.length) (h1:i=p.bi.length\/¬ (p.bi.getD i default).to=a) (m:Z_) (hm:m=newM p a):askM p a={ p with bi:=cut p.bi 0 i++[m]++cut p.bi i (p.bi.length-i)}:=by
 unfold askM;rw[h,F_,AlW h0,hm];grind
def Adn {p:A_} {a:HO} (h:checkRequest p.bm ⟨5,a,p.addr.host,⟨#[]⟩⟩=1):(⟨a,false,0,⟨#[]⟩⟩:Z_)=newM p a:=by unfold newM;rw[G_ h]
def AdM {p:A_} {a:HO} (h:¬ checkRequest p.bm ⟨5,a,p.addr.host,⟨#[]⟩⟩=1):(⟨a,true,2,⟨#[]⟩⟩:Z_)=newM p a:=by unfold newM;rw[F_ h]
abbrev FX:Fct:=⟨[.v (.el .page),.v (.el .addr)],[.el .page],λ(x:bE)=>Au x.1<=1090000000000/\x.1.addr.host.size<=4000000000/\szAddr x.2.1<=50000000000,λ(x:bE)=>(askM x.1 x.2.1,())⟩
abbrev Bz (p:A_) (a:HO):LInv:=⟨[⟨.s,6,true,.el .int⟩,⟨.b,2,false,.el .page⟩,⟨.b,3,true,.el .addr⟩,⟨.b,4,true,.el .page⟩,⟨.b,5,true,.el .page⟩],λ(z x:fm)=>((((0<=x.1/\x.1<=p.bi.length/\x.1+ask a (p.bi.drop x.1.toNat)=ask a p.bi)/\x.2.1=z.2.1)/\x.2.2.1=z.2.2.1)/\x.2.2.2.1=z.2.2.2.1)/\x.2.2.2.2.1=z.2.2.2.2.1,λ(x:fm)=>p.bi.length-x.1.toNat⟩
def Aoc:=ApY.a FX<|Fct.p (KP [2,3,4,5,6,7,8] [26,43,55]) (λ⟨p,a,_⟩=>lv [(3,Bz p a)]) ApY.2 func125 (by
 rintro⟨(p:A_),(a:HO),_⟩ hp;refine ho (let aO:=(⟨#[]⟩:ByteArray);.cl Be (p,()) λz2=>lpx (Bz p a) ((0:Int),(p,(a,(default,(z2.1,()))))) λ(y2:fm) bk2=>let eE:=inB y2.1 y2.2.1.bi.length;let aK:=decide (y2.1<(y2.2.1.bi.length:Int));let aJ:=y2.2.1.bi.getD y2.1.toNat default;let ay:=y2.1.toNat-0;let dw:=[]++cut y2.2.2.2.2.1.bi 0 ay;let bP:=0+ay<=y2.2.2.2.2.1.bi.length;let bD:=IM (0+(cut y2.2.2.2.2.1.bi 0 ay).length) 64;let aq:=(⟨y2.2.2.1,true,(2:Int),aO⟩:Z_);let Y_:=(⟨y2.2.2.1,false,(0:Int),aO⟩:Z_);let O_:=0<=y2.1/\y2.1<=(y2.2.2.2.2.1.bi.length:Int);let L_:=y2.2.2.2.2.1.bi.length-y2.1.toNat;let bX:=cut y2.2.2.2.2.1.bi y2.1.toNat L_;let bQ:=y2.1.toNat+L_<=y2.2.2.2.2.1.bi.length;let H_:Out:=.cl AJ (y2.2.1.bm,(⟨(5:Int),y2.2.2.1,y2.2.1.addr.host,aO⟩:ax),()) λ(z4:D_)=>.br (z4.1 != 1) (.ob O_<|.ob bP<|.ob bD<|.ap (dw.length+[aq].length) 64<|.ob O_<|.ob bQ<|.ob (IM (([]++cut y2.2.2.2.2.1.bi 0 ay++[aq]).length+bX.length) 64)<|.lf FX ({y2.2.2.2.2.1 with bi:=[]++cut y2.2.2.2.2.1.bi 0 ay++[aq]++cut y2.2.2.2.2.1.bi y2.1.toNat L_},())) (.ob O_<|.ob bP<|.ob bD<|.ap (dw.length+[Y_].length) 64<|.ob O_<|.ob bQ<|.ob (IM (([]++cut y2.2.2.2.2.1.bi 0 ay++[Y_]).length+bX.length) 64)<|.lf FX ({y2.2.2.2.2.1 with bi:=[]++cut y2.2.2.2.2.1.bi 0 ay++[Y_]++cut y2.2.2.2.2.1.bi y2.1.toNat L_},()));let J_:Out:=.br aK (.ob eE<|.br (aJ.to.host==y2.2.2.1.host&&(aJ.to.path==y2.2.2.1.path&&true)) (.lf FX (y2.2.2.2.2.1,())) H_) H_;.br aK (.ob eE<|.cl Br (aJ.to,y2.2.2.1,()) λ(z3:D_)=>.br (decide (z3.1<0)) (.bk (bk2 (w1 y2.1,(y2.2.1,(y2.2.2.1,(y2.2.2.2.1,(y2.2.2.2.2.1,()))))))) J_) J_) ?_;repeat' first|(guard_target =~ Out.holds _ _;first|refine Ay (li:=Bz p a) ?_ λ(y2:fm) i2=>?_|refine Y ?_|refine Z (λ_=>?_) λ_=>?_|refine Ai ?_ λ_=>?_|refine Ad ?_ λ_=>?_|refine AR ?_|refine FB ?_ λ_=>?_)|exact trivial
 all_goals (have hl:p.bi.length<=1090000000000:=by have h1:Au p<=1090000000000:=hp.1;have:=Ac AA p.bi;simp only[Au] at h1;omega)<;>(have hpo:AG p.bm<=1090000000000/\p.addr.host.size<=50000000000:=by have h1:Au p<=1090000000000:=hp.1;have h2:p.addr.host.size<=4000000000:=hp.2.1;simp only[Au,szAddr] at h1;omega)<;>(try simp only[std,Nat.reduceAdd] at *)<;>(first|trivial|omega|exact⟨O,O,by simp⟩|skip)<;>(try obtain⟨⟨⟨⟨⟨a1,a2,a3⟩,e1⟩,e2⟩,e3⟩,e4⟩:=i2;simp only[e1,e2,e3,e4,DP,az,cw,Nat.sub_zero,eH] at *)<;>(first|trivial|omega|exact⟨O,by simp only[A6,szAddr] at *;show _+_+0<=_;omega⟩|skip)<;>(first|(have hc:(cut p.bi 0 y2.1.toNat).length=y2.1.toNat:=by(simp only[cut,cZ,fK];omega))|skip)<;>(try simp only[hc,cM,al,aw,bz] at *)<;>(first|trivial|omega|(simp only[cut,cZ,fK];omega)|skip)<;>(first|(have e:=YT (a:=a) (l:=p.bi) (i:=y2.1.toNat) O;first|rw[G_ O] at e|rw[F_ O] at e)|(have e:=VK (a:=a) (l:=p.bi) (i:=y2.1.toNat) O))<;>(first|(rw[AE O,show(y2.1+1).toNat=y2.1.toNat+1 from O];simp only[and_true];exact⟨⟨O,O,O⟩,O⟩)|skip)<;>have e5:ask a p.bi=y2.1.toNat:=O<;>(first|(rw[Acg e5 O ‹_›])|(rw[Ajy e5 O (by first|exact .inr ‹_›|exact .inl O) _ (by first|exact Adn ‹_›|exact AdM ‹_›)])))
def ZQ (f:Z_->Z_) (m:Z_) (B:List Z_):∀ A:List Z_,(A++[m]++B).modify A.length f=A++[f m]++B
 | []=>rfl
 | a::A=>cG (List.cons a) (ZQ f m B A)
def addE (p:A_) (to:ByteArray):A_ :=
 if(par to p.addr.host).2=true/\p.bh.length<20 then{ askM p (par to p.addr.host).1 with bh:=p.bh++[(par to p.addr.host).1]} else p
def Ah4 (p:A_) (a:HO) (l:List HO):askM { p with bh:=l } a={ askM p a with bh:=l }:=by
 unfold askM newM;split<;>rfl
def Vy (p:A_) (a:HO):(askM p a).bh=p.bh:=by unfold askM;split<;>rfl
abbrev Kc:Fct:=⟨[.v (.el .page),.v (.el .str)],[.el .page],λ(x:dI)=>Au x.1<=1050000000000/\x.1.addr.host.size<=4000000000/\x.2.1.size<=4000000000,λ(x:dI)=>(addE x.1 x.2.1,())⟩
def ApQ:=Aoc.a Kc<|Fct.o (KP [1,2,4,5,6,7] [23]) Aoc.2 func214 (by
 rintro⟨(p:A_),(to:ByteArray),_⟩ hp;refine ho (let H_:Out:=.cl Be (p,()) λz3=>.lf Kc (z3.1,());.cl BW (to,p.addr.host,()) λz2=>.br (!z2.2.1) H_ (.br (decide ((p.bh.length:Int)>=20)) H_ (.cl FX (p,z2.1,()) λz5=>.ap (z5.1.bh.length+[z2.1].length) 32<|.lf Kc ({z5.1 with bh:=z5.1.bh++[z2.1]},())))) ?_;refine Ai ?_ λ_=>(Z (λh2=>Ai ?_ λ_=>Y ?_) λh2=>Z (λh4=>Ai ?_ λ_=>Y ?_) λh4=>Ai ?_ λ_=>FB ?_ λ_=>Y ?_)<;>(have hl:U szAddr p.bh+1<=1050000000001:=by have h1:Au p<=1050000000000:=hp.1;simp only[Au] at h1;omega)<;>(have hl2:=Ac szAddr p.bh;have hz:=LG to p.addr.host;have hs:Au { p with bh:=p.bh++[(par to p.addr.host).1]}<=Au p+szAddr (par to p.addr.host).1+1:=by simp only[Au,BR,Ah,show U szAddr []=0 from rfl];omega)<;>(have ha:szAddr (par to p.addr.host).1<=16000000000:=by simp only[szAddr];have q1:p.addr.host.size<=4000000000:=hp.2.1;have q2:to.size<=4000000000:=hp.2.2;omega)<;>(try simp only[std,Nat.reduceAdd,Ah4,Vy] at *)<;>(first|trivial|omega|skip)<;>unfold addE<;>(first|rw[G_ ⟨‹_›,O⟩]|rw[F_ (by rintro⟨q1,q2⟩;first|omega|(rw[show(par to p.addr.host).2=false from ‹_›] at q1;cases q1))]))
def ele (p:A_) (t:ai) (n:Int):A_ :=
 if t.name=⟨#[108,105,110,107]⟩/\(findAttr t.bq ⟨#[104,114,101,102]⟩).isSome=true then(addS p 2 ((findAttr t.bq ⟨#[104,114,101,102]⟩).getD ⟨#[]⟩) ((findAttr t.bq ⟨#[100,105,103,101,115,116]⟩).getD ⟨#[]⟩) n).1
 else if t.name=⟨#[105,109,103]⟩/\(findAttr t.bq ⟨#[115,114,99]⟩).isSome=true then(addS p 1 ((findAttr t.bq ⟨#[115,114,99]⟩).getD ⟨#[]⟩) ((findAttr t.bq ⟨#[100,105,103,101,115,116]⟩).getD ⟨#[]⟩) n).1
 else p
abbrev Fj:GS:=⟨[.g (.el .page),.i 8 (.el .token),.l (.v (.el .int))],[.el .page],λ(x:gK)=>Au x.1<=1050000000000/\x.1.addr.host.size<=4000000000/\szT x.2.1<=4000000000,λ(x:gK)=>((ele x.1 x.2.1 x.2.2.1,()),(()))⟩
def Apr:=ApQ.G Fj<|GS.of (S:=Fj) (L:=λ_ _=>none) (kp:=(KP [2,3,4,6,7,9,10,11,12] [30,50])) ApQ.2 func154 k_ k_ (by
 rintro⟨(p:A_),(t:ai),(n:Int),_⟩ hp;refine ho (let Y_:=GS.out Fj ((p,()),(()));let O_:=(⟨#[115,114,99]⟩:ByteArray);let J_:=t.name.toList==(⟨#[105,109,103]⟩:ByteArray).toList;.cl A1 (t.bq,(⟨#[100,105,103,101,115,116]⟩:ByteArray),()) λz2=>let H_:Out:=.cl A1 (t.bq,O_,()) λz7=>.br (z7.2.1) (.br J_ (.cl Ff (p,(1:Int),z7.1,z2.1,n,()) λ(z8:cc)=>GS.out Fj ((z8.1,()),(()))) Y_) Y_;.cl A1 (t.bq,(⟨#[104,114,101,102]⟩:ByteArray),()) λz3=>.br (z3.2.1) (.br (t.name.toList==(⟨#[108,105,110,107]⟩:ByteArray).toList) (.cl Ff (p,(2:Int),z3.1,z2.1,n,()) λ(z4:cc)=>let L_:=GS.out Fj ((z4.1,()),(()));.cl A1 (t.bq,O_,()) λz5=>.br (z5.2.1) (.br J_ (.cl Ff (z4.1,(1:Int),z5.1,z2.1,n,()) λ(z6:cc)=>GS.out Fj ((z6.1,()),(()))) L_) L_) H_) H_) ?_;repeat' (guard_target =~ Out.holds _ _;first|refine GS.leafY ?_|refine Z (λ_=>?_) λ_=>?_|refine Ai ?_ λ_=>?_)
 all_goals (have h1:=BB t.bq ⟨#[104,114,101,102]⟩;have h2:=BB t.bq ⟨#[115,114,99]⟩;have h3:=BB t.bq ⟨#[100,105,103,101,115,116]⟩;have h4:U B3 t.bq<=4000000000/\t.bq.length<=4000000000:=by have q:=hp.2.2;have:=Ac B3 t.bq;simp only[szT] at q;omega)<;>(try simp only[std,Nat.reduceAdd,ele] at *)<;>(try simp(disch:=omega) only[FS,C_] at *)<;>(try simp(disch:=omega) only[G_,F_])<;>(first|trivial|omega|grind[FS,C_,B_,K_,I_,maxLen,ele]))
def scri (p:A_) (n:Int):A_ :=
 if(findAttr (p.ba.bj.getD n.toNat default).bq ⟨#[115,114,99]⟩).isSome=false then(if allowsInline p.bm ((findAttr (p.ba.bj.getD n.toNat default).bq ⟨#[110,111,110,99,101]⟩).getD ⟨#[]⟩)=true then{ p with inline:=n } else p)
 else if(findAttr (p.ba.bj.getD n.toNat default).bq ⟨#[107,105,110,100]⟩).getD ⟨#[]⟩=⟨#[100,101,102,101,114]⟩ then(addS p 4 ((findAttr (p.ba.bj.getD n.toNat default).bq ⟨#[115,114,99]⟩).getD ⟨#[]⟩) ((findAttr (p.ba.bj.getD n.toNat default).bq ⟨#[100,105,103,101,115,116]⟩).getD ⟨#[]⟩) n).1
 else if(findAttr (p.ba.bj.getD n.toNat default).bq ⟨#[107,105,110,100]⟩).getD ⟨#[]⟩=⟨#[109,111,100,117,108,101]⟩ then addE p ((findAttr (p.ba.bj.getD n.toNat default).bq ⟨#[115,114,99]⟩).getD ⟨#[]⟩)
 else{ (addS p 3 ((findAttr (p.ba.bj.getD n.toNat default).bq ⟨#[115,114,99]⟩).getD ⟨#[]⟩) ((findAttr (p.ba.bj.getD n.toNat default).bq ⟨#[100,105,103,101,115,116]⟩).getD ⟨#[]⟩) n).1 with block:=(addS p 3 ((findAttr (p.ba.bj.getD n.toNat default).bq ⟨#[115,114,99]⟩).getD ⟨#[]⟩) ((findAttr (p.ba.bj.getD n.toNat default).bq ⟨#[100,105,103,101,115,116]⟩).getD ⟨#[]⟩) n).2+1 }
def H1 (p:A_):U szT p.bp+szB p.ba+U AD p.bf+U AA p.bi+U szAddr p.bh+U szAddr p.ran+U Ag p.log+AG p.bm+szAddr p.addr<=Au p:=by simp only[Au];omega
def O9 (p:A_) (m:Int) (to d:ByteArray) (n:Int) : -1<=(addS p m to d n).2/\(addS p m to d n).2<=20:=by
 unfold addS;grind
def Pf (l:List cT) (n:Nat) (h:n<l.length):U B3 (l.getD n default).bq<=U AS l:=by
 have:=Cy AS (l:=l) h;simp only[AS] at *;omega
abbrev DO:GS:=⟨[.g (.el .page),.l (.v (.el .int))],[.el .page],λ(x:cc)=>Au x.1<=1050000000000/\x.1.addr.host.size<=4000000000/\U AS x.1.ba.bj<=4000000000/\0<=x.2.1/\x.2.1<x.1.ba.bj.length,λ(x:cc)=>((scri x.1 x.2.1,()),(()))⟩
def ApI:=Apr.G DO<|GS.of (S:=DO) (L:=λ_ _=>none) (kp:=(KP [1,2,4,5,6,7,8,10,12,14,15] [55,61,64,75])) Apr.2 func155 k_ k_ (by
 rintro⟨(p:A_),(n:Int),_⟩ hp;refine ho (let H_:=p.ba.bj.getD (Int.toNat n) default;.ob (inB n p.ba.bj.length)<|.ob (Int.toNat n<p.ba.bj.length)<|.cl A1 (H_.bq,(⟨#[115,114,99]⟩:ByteArray),()) λz2=>.cl A1 (H_.bq,(⟨#[107,105,110,100]⟩:ByteArray),()) λz3=>.cl A1 (H_.bq,(⟨#[100,105,103,101,115,116]⟩:ByteArray),()) λz4=>.cl A1 (H_.bq,(⟨#[110,111,110,99,101]⟩:ByteArray),()) λz5=>.br (!z2.2.1) (.cl Em (p.bm,z5.1,()) λz6=>.br (z6.1) (GS.out DO (({p with inline:=n},()),(()))) (GS.out DO ((p,()),(())))) (.br (z3.1.toList==(⟨#[100,101,102,101,114]⟩:ByteArray).toList) (.cl Ff (p,(4:Int),z2.1,z4.1,n,()) λ(z7:cc)=>GS.out DO ((z7.1,()),(()))) (.br (z3.1.toList==(⟨#[109,111,100,117,108,101]⟩:ByteArray).toList) (.cl Kc (p,z2.1,()) λz8=>GS.out DO ((z8.1,()),(()))) (.cl Ff (p,(3:Int),z2.1,z4.1,n,()) λ(z9:cc)=>GS.out DO (({z9.1 with block:=w1 z9.2.1},()),(())))))) ?_;repeat' first|(guard_target =~ Out.holds _ _;first|refine GS.leafY ?_|refine Z (λ_=>?_) λ_=>?_|refine Ai ?_ λ_=>?_|refine Ad ?_ λ_=>?_)|exact trivial
 all_goals (have hn:=Pf p.ba.bj n.toNat (by have q1:0<=n:=hp.2.2.2.1;have q2:n<p.ba.bj.length:=hp.2.2.2.2;omega);have hn2:=Ac B3 (p.ba.bj.getD n.toNat default).bq)<;>generalize hat:(p.ba.bj.getD n.toNat default).bq=at_ at *<;>(have h1:=BB at_ ⟨#[110,111,110,99,101]⟩;have h2:=BB at_ ⟨#[115,114,99]⟩;have h3:=BB at_ ⟨#[100,105,103,101,115,116]⟩;have h4:=λm to d=>O9 p m to d n)<;>(try simp only[std,Nat.reduceAdd,scri] at *)<;>(try simp(disch:=omega) only[FS,C_] at *)<;>(try simp(disch:=omega) only[G_,F_])<;>(first|trivial|omega|grind[FS,C_,B_,K_,I_,maxLen,scri]))
def isScri (p:A_) (t:ai):Bool:=decide (t.kind=2)&&(decide (t.name=⟨#[115,99,114,105,112,116]⟩)&&(decide (0<p.ba.bn.length/\1<=las p.ba/\las p.ba<p.ba.bj.length)&&decide ((p.ba.bj.getD (las p.ba).toNat default).name=⟨#[115,99,114,105,112,116]⟩)))
def taken (p:A_) (t:ai):A_:={ p with bp:=p.bp.drop 1,ba:=(addT p.ba t).1 }
def takeT (p:A_) (t:ai):A_ :=
 if t.kind=1/\0<=(addT p.ba t).2 then ele (taken p t) t (addT p.ba t).2
 else if isScri p t=true then scri (taken p t) (las p.ba)
 else taken p t
def takeToke (p:A_):A_×Bool:=if p.bp.length=0\/p.block≠0\/p.inline≠0 then(p,false) else(takeT p (p.bp.getD 0 default),true)
def Ai6 {l:List ai}:cut l 1 (l.length-1)=l.drop 1:=by
 unfold cut;rw[cC (by simp)]
def AeL (p:A_) (t:ai):(⟨p.addr,p.bm,p.tok,cut p.bp 1 (p.bp.length-1),p.ended,(addT p.ba t).1,p.bf,p.bi,p.bh,p.block,p.inline,p.bo,p.bu,p.ran,p.log,p.loaded⟩:A_)=taken p t:=by rw[Ai6];rfl
def KZ (b:am) (n:ByteArray):∀ k,k<=b.bn.length->(closeN b n k).length<=b.bn.length
 | 0,_=>X_ _
 | 1,_=>X_ _
 | m+2,h=>by
  rw[closeN];split
  .grind
  .exact KZ b n (m+1) O
def MP (b:am) (t:ai):U AS (addT b t).1.bj<=U AS b.bj+szT t+1/\(addT b t).1.bn.length<=b.bn.length+1/\(t.kind=2->(addT b t).1.bj=b.bj):=by
 have h0:U AS []=0:=rfl;have h2:U B3 []=0:=rfl;have h3:ByteArray.size ⟨#[]⟩=0:=rfl;unfold addT;split
 .have:=KZ b t.name _ (X_ _);exact⟨by show U AS b.bj<=_;omega,by show(closeN b t.name b.bn.length).length<=_;omega,λ_=>rfl⟩
 .split
  .split
   .refine⟨?_,?_,λh=>absurd h O⟩
    .dsimp only;rw[BR,Ah,h0];simp only[AS,szT,h3];omega
    .grind
   .refine⟨?_,?_,λh=>absurd h O⟩
    .dsimp only;rw[BR,Ah,h0];simp only[AS,szT,h3,h2];omega
    .exact Nat.le_succ _
  .grind
def Ww (p:A_) (h:0<p.bp.length):Au (taken p (p.bp.getD 0 default))<=Au p+2/\szT (p.bp.getD 0 default)+1+U szT (p.bp.drop 1)=U szT p.bp:=by
 have h1:=W0 szT h;rw[fx,cM] at h1;have h2:=MP p.ba (p.bp.getD 0 default);refine⟨?_,h1.symm⟩;simp only[Au,taken,szB];omega
def SS {p:A_} {t:ai} (h1:t.kind=2) (h2:t.name=⟨#[115,99,114,105,112,116]⟩) (h3:0<p.ba.bn.length) (h4:1<=las p.ba) (h5:las p.ba<p.ba.bj.length) (h6:(p.ba.bj.getD (las p.ba).toNat default).name=⟨#[115,99,114,105,112,116]⟩):isScri p t=true:=by
 unfold isScri;rw[cP h1,cP h2,cP ⟨h3,h4,h5⟩,cP h6];rfl
def UX {p:A_} {t:ai} (h:¬ t.kind=2\/¬ t.name=⟨#[115,99,114,105,112,116]⟩\/¬ (0<p.ba.bn.length/\1<=las p.ba/\las p.ba<p.ba.bj.length)\/¬ (p.ba.bj.getD (las p.ba).toNat default).name=⟨#[115,99,114,105,112,116]⟩):¬ isScri p t=true:=by
 unfold isScri;grind
def Zi {p:A_} {t:ai} (h1:t.kind=1) (h2:0<=(addT p.ba t).2):takeT p t=ele (taken p t) t (addT p.ba t).2:=by unfold takeT;rw[G_ ⟨h1,h2⟩]
def Zz {p:A_} {t:ai} (h1:t.kind=2) (h2:isScri p t=true):takeT p t=scri (taken p t) (las p.ba):=by unfold takeT;rw[F_ O,G_ h2]
def X1 {p:A_} {t:ai} (h1:¬ t.kind=1\/(addT p.ba t).2<0) (h2:¬ isScri p t=true):takeT p t=taken p t:=by unfold takeT;rw[F_ O,F_ h2]
def okTok (p:A_):Prop:=Au p<=1000000000000/\p.addr.host.size<=4000000000/\(∀ i,i<p.bp.length->szT (p.bp.getD i default)<=1000000000)/\U AS p.ba.bj<=1000000000/\p.ba.bn.length<=1000000000
abbrev Ca:Fct:=⟨[.v (.el .page)],[.el .page,.el .bool],λ(x:ae)=>okTok x.1,λ(x:ae)=>((takeToke x.1).1,(takeToke x.1).2,())⟩
def Anr:=ApI.a Ca<|Fct.o (KP [1,2,3,4,5,6,7,8] [24,38,64,95]) ApI.2 func112 (by
 rintro⟨(p:A_),_⟩ hp;refine ho (let gM:=(p.ba.bn.length:Int);let bD:=(p.ba.bj.length:Int);let fG:=bD-(1:Int);let gQ:=(0:Int)<=(-1:Int)/\(-1:Int)<bD;let ay:=(⟨#[115,99,114,105,112,116]⟩:ByteArray);let gR:=(p.ba.bj.getD 0 default).name.toList==ay.toList;let L_:=gM-(1:Int);let bX:=0<=p.ba.bn.getD (wr L_).toNat default/\p.ba.bn.getD (wr L_).toNat default<bD;let bP:=(p.ba.bj.getD (p.ba.bn.getD (wr L_).toNat default).toNat default).name.toList==ay.toList;.cl Be (p,()) λz2=>let gS:=(z2.1.bp.length:Int);let gN:Out:=.lf Ca (z2.1,false,());let aJ:=z2.1.bp.getD 0 default;let fH:=aJ.kind==2;let fI:=aJ.name.toList==ay.toList;let O_:=z2.1.bp.length-1;let aO:=1+O_<=z2.1.bp.length;.br ((p.bp.length:Int)==0) gN (.br (p.block != 0) gN (.br (p.inline != 0) gN (.ob ((0:Int)<=(0:Int)/\(0:Int)<gS)<|.ob (0<z2.1.bp.length)<|.ob ((0:Int)<=(1:Int)/\(1:Int)<=gS)<|.br (decide (gM>0)) (.ob (0<=wr L_/\wr L_<gM)<|.cl C3 (p.ba,z2.1.bp.getD 0 default,()) λ(z3:eZ)=>let aK:=({z2.1 with bp:=cut z2.1.bp 1 O_,ba:=z3.1}:A_);let aq:Out:=.ob aO<|.lf Ca ({z2.1 with bp:=cut z2.1.bp 1 O_,ba:=z3.1},true,());let H_:Out:=.br fH (.br fI (.cl Ap (p.ba.bn.getD (wr L_).toNat default,(1:Int),wr fG,()) λz7=>.br (z7.1) (.ob bX<|.br bP (.ob aO<|.ob (DO.pre (aK,p.ba.bn.getD (wr L_).toNat default,()))<|.lt _ (DO.fn (aK,p.ba.bn.getD (wr L_).toNat default,())) λz8=>.lf Ca (z8.1.1,true,())) aq) aq) aq) aq;.br (aJ.kind==1) (.br (decide (z3.2.1>=0)) (.ob aO<|.ob (Fj.pre (aK,z2.1.bp.getD 0 default,z3.2.1,()))<|.lt _ (Fj.fn (aK,z2.1.bp.getD 0 default,z3.2.1,())) λz4=>let eE:Out:=.lf Ca (z4.1.1,true,());.br fH (.br fI (.cl Ap (p.ba.bn.getD (wr L_).toNat default,(1:Int),wr fG,()) λz5=>.br (z5.1) (.ob bX<|.br bP (.ob (DO.pre (z4.1.1,p.ba.bn.getD (wr L_).toNat default,()))<|.lt _ (DO.fn (z4.1.1,p.ba.bn.getD (wr L_).toNat default,())) λz6=>.lf Ca (z6.1.1,true,())) eE) eE) eE) eE) H_) H_) (.cl C3 (p.ba,z2.1.bp.getD 0 default,()) λ(z11:eZ)=>let bQ:=({z2.1 with bp:=cut z2.1.bp 1 O_,ba:=z11.1}:A_);let Y_:Out:=.ob aO<|.lf Ca ({z2.1 with bp:=cut z2.1.bp 1 O_,ba:=z11.1},true,());let J_:Out:=.br fH (.br fI (.cl Ap ((-1:Int),(1:Int),wr fG,()) λz15=>.br (z15.1) (.ob gQ<|.br gR (.ob aO<|.ob (DO.pre (bQ,(-1:Int),()))<|.lt _ (DO.fn (bQ,(-1:Int),())) λz16=>.lf Ca (z16.1.1,true,())) Y_) Y_) Y_) Y_;.br (aJ.kind==1) (.br (decide (z11.2.1>=0)) (.ob aO<|.ob (Fj.pre (bQ,z2.1.bp.getD 0 default,z11.2.1,()))<|.lt _ (Fj.fn (bQ,z2.1.bp.getD 0 default,z11.2.1,())) λz12=>let dw:Out:=.lf Ca (z12.1.1,true,());.br fH (.br fI (.cl Ap ((-1:Int),(1:Int),wr fG,()) λz13=>.br (z13.1) (.ob gQ<|.br gR (.ob (DO.pre (z12.1.1,(-1:Int),()))<|.lt _ (DO.fn (z12.1.1,(-1:Int),())) λz14=>.lf Ca (z14.1.1,true,())) dw) dw) dw) dw) J_) J_))))) ?_;repeat' first|(guard_target =~ Out.holds _ _;first|refine Y ?_|refine Z (λ_=>?_) λ_=>?_|refine Ai ?_ λ_=>?_|refine Ad ?_ λ_=>?_|refine K6 ?_)|exact trivial
 all_goals have hpp:=H1 p<;>obtain⟨hp1,hp2,hp3,hp4,hp7⟩:=(show okTok p from hp)<;>(have hl1:=Ac AS p.ba.bj;have hl2:szB p.ba<=2000000000:=by(unfold szB;omega))<;>(try simp only[WJ] at *)<;>(try simp only[std,Nat.reduceAdd,inRange] at *)<;>(first|trivial|omega|(unfold takeToke;(first|rw[G_ (by exact .inl O)]|rw[G_ (by exact .inr (.inl ‹_›))]|rw[G_ (by exact .inr (.inr ‹_›))]);exact⟨rfl,rfl⟩)|skip)<;>(have htz:=Ww p O;have ht0:=hp3 0 O;have haz:=MP p.ba (p.bp.getD 0 default);try simp only[AE (show -9223372036854775808<=(p.ba.bn.length:Int)-1/\(p.ba.bn.length:Int)-1<=9223372036854775807 from O),AE (show -9223372036854775808<=(p.ba.bj.length:Int)-1/\(p.ba.bj.length:Int)-1<=9223372036854775807 from O),Nk,AeL] at *)<;>(first|trivial|omega|skip)<;>(try rw[show takeToke p=(takeT p (p.bp.getD 0 default),true) by(unfold takeToke;rw[F_ O])])<;>generalize p.bp.getD 0 default=t at *<;>(try simp only[show(taken p t).addr=p.addr from rfl,show(taken p t).ba=(addT p.ba t).1 from rfl] at *)<;>(first|trivial|omega|skip)<;>(try simp only[T_,fB,az,cw,and_true] at *)<;>(first|trivial|omega|skip)<;>(try have hnn:(addT p.ba t).1.bj=p.ba.bj:=haz.2.2 ‹_›;rw[hnn])<;>(first|trivial|omega|skip)<;>(first|rw[Zi ‹_› O]|rw[Zz ‹_› (SS ‹_› ‹_› O O O ‹_›)]|rw[X1 (by first|exact .inl ‹_›|exact .inr O) (UX (by first|exact .inl O|exact .inr (.inl ‹_›)|exact .inr (.inr (.inl O))|exact .inr (.inr (.inr ‹_›))))]))
def blk (p:A_):Int:=IntKind.i64.wrap (p.block-1)
def okParse (p:A_):Prop:=okTok p/\U AD p.bf<=40000000000/\okBod p
def stepI (p:A_):A_×Bool:=if sty p.bf=true then({ runC p (tex p.inline p.ba.bj ⟨#[]⟩) true with inline:=0 },true) else(p,false)
def stepB (p:A_):A_×Bool :=
 if ¬ (0<=blk p/\blk p<p.bf.length) then({ p with block:=0 },true)
 else if(p.bf.getD (blk p).toNat default).done=false\/sty p.bf=false then(p,false)
 else if(p.bf.getD (blk p).toNat default).code=1 then({ runC p (p.bf.getD (blk p).toNat default).body true with block:=0 },true)
 else({ p with block:=0 },true)
def stepP (p:A_):A_×Bool:=if p.inline≠0 then stepI p else if p.block≠0 then stepB p else takeToke p
def NU (n:Int):∀ (l:List cT) (s:ByteArray),(tex n l s).size<=s.size+U AS l
 | [],s=>bN _ _
 | x::l,s=>by
  rw[tex,Ah];split
  .have:=NU n l (s++x.text);rw[aQ] at this;simp only[AS];omega
  .have:=NU n l s;omega
def tf {b:Bool} (h:b=true) (h2:b=false):False:=by rw[h] at h2;cases h2
def Aau (p:A_):IntKind.i64.wrap (p.block-1)=blk p:=rfl
abbrev Dd:Fct:=⟨[.v (.el .page)],[.el .page,.el .bool],λ(x:ae)=>okParse x.1,λ(x:ae)=>((stepP x.1).1,(stepP x.1).2,())⟩
def Api:=Anr.a Dd<|Fct.o (KP [1,2,3,4,5,6,7] [10,13,27,37,53,64]) Anr.2 func63 (by
 rintro⟨(p:A_),_⟩ hp;refine ho (let Y_:=(p.bf.length:Int);let O_:=p.block-(1:Int);let L_:=p.bf.getD (wr O_).toNat default;let J_:Out:=.cl Be (p,()) λz3=>.lf Dd (z3.1,false,());let H_:=0<=wr O_/\wr O_<Y_;.br (p.inline != 0) (.cl Da (p,()) λz2=>.br (!z2.1) J_ (.cl VW (p.ba,p.inline,()) λz4=>.cl GA (p,z4.1,true,()) λz5=>.lf Dd ({z5.1 with inline:=(0:Int)},true,()))) (.br (p.block != 0) (.cl Ap (wr O_,(0:Int),wr (Y_-(1:Int)),()) λz6=>.br (!z6.1) (.cl Be (p,()) λz7=>.lf Dd ({z7.1 with block:=(0:Int)},true,())) (.ob H_<|.br (!L_.done) J_ (.cl Da (p,()) λz9=>.br (!z9.1) J_ (.cl Be (p,()) λz11=>.ob H_<|.br (L_.code==1) (.ob H_<|.cl GA (p,L_.body,true,()) λz12=>.lf Dd ({z12.1 with block:=(0:Int)},true,())) (.lf Dd ({z11.1 with block:=(0:Int)},true,())))))) (.cl Ca (p,()) λz13=>.lf Dd (z13.1,z13.2.1,())))) ?_;repeat' first|(guard_target =~ Out.holds _ _;first|refine Y ?_|refine Z (λ_=>?_) λ_=>?_|refine Ai ?_ λ_=>?_|refine Ad ?_ λ_=>?_)|exact trivial
 all_goals obtain⟨hp0,hp6,hp5⟩:=(show okParse p from hp)<;>obtain⟨hp1,hp2,hp3,hp4,hp7⟩:=(show okTok p from hp0)<;>(have hbb:szB p.ba<=2000000000:=by(unfold szB;omega))<;>(have hpp:=H1 p;have hsl:=Ac AD p.bf;have hnl:=Ac AS p.ba.bj;have htx:=NU p.inline p.ba.bj ⟨#[]⟩)<;>rw[show ByteArray.size ⟨#[]⟩=0 from rfl] at htx<;>(try simp only[std,Nat.reduceAdd,inRange,Aau] at *)<;>(try simp only[Aau,T_,fB,az,cw,AE (show -9223372036854775808<=(p.bf.length:Int)-1/\(p.bf.length:Int)-1<=9223372036854775807 from O)] at *)<;>(first|trivial|omega|exact hp0|exact⟨O,O,O,hp5 _ O,hp5⟩|exact⟨O,O,O,O,hp5⟩|skip)<;>unfold stepP<;>(first|rw[G_ ‹_›]|(rw[F_ O];first|rw[G_ ‹_›]|rw[F_ O]))<;>(first|exact⟨rfl,rfl⟩|(unfold stepI)|(unfold stepB))<;>(repeat first|rw[G_ ‹_›]|rw[F_ (by intro q;first|exact tf q ‹_›|exact tf ‹_› q)]|rw[G_ O]|rw[F_ O]|rw[G_ (by exact .inl ‹_›)]|rw[G_ (by exact .inr ‹_›)]|rw[F_ (by rintro(q|q)<;>exact tf ‹_› q)]|fail)<;>exact⟨rfl,rfl⟩)
def UC {b:UInt8} {s:ByteArray} (hl:idx b s<(I s).length):(I s)[idx b s]=b:=by
 have hg:=List.findIdx_getElem (xs:=I s) (p:=λx=>x==b) (w:=hl);exact da.1 hg
def WR {b:UInt8} {s:ByteArray} (h:idx b s<s.size):GZ b (I s)=some ((I s).take (idx b s),(I s).drop (idx b s+1)):=by
 have hl:idx b s<(I s).length:=h;refine Aes h ?_ ?_
 .have hd:=Kn h;rw[List.drop_eq_getElem_cons hl] at hd;injection hd with hd
  rw[<-hd];exact UC hl
 .intro hm;obtain⟨j,hj,he⟩:=List.mem_take_iff_getElem.1 hm;have:=List.not_of_lt_findIdx (xs:=I s) (p:=λx=>x==b) (i:=j) (show j<(I s).findIdx _ from fq hj (Nat.min_le_left _ _));simp_all
def Z7 {b:UInt8} {s:ByteArray} (h:¬ idx b s<s.size):GZ b (I s)=none:=by
 refine NF λhm=>h ?_
 unfold idx;rw[<-AU];simp_all
def Alo (s:ByteArray) (i:Nat):ofL ((I s).take i)=s.extract 0 i:=by
 rw[<-AM (s.extract 0 i),AI,fx]
def TH (s:ByteArray) (i:Nat):ofL ((I s).drop i)=s.extract i s.size:=by
 rw[<-AM (s.extract i s.size),AI,cC (by rw[AU];exact X_ _)]
def JF (b:UInt8) (s:ByteArray):K b s=if idx b s<s.size then s.extract 0 (idx b s)::K b (s.extract (idx b s+1) s.size) else[s]:=by
 rw[F8];split
 .rename_i hc;rw[F_];intro h;rw[WR h] at hc;cases hc
 .rename_i p q hc;by_cases h:idx b s<s.size
  .rw[G_ h];rw[WR h] at hc;obtain⟨rfl,rfl⟩:=Prod.mk.inj (Option.some.inj hc);rw[Alo,TH]
  .rw[Z7 h] at hc;cases hc
def gl59:List ByteArray->ByteArray
 | []=>⟨#[]⟩
 | [w]=>w
 | w::x::l=>w++⟨#[59]⟩++gl59 (x::l)
def AjA (w:ByteArray) {l:List ByteArray} (h:l≠[]):gl59 (w::l)=w++⟨#[59]⟩++gl59 l:=by
 cases l with
 | nil=>exact absurd rfl h
 | cons x l=>rfl
def AeX {b:UInt8} {s:ByteArray} (h:idx b s<s.size):s.extract 0 (idx b s)++⟨#[b]⟩++s.extract (idx b s+1) s.size=s:=by
 have hl:idx b s<(I s).length:=h;have e:I s=(I s).take (idx b s)++b::(I s).drop (idx b s+1):=by have e2:(I s)[idx b s]=b:=UC hl;have:=(dc (idx b s) (I s)).symm;rw[List.drop_eq_getElem_cons hl,e2] at this;exact this
 rw[<-Alo,<-TH];have e3:(⟨#[b]⟩:ByteArray)=ofL [b]:=rfl;rw[e3,<-Dh,<-Dh,bK,List.singleton_append,<-e,AM]
def Alr (b:UInt8) (s:ByteArray):K b s≠[]:=by
 intro h;have:=(Eg b s).1;simp_all
def Ahj:∀ (n:Nat) (s:ByteArray),s.size<=n->gl59 (K 59 s)=s
 | 0,s,hn=>by
  rw[JF,F_ O];rfl
 | n+1,s,hn=>by
  rw[JF];by_cases h:idx 59 s<s.size
  .rw[G_ h,AjA _ (Alr _ _),Ahj n _ (by rw[db];omega)];exact AeX h
  .rw[F_ h];rfl
def impW:ByteArray:=⟨#[105,109,112,111,114,116,32]⟩
def hasIm (w:ByteArray):Prop:=7<=w.size/\w.extract 0 7=impW
instance (w:ByteArray):Decidable (hasIm w):=by unfold hasIm;exact inferInstance
def pmGo (b:ByteArray):List ByteArray->List HO->List HO×List bU×Bool
 | [],acc=>(acc,[],true)
 | w::l,acc=>
  if hasIm w then(if(par (w.extract 7 w.size) b).2=true then pmGo b l (acc++[(par (w.extract 7 w.size) b).1]) else([],[],false))
  else if(parseS (gl59 (w::l))).2=true then(acc,(parseS (gl59 (w::l))).1,true) else([],[],false)
def parseM (s b:ByteArray):List HO×List bU×Bool:=pmGo b (K 59 s) []
def AjP:parseS ⟨#[]⟩=([],true):=rfl
def Ak0 (b:ByteArray) (acc:List HO):pmGo b (K 59 ⟨#[]⟩) acc=(acc,[],true):=by
 rfl
def AgL (s b:ByteArray):pmGo b (K 59 s) []=parseM s b:=rfl
def Aep {s:ByteArray} (h:hasIm s):7<=idx 59 s:=by
 obtain⟨h1,h2⟩:=h;have e:(I s).take 7=I impW:=by rw[<-h2,AI,fx]
 have hn:(59:UInt8)∉(I s).take 7:=by rw[e];decide
 rcases Nat.lt_or_ge (idx 59 s) 7 with h3|h3
 .exfalso;have h4:idx 59 s<s.size:=O
  have hl:idx 59 s<(I s).length:=h4;apply hn;rw[List.mem_take_iff_getElem];exact⟨idx 59 s,O,UC hl⟩
 .exact h3
def QB {s:ByteArray} (h:idx 59 s<s.size):hasIm (s.extract 0 (idx 59 s))↔hasIm s:=by
 have hx:7<=idx 59 s->(s.extract 0 (idx 59 s)).extract 0 7=s.extract 0 7:=λh7=>by apply ByteArray.ext;simp_all
 constructor
 .rintro⟨h1,h2⟩;rw[db] at h1;exact⟨O,by rw[<-h2,hx O]⟩
 .intro hs;have h7:=Aep hs;exact⟨by rw[db];omega,by rw[hx h7];exact hs.2⟩
def Abo {s:ByteArray} {k:Nat}:(s.extract 0 k).extract 7 (s.extract 0 k).size=s.extract 7 k:=by
 apply ByteArray.ext;apply Array.ext';have e1:=AI (s.extract 0 k) 7 (s.extract 0 k).size;have e2:=AI s 0 k;have e3:=AI s 7 k;rw[cC (by rw[AU];exact X_ _),e2,fx] at e1;exact e1.trans e3.symm
def Ais {b s:ByteArray} {acc:List HO} (h:hasIm s) (h2:(par (s.extract 7 (idx 59 s)) b).2=true):pmGo b (K 59 s) acc=pmGo b (K 59 (s.extract (min s.size (idx 59 s+1)) s.size)) (acc++[(par (s.extract 7 (idx 59 s)) b).1]):=by
 by_cases hk:idx 59 s<s.size
 .rw[JF,G_ hk,pmGo,G_ ((QB hk).2 h),Abo,G_ h2,Nat.min_eq_right O]
 .have e:idx 59 s=s.size:=by have:=JC 59 s;omega
  rw[JF,F_ hk,pmGo,G_ h];rw[e] at h2 ⊢;rw[G_ h2,Nat.min_eq_left O];have e0:s.extract s.size s.size=⟨#[]⟩:=by rw[<-TH,cx (by rw[AU];exact X_ _)];rfl
  rw[e0,Ak0];rfl
def AlG {b s:ByteArray} {acc:List HO} (h:hasIm s) (h2:(par (s.extract 7 (idx 59 s)) b).2=false):pmGo b (K 59 s) acc=([],[],false):=by
 by_cases hk:idx 59 s<s.size
 .rw[JF,G_ hk,pmGo,G_ ((QB hk).2 h),Abo,F_ (by rw[h2];decide)]
 .have e:idx 59 s=s.size:=by have:=JC 59 s;omega
  rw[JF,F_ hk,pmGo,G_ h];simp_all
def AkU {b s:ByteArray} {acc:List HO} (h:¬ hasIm s):pmGo b (K 59 s) acc=if(parseS s).2=true then(acc,(parseS s).1,true) else([],[],false):=by
 have hg:=Ahj s.size s (X_ _);rw[JF] at hg ⊢;by_cases hk:idx 59 s<s.size
 .rw[G_ hk] at hg ⊢;rw[pmGo,F_ λq=>h ((QB hk).1 q),hg]
 .rw[F_ hk] at hg ⊢;rw[pmGo,F_ h,hg]
abbrev Fl:Fct:=⟨[.v (.el .str),.v (.el .str)],[.sl .addr,.sl .line,.el .bool],λ(x:cU)=>x.1.size<=4000000000/\x.2.1.size<=4000000000,λ(x:cU)=>((parseM x.1 x.2.1).1,(parseM x.1 x.2.1).2.1,(parseM x.1 x.2.1).2.2,())⟩
abbrev Bi (s:ByteArray) (b:ByteArray):LInv:=⟨[⟨.s,7,true,.sl .addr⟩,⟨.s,8,false,.el .str⟩],λ_ (x:dP)=>x.2.1.size<=s.size/\x.1.length+x.2.1.size<=s.size/\pmGo b (K 59 x.2.1) x.1=parseM s b,λ(x:dP)=>x.2.1.size⟩
def An0:=Api.a Fl<|Fct.p (KP [0,1,4,5,6,7,8,9,10,11,12,13] [23,35,55]) (λ⟨s,b,_⟩=>lv [(3,Bi s b)]) Api.2 func159 (by
 rintro⟨(s:ByteArray),(b:ByteArray),_⟩ hp;refine ho (let L_:Out:=.lf Fl ([],[],false,());lpx (Bi s b) ([],(s,())) λ(y1:dP) bk1=>let J_:=(y1.2.1.size:Int);let H_:Out:=.cl De (y1.2.1,()) λz5=>.br (!z5.2.1) L_ (.lf Fl (y1.1,z5.1,true,()));.br (decide (J_>=7)) (.ob ((0:Int)<=(7:Int)/\(7:Int)<=J_)<|.br ((y1.2.1.extract 0 7).toList==(⟨#[105,109,112,111,114,116,32]⟩:ByteArray).toList) (.cl K8 (y1.2.1,(59:Int),()) λ(z2:D_)=>.ob ((0:Int)<=(7:Int)/\7<=z2.1/\z2.1<=J_)<|.cl BW (y1.2.1.extract 7 z2.1.toNat,b,()) λz3=>.br (!z3.2.1) L_ (.ap (y1.1.length+[z3.1].length) 32<|.cl AlB (J_,w1 z2.1,()) λ(z4:D_)=>.ob (0<=z4.1/\z4.1<=J_)<|.re (Value.string s)<|.re (Value.string b)<|.bk (bk1 (y1.1++[z3.1],(y1.2.1.extract z4.1.toNat y1.2.1.size,()))))) H_) H_) ?_;repeat' first|(guard_target =~ Out.holds _ _;first|refine Ay (li:=Bi s b) ?_ λ(y1:dP) i1=>?_|refine Y ?_|refine Z (λ_=>?_) λ_=>?_|refine Ai ?_ λ_=>?_|refine Ad ?_ λ_=>?_|refine AR ?_|refine Al ?_|refine FB ?_ λ_=>?_)|exact trivial
 all_goals (have hp1:s.size<=4000000000/\b.size<=4000000000:=hp;try simp only[std,Nat.reduceAdd,show UInt8.ofNat (Int.toNat 59)=59 from rfl] at *)<;>(first|omega|(simp only[AgL,X_,and_self];done)|(obtain⟨acc,x,u⟩:=y1;obtain⟨a1,a2,a3⟩:=i1;dsimp only at *;have k1:=JC 59 x))<;>(first|(have hi:hasIm x:=⟨O,‹_›⟩;have k2:=Aep hi)|(have hi:¬ hasIm x:=by rintro⟨q1,q2⟩;first|omega|exact absurd q2 ‹_›))<;>(have k3:∀ a b,(x.extract a b).size<=x.size:=λa b=>by rw[db];omega)<;>(have k4:=k3 7 (idx 59 x);have hw:IntKind.i64.wrap ((idx 59 x:Int)+1)=(idx 59 x:Int)+1:=AE (by constructor<;>omega);have hm:Int.toNat (min (x.size:Int) ((idx 59 x:Int)+1))=min x.size (idx 59 x+1):=O)<;>simp only[eo,hw,hm] at *<;>(first|omega|exact⟨O,Int.ofNat_le.2 k2,Int.ofNat_le.2 k1⟩|exact⟨O,O⟩|skip)<;>(first|(rw[<-a3,AlG hi ‹_›];exact⟨rfl,rfl,rfl⟩)|(rw[<-a3,AkU hi];(first|rw[G_ ‹_›]|rw[F_ (by rw[show(parseS x).2=false from ‹_›];decide)]);exact⟨rfl,by first|rfl|assumption,rfl⟩)|skip)<;>rw[Ais hi ‹_›] at a3<;>refine⟨⟨aP (k3 _ _) a1,?_,a3⟩,?_⟩<;>(rw[db];try simp only[al,aw,bz])<;>omega)
def isParsed (p:A_):Bool:=p.ended&&decide (p.bp.length=0/\p.block=0/\p.inline=0)
abbrev Hb:Fct:=⟨[.v (.el .page)],[.el .bool],λ(x:ae)=>True,λ(x:ae)=>(isParsed x.1,())⟩
def An4:=An0.a Hb<|Fct.o [1,2] An0.2 func113 (λ⟨(p:A_),_⟩ hp=>hg (.br (p.ended) (.br ((p.bp.length:Int)==0) (.br (p.block==0) (.lf Hb (p.inline==0,())) (.lf Hb (false,()))) (.lf Hb (false,()))) (.lf Hb (false,()))) (@isParsed.eq_1))
def defe (p:A_):List Int:=openI (λs=>decide (s.mode=4)) p.bf 0
abbrev GP:Fct:=⟨[.v (.el .page)],[.sl .int],λ(x:ae)=>x.1.bf.length<=1000000000000,λ(x:ae)=>(defe x.1,())⟩
abbrev BG (p:A_):LInv:=⟨[⟨.s,3,true,.sl .int⟩,⟨.s,4,true,.el .int⟩,⟨.b,1,false,.el .page⟩],λ(z x:bV)=>(0<=x.2.1/\x.2.1<=p.bf.length/\x.1.length<=x.2.1/\x.1++openI (λs=>decide (s.mode=4)) (p.bf.drop x.2.1.toNat) x.2.1=defe p)/\x.2.2.1=z.2.2.1,λ(x:bV)=>p.bf.length-x.2.1.toNat⟩
def AnG:=An4.a GP<|Fct.p (KP [1,2,3,4] [10,19]) (λ⟨p,_⟩=>lv [(3,BG p)]) An4.2 func114 (by
 rintro⟨(p:A_),_⟩ hp;refine ho (lpx (BG p) ([],((0:Int),(p,()))) λ(y1:bV) bk1=>.br (decide (y1.2.1<(y1.2.2.1.bf.length:Int))) (.ob (inB y1.2.1 y1.2.2.1.bf.length)<|.br ((y1.2.2.1.bf.getD y1.2.1.toNat default).mode==4) (.ap (y1.1.length+[y1.2.1].length) 8<|.bk (bk1 (y1.1++[y1.2.1],(w1 y1.2.1,(y1.2.2.1,()))))) (.bk (bk1 (y1.1,(w1 y1.2.1,(y1.2.2.1,())))))) (.lf GP (y1.1,()))) ?_;refine Ay ?_ λ(y1:bV) i1=>Z (λh2=>Ad ?_ λ_=>Z (λh4=>FB ?_ λ_=>AR ?_) λh4=>AR ?_) (λh2=>Y ?_)<;>(have h0:openI (λs:av=>decide (s.mode=4)) (p.bf.drop 0) 0=defe p:=rfl;try simp only[std,Nat.reduceAdd,aW,aN,al,aw,bz,bK] at *)<;>(try simp(disch:=omega) only[FS,C_] at *)<;>(try simp(disch:=omega) only[G_,F_])<;>(first|trivial|omega|grind[FS,C_,B_,K_,I_,maxLen,aW,aN,List.length_append,List.length_cons,List.length_nil,List.append_assoc]))
def form (a:HO):ByteArray:=if isName a.host&&isName a.path then a.host++⟨#[47]⟩++a.path else⟨#[]⟩
abbrev Hu:Fct:=⟨[.v (.el .addr)],[.el .str],λ(x:aj)=>szAddr x.1<=1000000000000,λ(x:aj)=>(form x.1,())⟩
def ApF:=AnG.a Hu<|Fct.o (KP [1,2] [5]) AnG.2 func158 (by
 rintro⟨(a:HO),_⟩ hp;refine ho (.cl DN (a,()) λz2=>.br (!z2.1) (.lf Hu ((⟨#[]⟩:ByteArray),())) (.ob (sameSize a.host (⟨#[47]⟩:ByteArray))<|.ob (sameSize (a.host++(⟨#[47]⟩:ByteArray)) a.path)<|.lf Hu (a.host++(⟨#[47]⟩:ByteArray)++a.path,()))) ?_;refine Ai ?_ λ_=>(Z (λh2=>Y ?_) λh2=>Ad ?_ λ_=>Ad ?_ λ_=>Y ?_)<;>(try simp only[std,Nat.reduceAdd,form,sameSize,aQ,szAddr] at *)<;>(try simp(disch:=omega) only[FS,C_] at *)<;>(try simp(disch:=omega) only[G_,F_])<;>(first|trivial|omega|grind[FS,C_,B_,K_,I_,maxLen,form,sameSize,ByteArray.size_append,szAddr]))
def say (p:A_) (s:ByteArray):A_:=if p.log.length<40 then{ p with log:=p.log++[s]} else p
abbrev Aew:GS:=⟨[.g (.el .page),.l (.v (.el .str))],[.el .page],λ(x:dI)=>True,λ(x:dI)=>((say x.1 x.2.1,()),(()))⟩
end Go.Proofs.YtfklkhgmgglloaaGreatDoor.fnRightUses
