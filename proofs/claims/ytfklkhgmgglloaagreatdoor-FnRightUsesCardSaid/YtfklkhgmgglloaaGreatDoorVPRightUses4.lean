/-
  Contracts of functions that the law of FnRightUses reaches, part 4.
-/
import Derived.Test.YtfklkhgmgglloaaGreatDoorVPRightUses3
namespace Go.Proofs.YtfklkhgmgglloaaGreatDoor.fnRightUses
open Go.Proofs.YtfklkhgmgglloaaGreatDoor
open Go.D Go.Proofs.Tryz
set_option maxRecDepth 100000
set_option maxHeartbeats 2000000
set_option linter.defProp false
set_option linter.unusedVariables false
set_option linter.unusedSimpArgs false
def ApM:=AnY.X BX<|Xct.o (KP [0,4,5,6,7,8,9,10] [18,35,70]) AnY.2 func46 (by
 rintro⟨(l:List V_),(a:HO),(x:M_),_⟩ hp;refine ho (let aJ:=(⟨a.host,[]⟩:V_);let ay:=List V_;let aq:=(⟨a.path,x⟩:aF);let L_:=(↑(List.length l):Int);let H_:Out:=.cl BJ (l,()) λz7=>.lx BX (z7.1,false,());.cl BJ (l,()) λz2=>let J_:=z2.1++[aJ];let Y_:=J_.getD L_.toNat default;.cl Fo (l,a.host,()) λ(z3:D_)=>let O_:=z2.1.getD z3.1.toNat default;.br (decide (z3.1<0)) (.ob (IM (z2.1.length+[aJ].length) 40)<|.ix L_ (J_.length)<|.cl GY (J_.getD L_.toNat default,a.path,()) λ(z4:D_)=>.br (decide (z4.1>=0)) (.ix L_ (J_.length)<|.ix z4.1 (Y_.files.length)<|.lt (List aF) (Y_.files.modify z4.1.toNat λz=>(⟨z.path,x⟩:aF)) λz5=>.lt ay (J_.modify L_.toNat λz=>(⟨z.host,z5⟩:V_)) λz6=>.br (decide ((z6.length:Int)>4)) H_ (.ix L_ z6.length<|.cl Bx (z6.getD L_.toNat default,()) λz8=>.br (!z8.1) H_ (.lx BX (z6,true,())))) (.ix L_ (J_.length)<|.ap (Y_.files.length+[aq].length) 80<|.ob ((0:Int)<=L_/\L_<(J_.length:Int))<|.re (L_.toNat)<|.lt ay (J_.modify L_.toNat λz=>(⟨z.host,Y_.files++[aq]⟩:V_)) λz10=>.br (decide ((z10.length:Int)>4)) H_ (.ix L_ z10.length<|.cl Bx (z10.getD L_.toNat default,()) λz12=>.br (!z12.1) H_ (.lx BX (z10,true,()))))) (.ix z3.1 z2.1.length<|.cl GY (z2.1.getD z3.1.toNat default,a.path,()) λ(z14:D_)=>.br (decide (z14.1>=0)) (.ix z3.1 z2.1.length<|.ix z14.1 (O_.files.length)<|.lt (List aF) (O_.files.modify z14.1.toNat λz=>(⟨z.path,x⟩:aF)) λz15=>.lt ay (z2.1.modify z3.1.toNat λz=>(⟨z.host,z15⟩:V_)) λz16=>.br (decide ((z16.length:Int)>4)) H_ (.ix z3.1 z16.length<|.cl Bx (z16.getD z3.1.toNat default,()) λz18=>.br (!z18.1) H_ (.lx BX (z16,true,())))) (.ix z3.1 z2.1.length<|.ap (O_.files.length+[aq].length) 80<|.ob (inB z3.1 z2.1.length)<|.re (z3.1.toNat)<|.lt ay (z2.1.modify z3.1.toNat λz=>(⟨z.host,O_.files++[aq]⟩:V_)) λz20=>.br (decide ((z20.length:Int)>4)) H_ (.ix z3.1 z20.length<|.cl Bx (z20.getD z3.1.toNat default,()) λz22=>.br (!z22.1) H_ (.lx BX (z20,true,())))))) ?_;refine Cs ?_ λo1 z2 ez2=>(Cs ?_ λo2 z3 ez3=>Z (λh3=>Ad ?_ λ_=>Ey ?_ λo5 o6=>Cs ?_ λo7 z4 ez4=>Z (λh8=>Ey ?_ λo9 o10=>Ey ?_ λo11 o12=>TF λz5 ez5=>TF λz6 ez6=>Z (λh13=>Cs ?_ λo14 z7 ez7=>lxY ?_) λh13=>Ey ?_ λo15 o16=>Cs ?_ λo17 z8 ez8=>Z (λh18=>Cs ?_ λo19 z9 ez9=>lxY ?_) λh18=>lxY ?_) λh8=>Ey ?_ λo20 o21=>FB ?_ λ_=>Ad ?_ λ_=>Al<|TF λz10 ez10=>Z (λh24=>Cs ?_ λo25 z11 ez11=>lxY ?_) λh24=>Ey ?_ λo26 o27=>Cs ?_ λo28 z12 ez12=>Z (λh29=>Cs ?_ λo30 z13 ez13=>lxY ?_) λh29=>lxY ?_) λh3=>Ey ?_ λo31 o32=>Cs ?_ λo33 z14 ez14=>Z (λh34=>Ey ?_ λo35 o36=>Ey ?_ λo37 o38=>TF λz15 ez15=>TF λz16 ez16=>Z (λh39=>Cs ?_ λo40 z17 ez17=>lxY ?_) λh39=>Ey ?_ λo41 o42=>Cs ?_ λo43 z18 ez18=>Z (λh44=>Cs ?_ λo45 z19 ez19=>lxY ?_) λh44=>lxY ?_) λh34=>Ey ?_ λo46 o47=>FB ?_ λ_=>Ad ?_ λ_=>Al<|TF λz20 ez20=>Z (λh50=>Cs ?_ λo51 z21 ez21=>lxY ?_) λh50=>Ey ?_ λo52 o53=>Cs ?_ λo54 z22 ez22=>Z (λh55=>Cs ?_ λo56 z23 ez23=>lxY ?_) λh55=>lxY ?_)<;>(try subst_vars)<;>(have hs:=UJ a.host l;have ha:szAddr a=a.host.size+a.path.size:=rfl;have hl:=Ac Af l;have hx:=BU (λs:V_=>decide (s.host=a.host)) l 0 (Int.le_refl _);have hy:=BU (λf:aF=>decide (f.path=a.path)) ((l++[({ host:=a.host,files:=[]}:V_)]).getD ((l.length:Int)).toNat default).files 0 (Int.le_refl _);have hz:=BU (λf:aF=>decide (f.path=a.path)) (l.getD (fidx (λs:V_=>decide (s.host=a.host)) l 0).toNat default).files 0 (Int.le_refl _);have hf:=ID (l++[({ host:=a.host,files:=[]}:V_)]) ((l.length:Int)).toNat;have hv:=ID l (fidx (λs:V_=>decide (s.host=a.host)) l 0).toNat;try simp only[std,Nat.reduceAdd] at *)<;>(try refine⟨?_,?_,λe=>?_,λhF=>?_⟩)<;>(first|omega|exact X_ _|(simp only[al,List.length_modify,aw,bz];omega)|exact aP (QM _ _ _ _) O|exact aP (MC _ _ _ _) O|exact aP (Sx _ _) (aP (QM _ _ _ _) O)|exact aP (Sx _ _) (aP (MC _ _ _ _) O)|skip)<;>(first|exact hF|exact Qg (Abu hF _) ‹_›|exact Qg hF ‹_›|skip)<;>(try rcases Nat.eq_zero_or_pos l.length with q|q;(obtain rfl:=List.length_eq_zero_iff.1 q);skip)<;>(first|exact q|omega|(exfalso;simp[fidx] at h8;done)|(exfalso;simp at h24;done)|skip)<;>obtain⟨e1,e2,e3⟩:=e<;>(first|(exfalso;simp[isSe,srvOk,e1,e2,e3] at *;done)|skip))
abbrev He:Xct:=⟨[.u],[.sl .server],λ(x:S_)=>True,λ(x:S_) (y:bG)=>U Af y.1<=100000/\0<y.1.length/\okF y.1⟩
abbrev Cq (c:Unit):LInv:=⟨[⟨.s,3,true,.sl .server⟩,⟨.s,12,true,.el .int⟩,⟨.s,10,true,.sl .str⟩],λ_ (x:bY)=>0<=x.2.1/\x.2.1<=3/\U Af x.1<=30000*x.2.1.toNat/\x.2.2.1.length=3/\x.2.2.1.all (λs=>decide (s.size<=30))=true/\okF x.1,λ(x:bY)=>3-x.2.1.toNat⟩
abbrev Co (c:Unit):LInv:=⟨[⟨.s,3,true,.sl .server⟩,⟨.s,18,true,.el .int⟩,⟨.s,16,true,.sl .str⟩,⟨.s,10,true,.sl .str⟩],λ(z x:bZ)=>0<=x.2.1/\x.2.1<=3/\U Af x.1<=U Af z.1+4000*x.2.1.toNat/\x.2.2.1.length=3/\x.2.2.1.all (λs=>decide (s.size<=30))=true/\x.2.2.2.1=z.2.2.2.1/\okF x.1,λ(x:bZ)=>3-x.2.1.toNat⟩
def Ao4:=ApM.X He<|Xct.p (KP [0,2,3,5,7,8,10,11,12,16,17,18] [13,19,27,30,45,57]) (λ⟨c,_⟩=>λ|3=>some (Cq c)|6=>some (Co c)|_=>none) ApM.2 func40 (by
 rintro⟨(c:PUnit),_⟩ hp;refine ho (let bD:=(⟨#[97,112,112]⟩:ByteArray);let ay:=(⟨#[104,111,109,101]⟩:ByteArray);let J_:=Value.int IntKind.i64 (3:Int);lpx (Cq c) ([],((0:Int),([ay,(⟨#[99,100,110]⟩:ByteArray),(⟨#[101,118,105,108]⟩:ByteArray)],()))) λ(y1:bY) bk1=>let aJ:=Value.int IntKind.i64 y1.2.1;let Y_:=(⟨y1.2.2.1.getD y1.2.1.toNat default,(⟨#[108,111,103,111]⟩:ByteArray)⟩:HO);let O_:=Value.string (y1.2.2.1.getD y1.2.1.toNat default);.br (decide (y1.2.1<3)) (.ix y1.2.1 y1.2.2.1.length<|lpx (Co c) (y1.1,((0:Int),([bD,(⟨#[108,105,98]⟩:ByteArray),(⟨#[117,116,105,108]⟩:ByteArray)],(y1.2.2.1,())))) λ(y5:bZ) bk5=>let aq:=(⟨y1.2.2.1.getD y1.2.1.toNat default,y5.2.2.1.getD y5.2.1.toNat default⟩:HO);let L_:Out:=.re aJ<|.re J_<|.re O_<|.re J_<|.bk (bk5 (y5.1,(w1 y5.2.1,(y5.2.2.1,(y5.2.2.2.1,())))));let H_:Out:=.dr Gi ((),(6:Int),()) λ(y20:W_)=>.br (!y20.1) (.dr B9 ((),(2:Int),()) λ(y23:ar)=>.dr BX (y5.1,aq,y23.1,()) λ(y25:U_)=>.re aJ<|.re J_<|.re O_<|.re J_<|.bk (bk5 (y25.1,(w1 y5.2.1,(y5.2.2.1,(y5.2.2.2.1,())))))) L_;.br (decide (y5.2.1<3)) (.ix y5.2.1 y5.2.2.1.length<|.br (!(y5.2.2.1.getD y5.2.1.toNat default).toList==bD.toList) (.dr Gi ((),(2:Int),()) λ(y10:W_)=>.br (y10.1) (.dr Gi ((),(6:Int),()) λ(y12:W_)=>.br (!y12.1) (.dr B9 ((),(5:Int),()) λ(y15:ar)=>.dr BX (y5.1,aq,y15.1,()) λ(y17:U_)=>.re aJ<|.re J_<|.re O_<|.re J_<|.bk (bk5 (y17.1,(w1 y5.2.1,(y5.2.2.1,(y5.2.2.2.1,())))))) L_) H_) H_) (.dr Gi ((),(4:Int),()) λ(y36:W_)=>.br (!y36.1) (.dr B9 ((),(3:Int),()) λ(y39:ar)=>.dr BX (y5.1,(⟨y1.2.2.1.getD y1.2.1.toNat default,(⟨#[115,116,121,108,101]⟩:ByteArray)⟩:HO),y39.1,()) λ(y41:U_)=>.dr Gi ((),(4:Int),()) λ(y42:W_)=>.br (!y42.1) (.dr B9 ((),(4:Int),()) λ(y45:ar)=>.dr BX (y41.1,Y_,y45.1,()) λ(y47:U_)=>.re J_<|.bk (bk1 (y47.1,(w1 y1.2.1,(y5.2.2.2.1,()))))) (.re J_<|.bk (bk1 (y41.1,(w1 y1.2.1,(y5.2.2.2.1,())))))) (.dr Gi ((),(4:Int),()) λ(y50:W_)=>.br (!y50.1) (.dr B9 ((),(4:Int),()) λ(y53:ar)=>.dr BX (y5.1,Y_,y53.1,()) λ(y55:U_)=>.re J_<|.bk (bk1 (y55.1,(w1 y1.2.1,(y5.2.2.2.1,()))))) (.re J_<|.bk (bk1 (y5.1,(w1 y1.2.1,(y5.2.2.2.1,())))))))) (.dr B9 ((),(1:Int),()) λ(y59:ar)=>.dr BX (y1.1,(⟨ay,(⟨#[105,110,100,101,120]⟩:ByteArray)⟩:HO),y59.1,()) λ(y61:U_)=>.dr B9 ((),(1:Int),()) λ(y63:ar)=>.dr BX (y61.1,(⟨ay,(⟨#[110,101,120,116]⟩:ByteArray)⟩:HO),y63.1,()) λ(y65:U_)=>.lx He (y65.1,()))) ?_;refine Ay ?_ λ(y1:bY) i1=>Z (λh2=>Ey ?_ λo3 o4=>Ay ?_ λ(y5:bZ) i5=>Z (λh6=>Ey ?_ λo7 o8=>Z (λh9=>Bk trivial λ(y10:W_) i10=>Z (λh11=>Bk trivial λ(y12:W_) i12=>Z (λh13=>BV ?_ λo14 (y15:ar) i15=>BV ?_ λo16 (y17:U_) i17=>Al<|Al<|Al<|Al<|AR ?_) λh13=>Al<|Al<|Al<|Al<|AR ?_) λh11=>Bk trivial λ(y20:W_) i20=>Z (λh21=>BV ?_ λo22 (y23:ar) i23=>BV ?_ λo24 (y25:U_) i25=>Al<|Al<|Al<|Al<|AR ?_) λh21=>Al<|Al<|Al<|Al<|AR ?_) λh9=>Bk trivial λ(y28:W_) i28=>Z (λh29=>BV ?_ λo30 (y31:ar) i31=>BV ?_ λo32 (y33:U_) i33=>Al<|Al<|Al<|Al<|AR ?_) λh29=>Al<|Al<|Al<|Al<|AR ?_) λh6=>Bk trivial λ(y36:W_) i36=>Z (λh37=>BV ?_ λo38 (y39:ar) i39=>BV ?_ λo40 (y41:U_) i41=>Bk trivial λ(y42:W_) i42=>Z (λh43=>BV ?_ λo44 (y45:ar) i45=>BV ?_ λo46 (y47:U_) i47=>Al<|AR ?_) λh43=>Al<|AR ?_) λh37=>Bk trivial λ(y50:W_) i50=>Z (λh51=>BV ?_ λo52 (y53:ar) i53=>BV ?_ λo54 (y55:U_) i55=>Al<|AR ?_) λh51=>Al<|AR ?_) (λh2=>BV ?_ λo58 (y59:ar) i59=>BV ?_ λo60 (y61:U_) i61=>BV ?_ λo62 (y63:ar) i63=>BV ?_ λo64 (y65:U_) i65=>lxY ?_)<;>(try simp only[std,Nat.reduceAdd] at *)<;>(have hr:∀ (l:List ByteArray) (i:Nat),(l.all λs=>decide (s.size<=30))=true->i<l.length->(l.getD i default).size<=30:=λl i h hi=>by have:=aM.1 h _ (Ae hi);simpa using this)<;>(have s1:(⟨#[115,116,121,108,101]⟩:ByteArray).size=5:=rfl;have s2:(⟨#[108,111,103,111]⟩:ByteArray).size=4:=rfl;have s3:(⟨#[104,111,109,101]⟩:ByteArray).size=4:=rfl;have s4:(⟨#[105,110,100,101,120]⟩:ByteArray).size=5:=rfl;have s5:(⟨#[110,101,120,116]⟩:ByteArray).size=4:=rfl)<;>(try obtain⟨a1,a2,a3,a4,a5,a6⟩:=i1)<;>(try obtain⟨b1,b2,b3,b4,b5,b6,b7⟩:=i5)<;>have f0:okF []:=λv hv=>nomatch hv<;>(try have f17:=i17.2.2.2 b7)<;>(try have f25:=i25.2.2.2 b7)<;>(try have f33:=i33.2.2.2 b7)<;>(try have f41:=i41.2.2.2 b7)<;>(try have f55:=i55.2.2.2 b7)<;>(try have f47:=i47.2.2.2 f41)<;>(try have f65:=i65.2.2.2 (i61.2.2.2 a6))<;>(first|omega|exact⟨O,O,by simp[U],by decide,f0⟩|exact⟨O,O,O,by decide,a6⟩|exact⟨O,O⟩|skip)<;>(try have c1:=hr y1.2.2.1 y1.2.1.toNat a5 O)<;>(try have c2:=hr y5.2.2.1 y5.2.1.toNat b5 O)<;>(try rw[FS O O])<;>(try rw[b6])<;>(try simp only[szAddr,Ab] at *)<;>(first|omega|exact⟨O,O,O⟩|exact⟨⟨O,O,O,b4,b5,rfl,‹_›⟩,O⟩|exact⟨⟨O,O,O,b4,b5,trivial,‹_›⟩,O⟩|exact⟨⟨O,O,O,b4,b5,b6,‹_›⟩,O⟩|exact⟨⟨O,O,O,a4,a5,‹_›⟩,O⟩|exact⟨O,fq (i61.2.2.1 ⟨by decide,by decide,i59.1⟩) i65.2.1,f65⟩|skip))
def okN (n:P_):Prop:=U Af n.servers<=120000/\szCache n.cache<=110000/\U Fw n.log<=300*n.log.length/\n.log.length<=400
def WL {n:P_} (h:okN n):szNet n<=350000:=by
 obtain⟨h1,h2,h3,h4⟩:=h;simp only[szNet];omega
def TM {n:P_} (h:okN n) {t:ByteArray} {a:HO} (g:Bool) (ht:t.size<=150) (ha:szAddr a<=60):okN (fetchNo n t a g).1:=by
 obtain⟨h1,h2,h3,h4⟩:=h;have hk:∀ (m:P_) (x:M_),okN m->okN (keepA m t a x):=λm x hm=>by
  unfold keepA;split
  .exact⟨hm.1,KB _ _ _ _ _ hm.2.1 O,hm.2.2.1,hm.2.2.2⟩
  .exact hm
 have hl:okN (logS n t a g):=by
  unfold logS;split
  .refine⟨h1,h2,?_,?_⟩
   .show U Fw (n.log++[(⟨t,a,g⟩:dA)])<=300*(n.log++[(⟨t,a,g⟩:dA)]).length;rw[Dj,al,aw,bz];simp only[Fw];omega
   .show(n.log++[(⟨t,a,g⟩:dA)]).length<=400;rw[al,aw,bz];omega
  .exact⟨h1,h2,h3,h4⟩
 unfold fetchNo;split
 .exact⟨h1,h2,h3,h4⟩
 .split
  .exact⟨h1,h2,h3,h4⟩
  .dsimp only;split
   .exact hl
   .exact hk _ _ hl
def Ahm {l:List ao} (h:l.length<=3) (a:HO) (x:M_) (g:Bool):(ope l a x g).1.length<=3:=by
 unfold ope;split
 .exact h
 .rw[al,aw,bz];omega
def AmU {l:N_} (h:l.conns.length<=3):(requ l).1.conns.length<=3:=by
 unfold requ;split
 .exact h
 .split
  .exact h
  .split
   .exact h
   .exact Ahm h ..
def Ahr {l:N_} (h:l.conns.length<=3):∀ m,(nex l m).1.conns.length<=3
 | []=>h
 | a::m=>by
  rw[nex];split
  .exact Ahr h m
  .exact Ahm h ..
def AiF {l:N_} (h:l.conns.length<=3):(guessN l).1.conns.length<=3:=by
 unfold guessN;split
 .exact h
 .exact Ahr h _
def AmS {l:N_} (h:l.conns.length<=3):(arri l).1.conns.length<=3:=by
 unfold arri;split
 .exact h
 .exact h
def AmL {l:N_} (h:l.conns.length<=3) (k:Int):(fini l k).conns.length<=3:=by
 have:=Qr l.conns k;unfold fini finis;dsimp only;split
 .split<;>(dsimp only;omega)
 .split<;>(dsimp only;omega)
def AhN:∀ (n:Nat) {l:N_},l.conns.length<=3->(xfer n l).conns.length<=3
 | 0,l,h=>h
 | n+1,l,h=>by
  rw[xfer];split
  .exact h
  .exact AhN n (AmL h _)
def AjF {l:N_} (h:l.conns.length<=3) (b:Int):(tra l b).1.conns.length<=3:=by
 unfold tra;split
 .exact h
 .exact AhN _ (by unfold moved;dsimp only;rw[Dm];exact h)
def okX (G:Nat) (l:N_):Prop:=okW G l/\l.conns.length<=3
def wX {G:Nat} {l m:N_} (h:okX (G+1) l) (h1:okL G m) (h2:wS m<=wS l+5100000) (h3:m.conns.length<=3):okX G m:=⟨⟨h1,by have:=h.1.2;omega⟩,h3⟩
def AmM {G:Nat} {l:N_} (h:okX (G+1) l):okX G (arri l).1:=wX h (Qu h.1.1) (Xq (n:=0) h.1.1) (AmS h.2)
def Amo {G:Nat} {l:N_} (h:okX (G+1) l):okX G (requ l).1:=wX h (Sa h.1.1) (Xq (n:=1) h.1.1) (AmU h.2)
def AmW {G:Nat} {l:N_} (h:okX (G+1) l):okX G (guessN l).1:=wX h (AbJ h.1.1) (Xq (n:=2) h.1.1) (AiF h.2)
def Am7 {G:Nat} {l:N_} (h:okX (G+1) l) (b:Int):okX G (tra l b).1:=wX h (KQ (Gu h.1.1) b) (aP (JP l b) (bN _ _)) (AjF h.2 b)
def Anc {G H:Nat} {l:N_} (h:okX H l) (hle:G<=H):okX G l:=⟨O3 h.1 hle,h.2⟩
def Amy {G:Nat} {l:N_} (h:okX G l):okAct l:=M7 h.1.1
def Akn {n:P_} {a:HO} (cs:List Int) (h:okN n) (ha:szAddr a<=1000):okX 1200 (startL n a cs).1:=⟨PP cs (by have:=WL h;omega) O,by unfold startL;split<;>exact Nat.zero_le _⟩
abbrev S4:Xct:=⟨[.u],[.sl .server],λ(x:S_)=>True,λ(x:S_) (y:bG)=>U Af y.1<=120000⟩
def AnC:=Ao4.X S4<|Xct.o (KP [0,2,3,7] [8,17]) Ao4.2 func226 (by
 rintro⟨(c:PUnit),_⟩ hp;refine ho (.dr He ((),()) λ(y1:bG)=>.dr A7 ((),(12:Int),()) λ(y2:D_)=>.br (y2.1==0) (.dr L7 ((),[(⟨#[104,111,109,101]⟩:ByteArray),(⟨#[]⟩:ByteArray),(⟨#[109,111,114,101]⟩:ByteArray)],()) λ(y5:E_)=>.ob (IM (y1.1.length+[(⟨y5.1,[]⟩:V_)].length) 40)<|.lx S4 (y1.1++[(⟨y5.1,[]⟩:V_)],())) (.br (y2.1==1) (.ob ((0:Int)<=(0:Int)/\(0:Int)<(y1.1.length:Int))<|.ob (0<y1.1.length)<|.dr L7 ((),[(⟨#[97,112,112]⟩:ByteArray),(⟨#[]⟩:ByteArray),(⟨#[122,122,122]⟩:ByteArray)],()) λ(y11:E_)=>.dr Kg ((),()) λ(y12:ar)=>.ap ((y1.1.getD 0 default).files.length+[(⟨y11.1,y12.1⟩:aF)].length) 80<|.ob ((0:Int)<=(0:Int)/\(0:Int)<(y1.1.length:Int))<|.re (0)<|.lt (List V_) (y1.1.modify 0 λz=>(⟨z.host,(y1.1.getD 0 default).files++[(⟨y11.1,y12.1⟩:aF)]⟩:V_)) λz2=>.lx S4 (z2,())) (.lx S4 (y1.1,())))) ?_;refine Bk trivial λ(y1:bG) i1=>Bk trivial λ(y2:D_) i2=>Z (λh3=>BV ?_ λo4 (y5:E_) i5=>Ad ?_ λ_=>lxY ?_) (λh3=>Z (λh7=>Ad ?_ λ_=>Ad ?_ λ_=>BV ?_ λo10 (y11:E_) i11=>Bk trivial λ(y12:ar) i12=>FB ?_ λ_=>Ad ?_ λ_=>Al<|TF λz2 ez2=>lxY ?_) λh7=>lxY ?_)<;>(try subst_vars)<;>(try simp only[std,Nat.reduceAdd] at *)<;>(first|omega|(refine⟨?_,?_,?_⟩<;>decide)|skip)<;>(have hl:=Ac Af y1.1;have hf:=ID y1.1 0)<;>(first|omega|(rw[UJ];omega)|(refine aP (MC _ _ _ _) ?_;simp only[Ab];omega)|skip))
abbrev Rb:Xct:=⟨[.u],[.el .cache],λ(x:S_)=>True,λ(x:S_) (y:cA)=>szCache y.1<=80000⟩
abbrev Dn (c:Unit):LInv:=⟨[⟨.b,3,true,.el .cache⟩,⟨.s,4,true,.el .int⟩,⟨.b,2,true,.el .cache⟩],λ(z x:cp)=>(0<=x.2.1/\x.2.1<=5/\szCache x.1<=80000)/\x.2.2.1=z.2.2.1,λ(x:cp)=>x.2.1.toNat⟩
def Ann:=AnC.X Rb<|Xct.p (KP [0,2,3,4,5,6] [11]) (λ⟨c,_⟩=>lv [(3,Dn c)]) AnC.2 func261 (by
 rintro⟨(c:PUnit),_⟩ hp;refine ho (.dr A7 ((),(6:Int),()) λ(y1:D_)=>lpx (Dn c) (default,(y1.1,(default,()))) λ(y2:cp) bk2=>.br (decide (y2.2.1>0)) (.dr Uy ((),()) λ(y4:E_)=>.dr PY ((),()) λ(y5:aj)=>.dr A7 ((),(5:Int),()) λ(y6:D_)=>.dr B9 ((),wr ((1:Int)+y6.1),()) λ(y8:ar)=>.dr A7 ((),(9:Int),()) λ(y9:D_)=>.cl BA (y2.1,y4.1,y5.1,y8.1,y9.1,()) λz2=>.bk (bk2 (z2.1,(wr (y2.2.1-(1:Int)),(y2.2.2.1,()))))) (.lx Rb (y2.1,()))) ?_;refine Bk trivial λ(y1:D_) i1=>Ay ?_ λ(y2:cp) i2=>Z (λh3=>Bk trivial λ(y4:E_) i4=>Bk trivial λ(y5:aj) i5=>Bk trivial λ(y6:D_) i6=>BV ?_ λo7 (y8:ar) i8=>Bk trivial λ(y9:D_) i9=>Cs ?_ λo10 z2 ez2=>AR ?_) (λh3=>lxY ?_)<;>(try subst_vars)<;>(try simp only[std,Nat.reduceAdd] at *)<;>(try simp(disch:=omega) only[FS] at *)<;>(first|omega|exact⟨O,O,by decide⟩|exact⟨⟨O,O,KB _ _ _ _ _ O O⟩,O⟩|exact⟨⟨⟨O,O,KB _ _ _ _ _ O O⟩,i2.2⟩,O⟩|(simp only[szAddr,Ab];exact⟨O,O,O,O⟩)|skip))
abbrev Sd:Xct:=⟨[.u],[.el .cache],λ(x:S_)=>True,λ(x:S_) (y:cA)=>szCache y.1<=110000⟩
abbrev EH (c:Unit):LInv:=⟨[⟨.b,3,true,.el .cache⟩,⟨.s,4,true,.el .int⟩,⟨.b,2,true,.el .cache⟩],λ(z x:cp)=>(0<=x.2.1/\x.2.1<=101/\szCache x.1<=80000+20*x.2.1.toNat)/\x.2.2.1=z.2.2.1,λ(x:cp)=>101-x.2.1.toNat⟩
def ApN:=Ann.X Sd<|Xct.p (KP [0,2,3,4,8] [9,24,27]) (λ⟨c,_⟩=>lv [(7,EH c)]) Ann.2 func227 (by
 rintro⟨(c:PUnit),_⟩ hp;refine ho (let aJ:=(20:Int)≠(0:Int);let ay:=(⟨#[99,100,110]⟩:ByteArray);let Y_:=(⟨#[]⟩:ByteArray);let J_:=(⟨#[104,111,109,101]⟩:ByteArray);let H_:=(⟨(200:Int),(2:Int),Y_,(0:Int),false,Y_⟩:M_);.dr Rb ((),()) λ(y1:cA)=>.dr A7 ((),(12:Int),()) λ(y2:D_)=>.br (y2.1==0) (.dr L7 ((),[J_,Y_],()) λ(y5:E_)=>.dr YO ((),()) λ(y6:aj)=>.dr Kg ((),()) λ(y7:ar)=>let O_:=(⟨y5.1,y6.1,y7.1,(0:Int)⟩:bJ);.ap (y1.1.bh.length+[O_].length) 120<|.lx Sd (⟨y1.1.bh++[O_]⟩,())) (.br (y2.1==1) (lpx (EH c) (y1.1,((0:Int),(default,()))) λ(y10:cp) bk10=>let aq:=wr ((97:Int)+y10.2.1.tmod (20:Int));let L_:=wr ((97:Int)+wr (y10.2.1.tdiv (20:Int)));.br (decide (y10.2.1<101)) (.ob aJ<|.ob aJ<|.ob (True)<|.ap (y10.1.bh.length+[(⟨J_,(⟨ay,List.foldl (λr n=>r.push (UInt8.ofNat n.toNat)) ByteArray.empty [IntKind.u8.wrap aq,IntKind.u8.wrap L_]⟩:HO),H_,(0:Int)⟩:bJ)].length) 120<|.re (Value.int IntKind.i64 y2.1)<|.bk (bk10 ((⟨y10.1.bh++[(⟨J_,(⟨ay,List.foldl (λr n=>r.push (UInt8.ofNat n.toNat)) ByteArray.empty [IntKind.u8.wrap aq,IntKind.u8.wrap L_]⟩:HO),H_,(0:Int)⟩:bJ)]⟩:aZ),(w1 y10.2.1,(y10.2.2.1,()))))) (.lx Sd (y10.1,()))) (.lx Sd (y1.1,())))) ?_;refine Bk trivial λ(y1:cA) i1=>Bk trivial λ(y2:D_) i2=>Z (λh3=>BV ?_ λo4 (y5:E_) i5=>Bk trivial λ(y6:aj) i6=>Bk trivial λ(y7:ar) i7=>FB ?_ λ_=>lxY ?_) (λh3=>Z (λh9=>Ay ?_ λ(y10:cp) i10=>Z (λh11=>Ad ?_ λ_=>Ad ?_ λ_=>Ad trivial λ_=>FB ?_ λ_=>Al<|AR ?_) λh11=>lxY ?_) λh9=>lxY ?_)<;>(try simp only[std,Nat.reduceAdd] at *)<;>(first|omega|(refine⟨?_,?_,?_⟩<;>decide)|skip)<;>have hl:∀ x:aZ,x.bh.length<=szCache x:=λx=>Ac AK x.bh<;>(have h1:=hl y1.1;try have h2:=hl y10.1)<;>have hc:∀ (x:aZ) (e:bJ),szCache { bh:=x.bh++[e]}=szCache x+AK e+1:=λx e=>Dj _ _ _<;>(try rw[hc])<;>(try simp only[AK,szAddr,Ab] at *)<;>have h5:∀ a b:Int,(List.foldl (λr n=>r.push (UInt8.ofNat n.toNat)) ByteArray.empty [a,b]).size=2:=λ_ _=>rfl<;>(try rw[FS (n:=y10.2.1+1) O O])<;>(try rw[h5])<;>(try simp only[show ByteArray.size ⟨#[104,111,109,101]⟩=4 from rfl,show ByteArray.size ⟨#[99,100,110]⟩=3 from rfl,show ByteArray.size ⟨#[]⟩=0 from rfl])<;>(first|omega|exact⟨⟨⟨O,O,O⟩,i10.2⟩,O⟩|skip))
abbrev Aex:Xct:=⟨[.u],[.el .net],λ(x:S_)=>True,λ(x:S_) (y:bH)=>okN y.1⟩
def Amz {l:List V_} (h:U Af l<=120000) (now:Int):okN ⟨l,default,[],now⟩:=⟨h,(by decide:szCache default<=110000),(by decide:U Fw []<=300*0),(by decide:0<=400)⟩
def AjV {n:P_} (h:okN n):szNet n<=9000000000/\szCache n.cache<=90000000/\U Af n.servers<=10000000:=by
 have:=WL h;obtain⟨h1,h2,h3,h4⟩:=h;exact⟨O,O,O⟩
abbrev FF (c:Unit):LInv:=⟨[⟨.b,3,true,.el .net⟩,⟨.s,4,true,.el .int⟩,⟨.b,2,true,.el .net⟩],λ(z x:bA)=>(0<=x.2.1/\x.2.1<=3/\okN x.1)/\x.2.2.1=z.2.2.1,λ(x:bA)=>x.2.1.toNat⟩
def Ap6:=ApN.X Aex<|Xct.p (KP [0,2,3,4,5] [14]) (λ⟨c,_⟩=>lv [(3,FF c)]) ApN.2 func225 (by
 rintro⟨(c:PUnit),_⟩ hp;refine ho (.dr He ((),()) λ(y1:bG)=>.dr A7 ((),(20:Int),()) λ(y2:D_)=>.dr A7 ((),(4:Int),()) λ(y3:D_)=>lpx (FF c) ((⟨y1.1,default,[],y2.1⟩:P_),(y3.1,(default,()))) λ(y4:bA) bk4=>.br (decide (y4.2.1>0)) (.dr L7 ((),[(⟨#[104,111,109,101]⟩:ByteArray),(⟨#[99,100,110]⟩:ByteArray)],()) λ(y7:E_)=>.dr PY ((),()) λ(y8:aj)=>.dr Gi ((),(3:Int),()) λ(y9:W_)=>.cl AP (y4.1,y7.1,y8.1,y9.1,()) λz2=>.bk (bk4 (z2.1,(wr (y4.2.1-(1:Int)),(y4.2.2.1,()))))) (.lx Aex (y4.1,()))) ?_;refine Bk trivial λ(y1:bG) i1=>Bk trivial λ(y2:D_) i2=>Bk trivial λ(y3:D_) i3=>Ay ?_ λ(y4:bA) i4=>Z (λh5=>BV ?_ λo6 (y7:E_) i7=>Bk trivial λ(y8:aj) i8=>Bk trivial λ(y9:W_) i9=>Cs ?_ λo10 z2 ez2=>AR ?_) (λh5=>lxY ?_)<;>(try subst_vars)<;>(try simp only[std,Nat.reduceAdd] at *)<;>(try simp(disch:=omega) only[FS] at *)<;>(first|omega|exact⟨O,O,Amz O _⟩|(refine⟨?_,?_,?_⟩<;>decide)|skip)<;>(have b3:=i4.1.2.2;try have b4:=AjV b3)<;>(try simp only[szAddr])<;>(first|exact b3|exact⟨b4.1,b4.2.1,b4.2.2,O,O⟩|exact⟨⟨⟨O,O,TM b3 _ i7 (by simp only[szAddr];omega)⟩,i4.2⟩,O⟩|skip))
def Ajk {n:P_} (h:okN n) (hl:n.log.length<400) {a:HO} (ha:szAddr a<=60):okN { n with log:=n.log++[⟨⟨#[104,111,109,101]⟩,a,false⟩]}:=by
 obtain⟨h1,h2,h3,h4⟩:=h;refine⟨h1,h2,?_,?_⟩
 .dsimp only;rw[Dj,al,aw,bz];simp only[Fw,show ByteArray.size ⟨#[104,111,109,101]⟩=4 from rfl];omega
 .dsimp only;rw[al,aw,bz];omega
abbrev Fv (c:Unit):LInv:=⟨[⟨.b,3,true,.el .net⟩,⟨.b,2,true,.el .net⟩],λ(z x:dY)=>(okN x.1)/\x.2.1=z.2.1,λ(x:dY)=>400-x.1.log.length⟩
def Ao1:=Ap6.X Aex<|Xct.p (KP [0,2,3,7] [8,13,18,24,29]) (λ⟨c,_⟩=>lv [(10,Fv c)]) Ap6.2 func175 (by
 rintro⟨(c:PUnit),_⟩ hp;refine ho (.dr Aex ((),()) λ(y1:bH)=>.dr A7 ((),(14:Int),()) λ(y2:D_)=>.br (y2.1==0) (.dr S4 ((),()) λ(y4:bG)=>.lx Aex ({y1.1 with servers:=y4.1},())) (.br (y2.1==1) (.dr Sd ((),()) λ(y6:cA)=>.lx Aex ({y1.1 with cache:=y6.1},())) (.br (y2.1==2) (.dr Nu ((),[(-1:Int),(999999998000:Int),(999999998001:Int)],()) λ(y9:D_)=>.lx Aex ({y1.1 with now:=y9.1},())) (.br (y2.1==3) (lpx (Fv c) (y1.1,(default,())) λ(y11:dY) bk11=>.br (decide ((y11.1.log.length:Int)<400)) (.dr PY ((),()) λ(y13:aj)=>let H_:=(⟨(⟨#[104,111,109,101]⟩:ByteArray),y13.1,false⟩:dA);.ap (y11.1.log.length+[H_].length) 56<|.re (Value.int IntKind.i64 y2.1)<|.bk (bk11 (({y11.1 with log:=y11.1.log++[H_]}:P_),(y11.2.1,())))) (.lx Aex (y11.1,()))) (.lx Aex (y1.1,())))))) ?_;refine Bk trivial λ(y1:bH) i1=>Bk trivial λ(y2:D_) i2=>Z (λh3=>Bk trivial λ(y4:bG) i4=>lxY ?_) (λh3=>Z (λh5=>Bk trivial λ(y6:cA) i6=>lxY ?_) λh5=>Z (λh7=>BV ?_ λo8 (y9:D_) i9=>lxY ?_) λh7=>Z (λh10=>Ay ?_ λ(y11:dY) i11=>Z (λh12=>Bk trivial λ(y13:aj) i13=>FB ?_ λ_=>Al<|AR ?_) λh12=>lxY ?_) λh10=>lxY ?_)<;>(try simp only[std,Nat.reduceAdd] at *)<;>(first|exact⟨i1.1.trans O,i1.2⟩|exact i1|exact⟨i4,i1.2⟩|exact⟨i1.1,i6,i1.2.2⟩|exact⟨by decide,by decide⟩|exact⟨i1.1,i1.2.1,i1.2.2.1,i1.2.2.2⟩|skip)<;>have hlen:=i11.1.2.2.2<;>(first|omega|exact i11.1|exact⟨⟨Ajk i11.1 O (by simp only[szAddr];omega),i11.2⟩,by rw[al,aw,bz];omega⟩|skip))
def smN (n:P_):Prop:=okF n.servers/\∀ e,e∈n.cache.bh->e.bd.body.size<=400
def Y2 {l:List V_} (h:okF l) (a:HO):(answerTo l a).body.size<=400:=by
 unfold answerTo;split
 .exact Nat.zero_le _
 .split
  .exact Nat.zero_le _
  .rename_i h1 h2;have h3:=BU (λs:V_=>decide (s.host=a.host)) l 0 O;have h4:=BU (λf:aF=>decide (f.path=a.path)) (l.getD (fidx (λs:V_=>decide (s.host=a.host)) l 0).toNat default).files 0 O;exact h _ (Ae O) _ (Ae O)
def Afl {n:P_} (h:smN n) (t:ByteArray) (a:HO):((lookUp n.cache t a n.now).getD notF).body.size<=400:=by
 unfold lookUp;cases q:n.cache.bh.find? (freshEntry t a n.now) with
 | none=>exact Nat.zero_le _
 | some e=>exact h.2 e (List.mem_of_find?_eq_some q)
def keep_sm {n:P_} (h:smN n) (t:ByteArray) (a:HO) (x:M_):smN (keepA n t a x):=by
 unfold keepA;split
 .refine⟨h.1,λe he=>?_⟩;have he:e∈(sto n.cache t a x n.now).bh:=he;unfold sto at he;split at he
  .rename_i q;have q:=q.2.2.2;unfold isCache at q;rw[T_] at q;exact W9 (I4 q.1 e he)
  .exact h.2 e he
 .exact h
def AhP {n:P_} (h:smN n) (t:ByteArray) (a:HO) (g:Bool):smN (logS n t a g):=by
 unfold logS;split<;>exact h
def XD {n:P_} (h:smN n) (t:ByteArray) (a:HO) (g:Bool):smN (fetchNo n t a g).1/\(fetchNo n t a g).2.body.size<=400:=by
 unfold fetchNo;split
 .exact⟨h,Nat.zero_le _⟩
 .split
  .exact⟨h,Afl h t a⟩
  .refine⟨?_,Y2 h.1 a⟩;dsimp only;split
   .exact AhP h t a g
   .exact keep_sm (AhP h t a g) _ _ _
abbrev Xu:Xct:=⟨[.u],[.el .net],λ(x:S_)=>True,λ(x:S_) (y:bH)=>okN y.1/\smN y.1⟩
abbrev EI (c:Unit):LInv:=⟨[⟨.b,3,true,.el .net⟩,⟨.s,15,true,.el .int⟩,⟨.s,13,true,.sl .str⟩,⟨.b,2,true,.el .net⟩],λ(z x:ca)=>(0<=x.2.1/\x.2.1<=2/\U Af x.1.servers<=100000+5000*x.2.1.toNat/\x.1.cache=default/\okF x.1.servers/\x.1.log.length=0/\x.2.2.1.length=2/\x.2.2.1.all (λs=>decide (s.size<=30))=true)/\x.2.2.2.1=z.2.2.2.1,λ(x:ca)=>2-x.2.1.toNat⟩
abbrev ED (c:Unit):LInv:=⟨[⟨.b,3,true,.el .net⟩,⟨.s,7,true,.el .int⟩,⟨.b,2,true,.el .net⟩],λ(z x:bA)=>(0<=x.2.1/\x.2.1<=2/\okN x.1/\smN x.1)/\x.2.2.1=z.2.2.1,λ(x:bA)=>x.2.1.toNat⟩
def Ao6:=Ao1.X Xu<|Xct.p (KP [0,2,3,5,6,7,13,14,15] [16,42]) (λ⟨c,_⟩=>λ|3=>some (EI c)|9=>some (ED c)|_=>none) Ao1.2 func18 (by
 rintro⟨(c:PUnit),_⟩ hp;refine ho (.dr He ((),()) λ(y1:bG)=>.dr A7 ((),(20:Int),()) λ(y2:D_)=>lpx (EI c) ((⟨y1.1,default,[],y2.1⟩:P_),((0:Int),([(⟨#[105,110,100,101,120]⟩:ByteArray),(⟨#[110,101,120,116]⟩:ByteArray)],(default,())))) λ(y3:ca) bk3=>.br (decide (y3.2.1<2)) (.ix y3.2.1 y3.2.2.1.length<|.dr Vx ((),()) λ(y7:E_)=>.dr FG ((),()) λ(y8:bw)=>.cl Ax (y8.1,()) λz2=>.dr Nu ((),[(0:Int),(5:Int)],()) λ(y11:D_)=>.dr BX (y3.1.servers,(⟨(⟨#[104,111,109,101]⟩:ByteArray),y3.2.2.1.getD y3.2.1.toNat default⟩:HO),(⟨(200:Int),(1:Int),y7.1,y11.1,false,z2.1⟩:M_),()) λ(y13:U_)=>.re (Value.int IntKind.i64 (2:Int))<|.bk (bk3 ((⟨y13.1,y3.1.cache,y3.1.log,y3.1.now⟩:P_),(w1 y3.2.1,(y3.2.2.1,(y3.2.2.2.1,())))))) (.dr A7 ((),(3:Int),()) λ(y15:D_)=>lpx (ED c) (y3.1,(y15.1,(y3.2.2.2.1,()))) λ(y16:bA) bk16=>.br (decide (y16.2.1>0)) (.dr PY ((),()) λ(y18:aj)=>.cl AP (y16.1,(⟨#[104,111,109,101]⟩:ByteArray),y18.1,false,()) λz3=>.re (Value.int IntKind.i64 y3.2.1)<|.re (Value.int IntKind.i64 (2:Int))<|.bk (bk16 (z3.1,(wr (y16.2.1-(1:Int)),(y16.2.2.1,()))))) (.lx Xu (y16.1,())))) ?_;refine Bk trivial λ(y1:bG) i1=>Bk trivial λ(y2:D_) i2=>Ay ?_ λ(y3:ca) i3=>Z (λh4=>Ey ?_ λo5 o6=>Bk trivial λ(y7:E_) i7=>Bk trivial λ(y8:bw) i8=>Cs ?_ λo9 z2 ez2=>(BV ?_ λo10 (y11:D_) i11=>BV ?_ λo12 (y13:U_) i13=>Al<|AR ?_)) (λh4=>Bk trivial λ(y15:D_) i15=>Ay ?_ λ(y16:bA) i16=>Z (λh17=>Bk trivial λ(y18:aj) i18=>Cs ?_ λo19 z3 ez3=>(Al<|Al<|AR ?_)) λh17=>lxY ?_)<;>(try subst_vars)<;>(try have q1:=Gg i8)<;>(try have q2:=Cg y8.1)<;>(try simp only[std,Nat.reduceAdd] at *)<;>(have e0:szCache (default:aZ)=0:=by decide)<;>(have hr:∀ (l:List ByteArray) (i:Nat),(l.all λs=>decide (s.size<=30))=true->i<l.length->(l.getD i default).size<=30:=λl i h hi=>by have:=aM.1 h _ (Ae hi);simpa using this)<;>(try obtain⟨⟨b1,b2,b3,b4,b9,b5,b6,b7⟩,b8⟩:=i3)<;>(try have f13:=i13.2.2.2 b9)<;>(try have c1:=hr y3.2.2.1 y3.2.1.toNat b7 O)<;>(first|omega|exact⟨O,O,O,rfl,i1.2.2,rfl,rfl,by decide⟩|exact⟨O,O⟩|exact⟨O,O,O,i1.2.2,by decide⟩|skip)<;>(try simp only[szAddr,Ab,show ByteArray.size ⟨#[104,111,109,101]⟩=4 from rfl] at *)<;>(try rw[FS O O])<;>(first|omega|exact⟨O,O,O⟩|exact⟨⟨⟨O,O,O,b4,f13,b5,b6,b7⟩,b8⟩,O⟩|skip)<;>(first|exact⟨O,O,⟨O,by rw[b4];decide,by rw[List.length_eq_zero_iff.1 b5];decide,O⟩,b9,by rw[b4];exact λe h=>nomatch h⟩|skip)<;>(have k3:=i16.1.2.2.1;have k5:=i16.1.2.2.2;have k4:=AjV k3)<;>(first|exact⟨k3,k5⟩|exact⟨k4.1,k4.2.1,k4.2.2,O,O⟩|exact⟨⟨⟨O,O,TM k3 _ (by decide) (by simp only[szAddr];omega),(XD k5 _ _ _).1⟩,i16.2⟩,O⟩|skip))
abbrev L9:Xct:=⟨[.u],[.el .addr],λ(x:S_)=>True,λ(x:S_) (y:aj)=>szAddr y.1<=200⟩
def Aow:=Ao6.X L9<|Xct.o [0,2] Ao6.2 func19 (by
 rintro⟨(c:PUnit),_⟩ hp;refine ho (.dr L7 ((),[(⟨#[105,110,100,101,120]⟩:ByteArray),(⟨#[105,110,100,101,120]⟩:ByteArray),(⟨#[110,101,120,116]⟩:ByteArray)],()) λ(y2:E_)=>.lx L9 (⟨(⟨#[104,111,109,101]⟩:ByteArray),y2.1⟩,())) ?_;refine BV ?_ λo1 (y2:E_) i2=>lxY ?_<;>(try simp only[std,Nat.reduceAdd] at *)<;>(first|(refine⟨?_,?_,?_⟩<;>decide)|(simp only[szAddr,show ByteArray.size ⟨#[104,111,109,101]⟩=4 from rfl];omega)|skip))
abbrev Se:Xct:=⟨[.u],[.el .net,.el .addr],λ(x:S_)=>True,λ(x:S_) (y:dj)=>okN y.1/\szAddr y.2.1<=300⟩
def Ap3:=Aow.X Se<|Xct.o (KP [0,2,3,4,5,11] [12,16]) Aow.2 func130 (by
 rintro⟨(c:PUnit),_⟩ hp;refine ho (.dr Xu ((),()) λ(y1:bH)=>.dr L9 ((),()) λ(y2:aj)=>.dr A7 ((),(14:Int),()) λ(y3:D_)=>.br (y3.1==0) (.dr Aex ((),()) λ(y5:bH)=>.du (.lx Se (y5.1,y2.1,()))) (.br (y3.1==1) (.dr YO ((),()) λ(y9:aj)=>.du (.lx Se (y1.1,y9.1,()))) (.du (.lx Se (y1.1,y2.1,()))))) ?_;refine Bk trivial λ(y1:bH) i1=>Bk trivial λ(y2:aj) i2=>Bk trivial λ(y3:D_) i3=>Z (λh4=>Bk trivial λ(y5:bH) i5=>AhO (lxY ?_)) (λh4=>Z (λh8=>Bk trivial λ(y9:aj) i9=>AhO (lxY ?_)) λh8=>AhO (lxY ?_))<;>(try simp only[std,Nat.reduceAdd] at *)<;>(first|exact⟨i1.1,O⟩|exact⟨‹_›,O⟩|(simp only[szAddr] at *;exact⟨‹_›,O⟩)|(simp only[szAddr] at *;exact⟨i1.1,O⟩)|skip))
abbrev MB:Xct:=⟨[.u],[.sl .int],λ(x:S_)=>True,λ(x:S_) (y:ak)=>y.1.length<=4⟩
abbrev D1 (c:Unit):LInv:=⟨[⟨.s,3,true,.sl .int⟩,⟨.s,4,true,.el .int⟩],λ_ (x:bL)=>0<=x.2.1/\x.2.1<=4/\x.1.length+x.2.1<=4,λ(x:bL)=>x.2.1.toNat⟩
def Aok:=Ap3.X MB<|Xct.p (KP [0,2,3,4] [9]) (λ⟨c,_⟩=>lv [(3,D1 c)]) Ap3.2 func20 (by
 rintro⟨(c:PUnit),_⟩ hp;refine ho (.dr A7 ((),(5:Int),()) λ(y1:D_)=>lpx (D1 c) ([],(y1.1,())) λ(y2:bL) bk2=>.br (decide (y2.2.1>0)) (.dr A7 ((),(120:Int),()) λ(y4:D_)=>.ap (y2.1.length+[wr (y4.1-(1:Int))].length) 8<|.bk (bk2 (y2.1++[wr (y4.1-(1:Int))],(wr (y2.2.1-(1:Int)),())))) (.lx MB (y2.1,()))) ?_;refine Bk trivial λ(y1:D_) i1=>Ay ?_ λ(y2:bL) i2=>Z (λh3=>Bk trivial λ(y4:D_) i4=>FB ?_ λ_=>AR ?_) (λh3=>lxY ?_)<;>(try simp only[std,Nat.reduceAdd,al,aw,bz] at *)<;>(try simp(disch:=omega) only[FS] at *)<;>(first|omega|exact⟨O,O,O⟩|exact⟨⟨O,O,O⟩,O⟩|skip))
abbrev Nt:Xct:=⟨[.u],[.el .loader],λ(x:S_)=>True,λ(x:S_) (y:bR)=>okX 1150 y.1⟩
abbrev CW (c:Unit):LInv:=⟨[⟨.b,5,true,.el .loader⟩,⟨.s,7,true,.el .int⟩,⟨.b,2,true,.el .loader⟩],λ(z x:aV)=>(0<=x.2.1/\x.2.1<=9/\okX (1150+x.2.1.toNat) x.1)/\x.2.2.1=z.2.2.1,λ(x:aV)=>x.2.1.toNat⟩
def AoZ:=Aok.X Nt<|Xct.p (KP [0,2,3,4,5,7,28] [24,37,44,51]) (λ⟨c,_⟩=>lv [(4,CW c)]) Aok.2 func76 (by
 rintro⟨(c:PUnit),_⟩ hp;refine ho (.dr Se ((),()) λ(y1:dj)=>.dr MB ((),()) λ(y2:ak)=>.cl KT (y1.1,y1.2.1,y2.1,()) λz2=>.dr A7 ((),(10:Int),()) λ(y4:D_)=>lpx (CW c) (z2.1,(y4.1,(default,()))) λ(y5:aV) bk5=>.br (decide (y5.2.1>0)) (.dr A7 ((),(4:Int),()) λ(y7:D_)=>.br (y7.1==0) (.cl EV (y5.1,()) λz3=>.bk (bk5 (z3.1,(wr (y5.2.1-(1:Int)),(y5.2.2.1,()))))) (.br (y7.1==1) (.cl DW (y5.1,()) λz4=>.bk (bk5 (z4.1,(wr (y5.2.1-(1:Int)),(y5.2.2.1,()))))) (.br (y7.1==2) (.cl EW (y5.1,()) λz5=>.bk (bk5 (z5.1,(wr (y5.2.1-(1:Int)),(y5.2.2.1,()))))) (.dr A7 ((),(60:Int),()) λ(y17:D_)=>.cl Fq (y5.1,wr ((1:Int)+y17.1),()) λz6=>.bk (bk5 (z6.1,(wr (y5.2.1-(1:Int)),(y5.2.2.1,())))))))) (.lx Nt (y5.1,()))) ?_;refine Bk trivial λ(y1:dj) i1=>Bk trivial λ(y2:ak) i2=>Cs ?_ λo3 z2 ez2=>(Bk trivial λ(y4:D_) i4=>Ay ?_ λ(y5:aV) i5=>Z (λh6=>Bk trivial λ(y7:D_) i7=>Z (λh8=>Cs ?_ λo9 z3 ez3=>AR ?_) λh8=>Z (λh11=>Cs ?_ λo12 z4 ez4=>AR ?_) λh11=>Z (λh14=>Cs ?_ λo15 z5 ez5=>AR ?_) λh14=>Bk trivial λ(y17:D_) i17=>Cs ?_ λo18 z6 ez6=>AR ?_) λh6=>lxY ?_)<;>(try subst_vars)<;>(try simp only[std,Nat.reduceAdd] at *)<;>(try have a1:=WL i1.1)<;>(try simp(disch:=omega) only[FS] at *)<;>(first|omega|exact⟨O,O,O⟩|exact⟨O,O,Anc (Akn _ i1.1 O) O⟩|skip)<;>(have d0:=i5.1.2.2;have d1:=Amy d0)<;>(first|exact d1.1|exact d1.2.1|exact d1.2.2.1|exact d1.2.2.2|exact Anc d0 O|skip)<;>have d2:=Anc (G:=1150+(y5.2.1-1).toNat+1) d0 O<;>(first|exact⟨⟨⟨O,O,AmM d2⟩,i5.2⟩,O⟩|exact⟨⟨⟨O,O,Amo d2⟩,i5.2⟩,O⟩|exact⟨⟨⟨O,O,AmW d2⟩,i5.2⟩,O⟩|exact⟨⟨⟨O,O,Am7 d2 _⟩,i5.2⟩,O⟩|skip))
def VM (l:List ao) (a:HO) (x:M_) (g:Bool):(ope l a x g).1=l\/(ope l a x g).1=l++[⟨a,siz x,g,x⟩]:=by
 unfold ope;split
 .exact .inl rfl
 .exact .inr rfl
abbrev IU:Xct:=⟨[.u,.v (.el .int)],[.sl .int],λ(x:aC)=>0<=x.2.1/\x.2.1<=100,λ(x:aC) (y:ak)=>y.1.length<=100/\(y.1.length:Int)<=x.2.1⟩
abbrev Cn (c:Unit) (most:Int):LInv:=⟨[⟨.s,5,true,.sl .int⟩,⟨.s,6,true,.el .int⟩],λ_ (x:bL)=>0<=x.2.1/\x.2.1<=most/\x.1.length+x.2.1<=most,λ(x:bL)=>x.2.1.toNat⟩
def Ao3:=AoZ.X IU<|Xct.p (KP [0,1,4,5,6] [12]) (λ⟨c,most,_⟩=>lv [(3,Cn c most)]) AoZ.2 func21 (by
 rintro⟨(c:PUnit),(most:Int),_⟩ hp;refine ho (.dr A7 ((),most,()) λ(y1:D_)=>lpx (Cn c most) ([],(y1.1,())) λ(y2:bL) bk2=>.br (decide (y2.2.1>0)) (.dr A7 ((),(7:Int),()) λ(y4:D_)=>.ap (y2.1.length+[wr (y4.1-(1:Int))].length) 8<|.re (Value.int IntKind.i64 most)<|.bk (bk2 (y2.1++[wr (y4.1-(1:Int))],(wr (y2.2.1-(1:Int)),())))) (.lx IU (y2.1,()))) ?_;refine Bk trivial λ(y1:D_) i1=>Ay ?_ λ(y2:bL) i2=>Z (λh3=>Bk trivial λ(y4:D_) i4=>FB ?_ λ_=>Al<|AR ?_) (λh3=>lxY ?_)<;>(try simp only[std,Nat.reduceAdd,al,aw,bz] at *)<;>(try simp(disch:=omega) only[FS] at *)<;>(first|omega|exact⟨O,O⟩|exact⟨O,O,O⟩|exact⟨⟨O,O,O⟩,O⟩|skip))
abbrev R4:Fct:=⟨[.v (.sl .u8),.v (.el .int)],[.el .int],λ(x:bL)=>x.1.length<=1000000000000000000,λ(x:bL)=>(if x.2.1<3+(x.1.length:Int) / 12 then x.2.1 else 3+(x.1.length:Int) / 12,())⟩
def Anw:=Ao3.a R4<|Fct.o (KP [0,1,4,5] [12]) Ao3.2 func22 (by
 rintro⟨(b:List Int),(most:Int),_⟩ hp;refine ho (.ob ((12:Int)≠(0:Int))<|.br (decide (wr ((3:Int)+wr ((↑(List.length b):Int).tdiv (12:Int)))>most)) (.lf R4 (most,())) (.lf R4 (wr ((3:Int)+wr ((↑(List.length b):Int).tdiv (12:Int))),()))) ?_;refine Ad ?_ λ_=>Z (λh2=>Y ?_) (λh2=>Y ?_)<;>(try simp only[std,Nat.reduceAdd] at *)<;>(try simp(disch:=omega) only[FS,C_] at *)<;>(try simp(disch:=omega) only[G_,F_])<;>(first|trivial|omega|grind[FS,C_,B_,K_,I_,maxLen]))
abbrev Sp:Xct:=⟨[.v (.sl .u8)],[.el .net,.el .addr,.sl .int,.sl .int],λ(x:ak)=>x.1.length<=1000000000000000000/\(∀ j,j<x.1.length->0<=x.1.getD j default/\x.1.getD j default<=255),λ(x:ak) (y:di)=>okN y.1/\smN y.1/\szAddr y.2.1<=200/\y.2.2.1.length<=4/\y.2.2.2.1.length<=42⟩
def AoL:=Anw.X Sp<|Xct.o [0,2,3,4,5,6,7,8,9] Anw.2 func5 (by
 rintro⟨(b:List Int),_⟩ hp;refine ho (.ob (∀ (j:Nat),j<List.length (b,()).1->0<=List.getD b j default/\List.getD b j default<=255)<|.ob (List.length b<=1000000000000000000)<|.dr Xu ((),()) λ(y3:bH)=>.dr L9 ((),()) λ(y4:aj)=>.dr MB ((),()) λ(y5:ak)=>let H_:Out:=.cl R4 (b,(30:Int),()) λ(z2:D_)=>.dr IU ((),wr ((12:Int)+z2.1),()) λ(y10:ak)=>.lx Sp (y3.1,y4.1,y5.1,y10.1,());.lp (Bool) (True) (λx=>True) λy6=>.br (y6) H_ H_) ?_;refine Ad ?_ λ_=>Ad ?_ λ_=>Bk trivial λ(y3:bH) i3=>Bk trivial λ(y4:aj) i4=>Bk trivial λ(y5:ak) i5=>HT trivial λy6 i6=>Z (λh7=>Cs ?_ λo8 z2 ez2=>BV ?_ λo9 (y10:ak) i10=>lxY ?_) (λh7=>Cs ?_ λo11 z3 ez3=>BV ?_ λo12 (y13:ak) i13=>lxY ?_)<;>(try subst_vars)<;>(try simp only[std,Nat.reduceAdd] at *)<;>(first|exact hp.2|exact hp.1|skip)<;>(have hm:(0:Int)<=(if 30<3+(b.length:Int) / 12 then 30 else 3+(b.length:Int) / 12)/\(if 30<3+(b.length:Int) / 12 then 30 else 3+(b.length:Int) / 12)<=30:=by split<;>omega)<;>generalize (if 30<3+(b.length:Int) / 12 then 30 else 3+(b.length:Int) / 12)=q at *<;>have hw:IntKind.i64.wrap (12+q)=12+q:=FS O O<;>simp only[hw] at *<;>(first|omega|exact⟨O,O⟩|exact⟨i3.1,i3.2,O,O,O⟩|skip))
def Me {b:UInt8} {p q:List UInt8} (h:b∉p):idx b (ofL (p++b::q))=p.length:=by
 unfold idx;rw[BS,List.findIdx_append,List.findIdx_cons];have h2:p.findIdx (λx=>x==b)=p.length:=by
  rw[List.findIdx_eq_length_of_false λx hx=>by
   have:x≠b:=λe=>h (e▸hx)
   simpa using this]
 rw[h2];simp
def VB {b:UInt8} {p:List UInt8} (h:b∉p):idx b (ofL p)=p.length:=by
 unfold idx;rw[BS,List.findIdx_eq_length_of_false λx hx=>by
  have:x≠b:=λe=>h (e▸hx)
  simpa using this]
def Q2 (l:List UInt8) (a b:Nat):(ofL l).extract a b=ofL ((l.take b).drop a):=by
 rw[<-AM ((ofL l).extract a b),AI,BS]
def Ald {p q:List UInt8} (hp:p≠[]) (h:(60:UInt8)∉p):feedA (ofL (p++60::q))=(⟨3,⟨#[]⟩,[],ofL p⟩::(feedA (ofL (60::q))).1,(feedA (ofL (60::q))).2):=by
 have h1:0<p.length:=List.length_pos_iff.2 hp;have e:=Me (q:=q) h;rw[Sr (by rw[e];exact h1) (by rw[e,Df];simp),e,Q2,Q2,Df];have e1:(List.take p.length (p++60::q)).drop 0=p:=by simp
 have e2:(List.take (p++60::q).length (p++60::q)).drop p.length=60::q:=by rw[cC (X_ _)];simp
 rw[e1,e2]
def Akz {c q:List UInt8} (h:(62:UInt8)∉c):feedA (ofL (60::c++62::q))=((if(tagO (ofL c)).2 then[(tagO (ofL c)).1] else[])++(feedA (ofL q)).1,(feedA (ofL q)).2):=by
 have e:idx 62 (ofL (60::c++62::q))=(60::c).length:=Me (by simp[h]);have e0:idx 60 (ofL (60::c++62::q))=0:=Me (p:=[]) (by simp);rw[XK e0 (by rw[e,Df];simp),e,Q2,Q2,Df];have e1:(List.take (60::c).length (60::c++62::q)).drop 1=c:=by rw[List.take_left];rfl
 have e2:(List.take (60::c++62::q).length (60::c++62::q)).drop ((60::c).length+1)=q:=by rw[cC (X_ _),<-List.drop_drop,List.drop_left];rfl
 rw[e1,e2];split<;>simp_all
def Alw {l:List UInt8} (h:(60:UInt8)∉l):feedA (ofL l)=([],ofL l):=by
 have e:=VB h;by_cases hl:l=[]
 .subst hl;exact Ko (by rw[e];rintro⟨h1,_⟩;exact absurd h1 (by simp)) (.inr (by rw[VB (by simp)];rfl))
 .exact Ko (by rw[e,Df];omega) (.inl (by rw[e];exact λh=>hl (List.length_eq_zero_iff.1 h)))
def Ala {q:List UInt8} (h:(62:UInt8)∉q):feedA (ofL (60::q))=([],ofL (60::q)):=by
 have e0:idx 60 (ofL (60::q))=0:=Me (p:=[]) (by simp);exact Ko (by rw[e0];omega) (.inr (by rw[VB (by simp[h]),Df]))
def VN {b:UInt8}:∀ {l:List UInt8},b∈l->∃ p q,l=p++b::q/\b∉p
 | x::l,h=>by
  by_cases e:x=b
  .exact⟨[],l,by rw[e];rfl,by simp⟩
  .obtain⟨p,q,h1,h2⟩:=VN (l:=l) (by
    rcases au.1 h with h|h
    .exact absurd h.symm e
    .exact h)
   exact⟨x::p,q,by rw[h1];rfl,by simp only[au,not_or];exact⟨λh=>e h.symm,h2⟩⟩
def Qn (P:List UInt8->List ai->List UInt8->Prop)
 (s0:∀ l,(60:UInt8)∉l->P l [] l) (s1:∀ q,(62:UInt8)∉q->P (60::q) [] (60::q))
 (tx:∀ p q ts r,p≠[]->(60:UInt8)∉p->P (60::q) ts r->P (p++60::q) (⟨3,⟨#[]⟩,[],ofL p⟩::ts) r)
 (tg:∀ c q ts r,(62:UInt8)∉c->P q ts r->P (60::c++62::q) ((if(tagO (ofL c)).2 then[(tagO (ofL c)).1] else[])++ts) r) :
 ∀ (n:Nat) (l:List UInt8),2*l.length+(if l.head? = some 60 then 0 else 1)<=n->P l (feedA (ofL l)).1 (I (feedA (ofL l)).2)
 | n,l,hn=>by
  by_cases h:(60:UInt8)∈l
  .obtain⟨p,q,rfl,hp⟩:=VN h;by_cases hp0:p=[]
   .subst hp0;by_cases h2:(62:UInt8)∈q
    .obtain⟨c,r,rfl,hc⟩:=VN h2;have e:=Akz (q:=r) hc;rw[show([]:List UInt8)++60::(c++62::r)=60::c++62::r from rfl,e];refine tg c r _ _ hc (Qn P s0 s1 tx tg (n-1) r ?_);simp only[eH,aw,al,List.head?_cons,aD] at hn;split<;>omega
    .rw[eH,Ala h2,BS];exact s1 q h2
   .rw[Ald hp0 hp];have hl:0<p.length:=List.length_pos_iff.2 hp0;have hh:(p++60::q).head?≠some 60:=by
     cases p with
     | nil=>exact absurd rfl hp0
     | cons x p=>intro e;simp only[cy,List.head?_cons,R_] at e;exact hp (by rw[e];simp)
    refine tx p q _ _ hp0 hp (Qn P s0 s1 tx tg (n-1) (60::q) ?_);rw[F_ hh] at hn;simp only[aw,al,List.head?_cons,aD] at hn ⊢;omega
  .rw[Alw h,BS];exact s0 l h
 termination_by n=>n
 decreasing_by
  all_goals
   simp only[eH,aw,al] at hn;have:0<n:=by
    rcases Nat.eq_zero_or_pos n with h|h
    .subst h;exfalso;revert hn;simp
    .exact h
   omega
def Yx (P:List UInt8->List ai->List UInt8->Prop)
 (s0:∀ l,(60:UInt8)∉l->P l [] l) (s1:∀ q,(62:UInt8)∉q->P (60::q) [] (60::q))
 (tx:∀ p q ts r,p≠[]->(60:UInt8)∉p->P (60::q) ts r->P (p++60::q) (⟨3,⟨#[]⟩,[],ofL p⟩::ts) r)
 (tg:∀ c q ts r,(62:UInt8)∉c->P q ts r->P (60::c++62::q) ((if(tagO (ofL c)).2 then[(tagO (ofL c)).1] else[])++ts) r) (x:ByteArray) :
 P (I x) (feedA x).1 (I (feedA x).2):=by
 have:=Qn P s0 s1 tx tg _ (I x) (X_ _)
 rwa [AM] at this
def Wb (x y:ByteArray):feedA (x++y)=((feedA x).1++(feedA ((feedA x).2++y)).1,(feedA ((feedA x).2++y)).2):=by
 have:=Yx (λl ts r=>feedA (ofL l++y)=(ts++(feedA (ofL r++y)).1,(feedA (ofL r++y)).2)) (λl _=>by simp) (λq _=>by simp)
  (λp q ts r hp h ih=>by
   have e:ofL (p++60::q)++y=ofL (p++60::(q++I y)):=by rw[<-AM y,<-Dh,BS];simp
   have e2:ofL (60::q)++y=ofL (60::(q++I y)):=by rw[<-AM y,<-Dh,BS];simp
   rw[e2] at ih;rw[e,Ald hp h,ih];simp)
  (λc q ts r h ih=>by
   have e:ofL (60::c++62::q)++y=ofL (60::c++62::(q++I y)):=by rw[<-AM y,<-Dh,BS];simp
   have e2:ofL q++y=ofL (q++I y):=by rw[<-AM y,<-Dh,BS]
   rw[e2] at ih;rw[e,Akz h,ih];simp) x
 simpa only[AM] using this
def gC (x:UInt8):Bool:=x != 115&&(x != 59&&(x != 32&&(x != 91&&x != 60)))
def hdB (f:UInt8->Bool):List UInt8->Bool
 | []=>false
 | y::_=>f y
def folB (b:UInt8) (f:UInt8->Bool):List UInt8->Bool
 | []=>true
 | x::l=>(x != b||hdB f l)&&folB b f l
def JV {b:UInt8} {f:UInt8->Bool}:∀ {a c:List UInt8},folB b f a=true->folB b f c=true->folB b f (a++c)=true
 | [],_,_,h=>h
 | x::a,c,h,h2=>by
  simp only[folB,T_,cy] at h ⊢;refine⟨?_,JV h.2 h2⟩;cases a with
  | nil=>simp only[hdB,Bool.or_false] at h;rw[h.1];rfl
  | cons y a=>exact h.1
def IL {b:UInt8} {f:UInt8->Bool}:∀ {a c:List UInt8},folB b f (a++c)=true->folB b f c=true
 | [],_,h=>h
 | x::a,c,h=>by simp only[folB,T_,cy] at h;exact IL h.2
def Qy {b y:UInt8} {f:UInt8->Bool} (hy:f y=false):∀ {a c:List UInt8},folB b f (a++y::c)=true->folB b f a=true
 | [],_,_=>rfl
 | x::a,c,h=>by
  simp only[folB,T_,cy] at h ⊢;refine⟨?_,Qy hy h.2⟩;cases a with
  | nil=>simp only[eH,hdB,hy,Bool.or_false] at h ⊢;exact h.1
  | cons y a=>exact h.1
def VS {b:UInt8} {f:UInt8->Bool}:∀ {a:List UInt8},b∉a->folB b f a=true
 | [],_=>rfl
 | x::a,h=>by simp only[au,not_or] at h;simp only[folB,T_,dt,bne_iff_ne];exact⟨.inl λe=>h.1 e.symm,VS h.2⟩
def Ajd {b:UInt8} {f:UInt8->Bool} {l:List UInt8} (h:folB b f (b::l)=true):hdB f l=true:=by
 simp only[folB,T_,dt,bne_iff_ne,ne_eq,not_true_eq_false,false_or] at h;exact h.1
abbrev hB:List UInt8->Bool:=folB 91 gC
def gdT (s:ByteArray):Prop:=hB (I s)=true/\(60:UInt8)∉I s
def Ic:gdT ⟨#[]⟩:=⟨rfl,by simp[I]⟩
def UA {a b:ByteArray} (h:gdT a) (h2:gdT b):gdT (a++b):=by
 unfold gdT at *
 rw[Ar];exact⟨JV h.1 h2.1,by simp only[ah,not_or];exact⟨h.2,h2.2⟩⟩
def ZM:∀ (n:Nat) {l:List UInt8},l.length<=n->hB l=true->(60:UInt8)∉l->∀ w,w∈L3 59 l->hB w=true/\(60:UInt8)∉w
 | n,l,hn,h,h2,w,hw=>by
  rw[WP] at hw;cases hc:GZ 59 l with
  | none=>rw[hc] at hw;simp only[List.mem_singleton] at hw;subst hw;exact⟨h,h2⟩
  | some r=>
   obtain⟨p,q⟩:=r;obtain⟨rfl,hp⟩:=Mq hc;rw[hc] at hw;simp only[au] at hw;rcases hw with rfl|hw
   .exact⟨Qy (y:=59) (by decide) h,λq=>h2 (by simp[q])⟩
   .cases n with
    | zero=>simp at hn
    | succ n=>exact ZM n (by simp at hn;omega) (by have:=IL (a:=p++[59]) (c:=q) (by simpa using h);exact this) (λq=>h2 (by simp[q])) w hw
def Akm {s w:ByteArray} (h:gdT s) (hw:w∈K 59 s):gdT w:=by
 unfold K at hw;obtain⟨v,hv,rfl⟩:=bM.1 hw;unfold gdT;rw[BS];exact ZM _ (X_ _) h.1 h.2 v hv
def Aj2 {s:ByteArray} (h:gdT s) (i:Nat):gdT (s.extract i s.size):=by
 unfold gdT at *
 rw[AI,cC (by rw[AU];exact X_ _)];refine⟨IL (a:=(I s).take i) (by rw[dc];exact h.1),λq=>h.2 (ft q)⟩
def TD {s:ByteArray} (h:gdT s):∀ (l:List ByteArray) (op:Int),gdT (line8L s l op).1.text/\((line8L s l op).2=true->(line8L s l op).1.op=1->(line8L s l op).1.text.size<=60)
 | [],op=>⟨Ic,by simp[line8L]⟩
 | w::l,op=>by
  rw[line8L];split
  .refine⟨Aj2 h _,λh1 h2=>?_⟩;simp only at h1 h2;rw[G_ (.inl h2)] at h1;have:=ee h1;rw[db];omega
  .exact TD h l (op+1)
def AfH {c:ByteArray} (h:gdT c) (h1:(parseS c).2=true):(parseS c).1.length<=6/\∀ x,x∈(parseS c).1->gdT x.text/\(x.op=1->x.text.size<=60):=by
 unfold parseS at *
 split at h1
 .rename_i e;rw[G_ e];simp
 .rename_i e;rw[F_ e];split at h1
  .rename_i e2;rw[G_ e2];refine⟨by simp only[lines8,cE];exact e2.1,λx hx=>?_⟩;simp only[lines8,bM] at hx;obtain⟨w,hw,rfl⟩:=hx;have:=TD (Akm h hw) (words8.drop 1) 1;exact⟨this.1,λho=>this.2 (aM.1 e2.2 w hw) ho⟩
  .exact absurd h1 (by decide)
abbrev kB:List UInt8->Bool:=folB 60 λy=>y != 115
def wrT (s:ByteArray):Prop:=kB (I s)=true/\(91:UInt8)∉I s
def Aly (x:UInt8):mk8 x=60↔x=91\/x=60:=by
 unfold mk8;split
 .rename_i e;simp[e]
 .split
  .rename_i e1 e;subst e;decide
  .rename_i e1 e2;exact⟨.inr,λh=>h.elim (λh=>absurd h e1) id⟩
def Air (x:UInt8) (h:mk8 x=115):x=115:=by
 unfold mk8 at h;split at h
 .exact absurd h (by decide)
 .split at h
  .exact absurd h (by decide)
  .exact h
def Alx (x:UInt8):mk8 x≠91:=by
 unfold mk8;split
 .decide
 .split
  .decide
  .assumption
def Tm:∀ {l:List UInt8},hB l=true->(60:UInt8)∉l->kB (l.map mk8)=true/\(91:UInt8)∉l.map mk8
 | [],_,_=>⟨rfl,by simp⟩
 | x::l,h,h2=>by
  simp only[au,not_or] at h2;simp only[folB,T_,aY,dt,bne_iff_ne] at h ⊢;have ih:=Tm h.2 h2.2;refine⟨⟨?_,ih.1⟩,by simp only[au,not_or];exact⟨λe=>Alx x e.symm,ih.2⟩⟩;rcases h.1 with h1|h1
  .exact .inl λe=>((Aly x).1 e).elim h1 λe=>h2.1 e.symm
  .right;cases l with
   | nil=>exact h1
   | cons y l=>
    simp only[hdB,aY,bne_iff_ne] at h1 ⊢;intro e;rw[Air _ e] at h1;exact absurd h1 (by decide)
def Ait {a b:ByteArray} (h:wrT a) (h2:wrT b):wrT (a++b):=by
 unfold wrT at *
 rw[Ar];exact⟨JV h.1 h2.1,by simp only[ah,not_or];exact⟨h.2,h2.2⟩⟩
def ZZ:wrT ⟨#[]⟩:=⟨rfl,by simp[I]⟩
def YU (b:am) (l:List bF) {x:bU} (h:gdT x.text) (h2:x.op=1->x.text.size<=60):wrT (runL b l x).2.1/\(runL b l x).2.1.size<=60:=by
 unfold runL;split
 .rename_i e;refine⟨?_,?_⟩
  .unfold wrT markup;rw[BS];exact Tm h.1 h.2
  .unfold markup;rw[Df,cE,AU];exact h2 e
 all_goals (repeat' split)<;>exact⟨ZZ,show(⟨#[]⟩:ByteArray).size<=60 by decide⟩
def Oc (l:List bF):∀ (r:List bU) (b:am) (w:ByteArray) (g:List ByteArray),(∀ x,x∈r->gdT x.text/\(x.op=1->x.text.size<=60))->wrT w->wrT (runLi l r b w g).2.1/\(runLi l r b w g).2.1.size<=w.size+60*r.length
 | [],b,w,g,_,hw=>⟨hw,bN _ _⟩
 | x::r,b,w,g,h,hw=>by have h1:=YU b l (h x (by simp)).1 (h x (by simp)).2;have ih:=Oc l r (runL b l x).1 (w++(runL b l x).2.1) (if(runL b l x).2.2=⟨#[]⟩ then g else g++[(runL b l x).2.2]) (λy hy=>h y (by simp[hy])) (Ait hw h1.1);rw[runLi];refine⟨ih.1,?_⟩;have:=ih.2;rw[aQ] at this;simp only[aw];omega
def AlT {c:ByteArray} (p:A_) (h:gdT c) (h1:(parseS c).2=true):wrT (rsOf p c).2.1/\(rsOf p c).2.1.size<=360:=by
 obtain⟨h2,h3⟩:=AfH h h1;have:=Oc (she p.bf) (parseS c).1 p.ba ⟨#[]⟩ [] h3 ZZ;refine⟨this.1,?_⟩;have h4:(rsOf p c).2.1.size<=(⟨#[]⟩:ByteArray).size+60*(parseS c).1.length:=this.2;have h5:(⟨#[]⟩:ByteArray).size=0:=rfl;omega
abbrev scrW:ByteArray:=⟨#[115,99,114,105,112,116]⟩
def isS (t:ai):Bool:=decide (t.kind=1)&&decide (t.name=scrW)
def modAt (l:List cW):Bool:=!decide ((findAttr l ⟨#[107,105,110,100]⟩).getD ⟨#[]⟩=⟨#[109,111,100,117,108,101]⟩)||decide ((findAttr l ⟨#[115,114,99]⟩).getD ⟨#[]⟩=⟨#[117,116,105,108]⟩)
def okTk (t:ai):Prop:=gdT t.text/\(isS t=true->modAt t.bq=true)
def Agn (b:UInt8) (s:ByteArray):∃ r,I s=I ((K b s).getD 0 default)++r:=by
 rw[F8];cases hc:GZ b (I s) with
 | none=>exact⟨[],by simp⟩
 | some r=>
  obtain⟨p,q⟩:=r;obtain⟨e,_⟩:=Mq hc;exact⟨b::q,by rw[e];simp[BS]⟩
def K0 (s:ByteArray) (h:(tagO s).2=true):(tagO s).1.text=⟨#[]⟩/\((tagO s).1.kind=1->(tagO s).1.name=(K 32 s).getD 0 default)/\((tagO s).1.kind=1\/(tagO s).1.kind=2):=by
 unfold tagO at *
 split at h
 .exact absurd h (by decide)
 .rename_i h1;split at h
  .rename_i h2;rw[F_ h1,G_ h2];split
   .exact⟨rfl,λe=>absurd (show(2:Int)=1 from e) (by decide),.inr rfl⟩
   .rename_i h3;rw[F_ h3] at h;exact absurd h (by decide)
  .rename_i h2;rw[F_ h1,F_ h2];cases ha:ta ((K 32 s).drop 1) [] with
   | none=>rw[ha] at h;simp[tagFin] at h
   | some ats=>
    rw[ha] at h;simp only[tagFin] at h ⊢;split
    .exact⟨rfl,λ_=>rfl,.inl rfl⟩
    .rename_i h3;rw[F_ h3] at h;exact absurd h (by decide)
def W5 {c:List UInt8} (h:(tagO (ofL c)).2=true) (hs:isS (tagO (ofL c)).1=true):hdB (λy=>y==115) c=true:=by
 simp only[isS,T_,az] at hs;have hn:=(K0 _ h).2.1 hs.1;obtain⟨r,hr⟩:=Agn 32 (ofL c);rw[<-hn,hs.2,BS] at hr;rw[hr];rfl
def wL (l:List UInt8):Nat:=2*l.count 60+(if hdB (λy=>y != 60) l then 1 else 0)
def csN:List UInt8->Nat
 | []=>0
 | x::l=>(if x=60/\hdB (λy=>y==115) l=true then 1 else 0)+csN l
def nScr (l:List ai):Nat:=l.countP isS
def T7:∀ (a c:List UInt8),csN c<=csN (a++c)
 | [],_=>X_ _
 | x::a,c=>by have:=T7 a c;rw[cy,csN];omega
def QU {f:UInt8->Bool} {a c:List UInt8} (h:hdB f a=true):hdB f (a++c)=true:=by
 cases a with
 | nil=>simp[hdB] at h
 | cons x a=>exact h
def Afi (x:ByteArray) (tl:List UInt8):(feedA x).1.length+wL (I (feedA x).2++tl)<=wL (I x++tl)/\nScr (feedA x).1+csN (I (feedA x).2++tl)<=csN (I x++tl):=by
 refine Yx (λl ts r=>ts.length+wL (r++tl)<=wL (l++tl)/\nScr ts+csN (r++tl)<=csN (l++tl)) (λl _=>⟨by simp,by simp[nScr]⟩) (λq _=>⟨by simp,by simp[nScr]⟩) ?_ ?_ x
 .intro p q ts r hp h ih;refine⟨?_,?_⟩
  .have h1:=ih.1;simp only[wL,cy,bK,hdB,List.count_append,List.count_cons] at h1 ⊢;cases p with
   | nil=>exact absurd rfl hp
   | cons y p=>
    have hy:y≠60:=λe=>h (by simp[e])
    simp only[cy,hdB,bne_iff_ne,ne_eq,hy,not_false_eq_true,aD,aw] at h1 ⊢;simp at h1;simp;omega
  .have h1:=ih.2;have h2:=T7 p (60::q++tl);simp only[nScr,List.countP_cons,isS,bK,cy] at h1 h2 ⊢;simp;omega
 .intro c q ts r h ih;refine⟨?_,?_⟩
  .have h1:=ih.1;have h2:wL (q++tl)<=2*(q++tl).count 60+1:=by unfold wL;split<;>omega
   have h3:((if(tagO (ofL c)).2 then[(tagO (ofL c)).1] else[])++ts).length<=1+ts.length:=by split<;>simp<;>omega
   have h4:2*(q++tl).count 60+2<=wL (60::c++62::q++tl):=by unfold wL;simp only[cy,List.count_cons,bK,List.count_append];simp;omega
   omega
  .have h1:=ih.2;have h2:=T7 (c++[62]) (q++tl);have e:60::c++62::q++tl=60::((c++[62])++(q++tl)):=by simp
   rw[e,csN];have h3:nScr ((if(tagO (ofL c)).2 then[(tagO (ofL c)).1] else[])++ts)<=(if(60:UInt8)=60/\hdB (λy=>y==115) ((c++[62])++(q++tl))=true then 1 else 0)+nScr ts:=by
    unfold nScr;rw[List.countP_append];split
    .rename_i ht;by_cases hs:isS (tagO (ofL c)).1=true
     .rw[G_ ⟨rfl,QU (QU (W5 ht hs))⟩];rw[List.countP_cons,G_ hs];simp
     .rw[List.countP_cons,F_ hs];simp
    .simp
   omega
def AeT (x:ByteArray):(feedA x).1.length+(feedA x).2.size<=x.size:=by
 have:=Yx (λl ts r=>ts.length+r.length<=l.length) (λl _=>by simp) (λq _=>by simp)
  (λp q ts r hp h ih=>by have:=List.length_pos_iff.2 hp;simp only[aw,al] at ih ⊢;omega)
  (λc q ts r h ih=>by
   have h3:((if(tagO (ofL c)).2 then[(tagO (ofL c)).1] else[])++ts).length<=1+ts.length:=by split<;>simp<;>omega
   simp only[aw,al] at ih h3 ⊢;omega) x
 simpa only[AU] using this
def Acn (r:ByteArray):(endT r).length<=r.size:=by
 unfold endT;split
 .exact Nat.zero_le _
 .rename_i h;simp only[not_or] at h;have:r.size≠0:=λe=>h.1 (by have:I r=[]:=List.length_eq_zero_iff.1 (by rw[AU];exact e);rw[<-AM r,this];rfl)
  simp;omega
def Tu (x:ByteArray):(toke x).length<=x.size:=by
 unfold toke;have h1:=AeT x;have h2:=Acn (feedA x).2;rw[al];omega
def S9 (x:ByteArray):(feedA x).2.data.getD 0 0=60\/(60:UInt8)∉I (feedA x).2:=by
 have:=Yx (λl ts r=>(ofL r).data.getD 0 0=60\/(60:UInt8)∉r) (λl h=>.inr h) (λq _=>.inl rfl)
  (λp q ts r hp h ih=>ih) (λc q ts r h ih=>ih) x
 simpa only[AM] using this
def Alq (x:ByteArray) (h:wrT x):∀ t,t∈toke x->okTk t/\isS t=false:=by
 have hw:=Yx (λl ts r=>kB l=true->(91:UInt8)∉l->(∀ t,t∈ts->okTk t/\isS t=false)/\(91:UInt8)∉r) (λl _ h1 h2=>⟨by simp,h2⟩) (λq _ h1 h2=>⟨by simp,h2⟩)
  (λp q ts r hp h ih h1 h2=>by
   have i:=ih (IL h1) λe=>h2 (by simp only[ah];exact .inr e);refine⟨λt ht=>?_,i.2⟩;rcases au.1 ht with rfl|ht
   .refine⟨⟨⟨?_,?_⟩,λe=>absurd e (by simp[isS])⟩,by simp[isS]⟩
    .show hB (I (ofL p))=true;rw[BS];exact VS λe=>h2 (by simp[e])
    .show(60:UInt8)∉I (ofL p);rw[BS];exact h
   .exact i.1 t ht)
  (λc q ts r h ih h1 h2=>by
   have i:=ih (IL (a:=60::c++[62]) (by simpa using h1)) λe=>h2 (by simp[e]);refine⟨λt ht=>?_,i.2⟩;rcases ah.1 ht with ht|ht
   .split at ht
    .rename_i hk;simp only[List.mem_singleton] at ht;have hs:isS t=false:=by
      cases hs:isS t with
      | false=>rfl
      | true=>
       rw[ht] at hs;have a1:=W5 hk hs;have a2:hdB (λy=>y != 115) (c++62::q)=true:=by have:=Ajd (l:=c++62::q) (by simpa using h1);exact this
       cases c with
       | nil=>simp[hdB] at a1
       | cons y c=>
        simp only[hdB,cy,bne_iff_ne,da] at a1 a2;exact absurd a1 a2
     refine⟨⟨?_,λe=>absurd e (by rw[hs];decide)⟩,hs⟩;rw[ht,(K0 _ hk).1];exact Ic
    .simp at ht
   .exact i.1 t ht) x h.1 h.2
 intro t ht;unfold toke at ht;rcases ah.1 ht with ht|ht
 .exact hw.1 t ht
 .unfold endT at ht;split at ht
  .simp at ht
  .rename_i h1;simp only[not_or] at h1;simp only[List.mem_singleton] at ht;subst ht;refine⟨⟨⟨VS hw.2,(S9 x).resolve_left h1.2⟩,λe=>absurd e (by simp[isS])⟩,by simp[isS]⟩
def tagsP:List (List UInt8):=[[112],[47,112],[108,105,110,107,32,104,114,101,102,61,115,116,121,108,101],[115,99,114,105,112,116,32,115,114,99,61,97,112,112],[47,115,99,114,105,112,116],[115,99,114,105,112,116],[115,99,114,105,112,116,32,115,114,99,61,99,100,110,47,108,105,98],[115,99,114,105,112,116,32,115,114,99,61,117,116,105,108,32,107,105,110,100,61,109,111,100,117,108,101],[115,99,114,105,112,116,32,115,114,99,61,108,105,98,32,107,105,110,100,61,100,101,102,101,114],[105,109,103,32,115,114,99,61,108,111,103,111],[108,105,110,107,32,104,114,101,102,61,99,100,110,47,115,116,121,108,101],[98],[115,99,114,105,112,116,32,110,111,110,99,101,61,110,55],[115,99,114,105,112,116,32,115,114,99,61,101,118,105,108,47,97,112,112]]
def tgF (l:List UInt8):Bool:=tagsP.any λt=>(t++[62]).isPrefixOf l
def tgE (l:List UInt8):Bool:=tgF l||l==[112]
def tgB (F:List UInt8->Bool):List UInt8->Bool
 | []=>true
 | x::l=>(x != 60||F l)&&tgB F l
def Abc {a:List UInt8} (c:List UInt8) (h:tgF a=true):tgF (a++c)=true:=by
 unfold tgF at *
 obtain⟨t,ht,h1⟩:=bI.1 h;refine bI.2 ⟨t,ht,?_⟩;rw[List.isPrefixOf_iff_prefix] at *
 exact h1.trans (List.prefix_append _ _)
def AdO:∀ {a c:List UInt8},tgB tgF a=true->tgB tgE c=true->tgB tgE (a++c)=true
 | [],_,_,h=>h
 | x::a,c,h,h2=>by simp only[tgB,T_,dt,cy] at h ⊢;refine⟨h.1.imp id λh=>?_,AdO h.2 h2⟩;unfold tgE;rw[Abc c h];rfl
def XN:∀ {a c:List UInt8},tgB tgF a=true->tgB tgF c=true->tgB tgF (a++c)=true
 | [],_,_,h=>h
 | x::a,c,h,h2=>by simp only[tgB,T_,dt,cy] at h ⊢;exact⟨h.1.imp id λh=>Abc c h,XN h.2 h2⟩
def Abn {F:List UInt8->Bool}:∀ {a c:List UInt8},tgB F (a++c)=true->tgB F c=true
 | [],_,h=>h
 | x::a,c,h=>by simp only[tgB,T_,cy] at h;exact Abn h.2
def Aid:(tagsP.all λt=>!(t.contains 62)&&modAt (tagO (ofL t)).1.bq)=true:=by decide +kernel
def AjD {c q:List UInt8} (hc:(62:UInt8)∉c) (h:tgE (c++62::q)=true):modAt (tagO (ofL c)).1.bq=true:=by
 unfold tgE at h;rcases dt _ _▸h with h|h
 .obtain⟨t,ht,h1⟩:=bI.1 h;have h2:=aM.1 Aid t ht;simp only[T_,cO,List.contains_eq_mem,cw] at h2;rw[List.isPrefixOf_iff_prefix] at h1;obtain⟨s,hs⟩:=h1;have e1:=Mb (b:=62) s h2.1;have e2:=Mb (b:=62) q hc;rw[<-hs,bK] at e2;rw[cy,eH] at e2;rw[e1] at e2;simp only[R_,bW] at e2;rw[<-e2.1];exact h2.2
 .simp only[da] at h;cases c with
  | nil=>simp at h
  | cons y c=>simp at h
def pgT (l:List UInt8):Prop:=hB l=true/\tgB tgE l=true
def Ab2 {a c:List UInt8} (h:pgT (a++c)):pgT c:=⟨IL h.1,Abn h.2⟩
def Abw (x:ByteArray) (tl:List UInt8) (h:pgT (I x++tl)):(∀ t,t∈(feedA x).1->okTk t)/\pgT (I (feedA x).2++tl):=by
 refine Yx (λl ts r=>pgT (l++tl)->(∀ t,t∈ts->okTk t)/\pgT (r++tl)) (λl _ h=>⟨by simp,h⟩) (λq _ h=>⟨by simp,h⟩) ?_ ?_ x h
 .intro p q ts r hp h ih h1;have i:=ih (Ab2 (a:=p) (by simpa using h1));refine⟨λt ht=>?_,i.2⟩;rcases au.1 ht with rfl|ht
  .refine⟨⟨?_,?_⟩,λe=>absurd e (by simp[isS])⟩
   .show hB (I (ofL p))=true;rw[BS];exact Qy (y:=60) (c:=q++tl) (by decide) (by simpa using h1.1)
   .show(60:UInt8)∉I (ofL p);rw[BS];exact h
  .exact i.1 t ht
 .intro c q ts r h ih h1;have i:=ih (Ab2 (a:=60::c++[62]) (by simpa using h1));refine⟨λt ht=>?_,i.2⟩;rcases ah.1 ht with ht|ht
  .split at ht
   .rename_i hk;simp only[List.mem_singleton] at ht;refine⟨by rw[ht,(K0 _ hk).1];exact Ic,λ_=>?_⟩;rw[ht];have h2:=h1.2;simp only[cy,tgB,T_,dt,bne_iff_ne,ne_eq,not_true_eq_false,false_or,bK] at h2;exact AjD h h2.1
   .simp at ht
  .exact i.1 t ht
def Ahc (x:ByteArray) (h:pgT (I (feedA x).2)):∀ t,t∈endT (feedA x).2->okTk t/\isS t=false:=by
 intro t ht;unfold endT at ht;split at ht
 .simp at ht
 .rename_i h1;simp only[not_or] at h1;simp only[List.mem_singleton] at ht;subst ht;exact⟨⟨⟨h.1,(S9 x).resolve_left h1.2⟩,λe=>absurd e (by simp[isS])⟩,by simp[isS]⟩
def bOk (b:am):Prop:=(∀ n,n∈b.bj->gdT n.text/\(n.name=scrW->modAt n.bq=true))/\(∀ k,k∈b.bn->0<=k/\k<b.bj.length)/\b.bn.getD 0 default=0/\0<b.bn.length
def scNode (b:am) (k:Int):Bool:=decide (0<=k/\k<b.bj.length)&&decide ((b.bj.getD k.toNat default).name=scrW)
def openS (b:am):Nat:=b.bn.countP (scNode b)
def Yv {b:am} {n:cT} {o:List Int} {k:Int} (h:0<=k/\k<b.bj.length):scNode ⟨b.bj++[n],o⟩ k=scNode b k:=by
 unfold scNode;have e:(b.bj++[n]).getD k.toNat default=b.bj.getD k.toNat default:=by rw[bB,bB,cN O]
 rw[e];have e2:(0<=k/\k<((b.bj++[n]).length:Int)):=by rw[al];omega
 rw[cP h,cP e2]
def Jl {b:am} (n:cT) (h:bOk b):openS ⟨b.bj++[n],b.bn⟩=openS b:=by
 unfold openS;exact List.countP_congr λk hk=>by rw[Yv (h.2.1 k hk)]
def VL {b:am} {n:cT} (h:bOk b) (h1:gdT n.text) (h2:n.name=scrW->modAt n.bq=true):bOk ⟨b.bj++[n],b.bn⟩:=by
 refine⟨λx hx=>?_,λk hk=>?_,h.2.2⟩
 .rcases ah.1 hx with hx|hx
  .exact h.1 x hx
  .rw[List.mem_singleton.1 hx];exact⟨h1,h2⟩
 .have:=h.2.1 k hk;simp only[al];omega
def MV (b:am) (n:ByteArray) (h:0<b.bn.length):∀ k,k<=b.bn.length->∃ j,closeN b n k=b.bn.take j/\1<=j
 | 0,_=>⟨b.bn.length,by rw[cC (X_ _)];rfl,h⟩
 | 1,_=>⟨b.bn.length,by rw[cC (X_ _)];rfl,h⟩
 | m+2,hk=>by
  rw[closeN];split
  .exact⟨m+1,rfl,O⟩
  .exact MV b n h (m+1) O
def AcR {b:am} (n:ByteArray) (h:bOk b):bOk (closeB b n)/\openS (closeB b n)<=openS b:=by
 obtain⟨j,e,hj⟩:=MV b n h.2.2.2 b.bn.length (X_ _);unfold closeB;rw[e];refine⟨⟨h.1,λk hk=>h.2.1 k (fw hk),?_,?_⟩,?_⟩
 .have e1:=h.2.2.1;have e2:=h.2.2.2;rw[bB] at e1 ⊢;show((b.bn.take j)[0]?).getD default=0;rw[fC,G_ O];exact e1
 .show 0<(b.bn.take j).length;rw[cZ];have:=h.2.2.2;omega
 .exact List.Sublist.countP_le (List.take_sublist _ _)
def Aed {b:am} {n:ByteArray} (h:bOk b) (h1:1<=las b) (hn:n=scrW) (h3:(b.bj.getD (las b).toNat default).name=scrW):openS (closeB b n)+1<=openS b:=by
 have hl:=h.2.2.2;have h2:2<=b.bn.length:=by
  rcases Nat.lt_or_ge b.bn.length 2 with h4|h4
  .exfalso;have e:b.bn.length-1=0:=O
   unfold las at h1;rw[e,h.2.2.1] at h1;omega
  .exact h4
 obtain⟨m,hm⟩:∃ m,b.bn.length=m+2:=⟨b.bn.length-2,O⟩;have el:b.bn.getD (m+1) default=las b:=by unfold las;rw[hm];rfl
 have hin:las b∈b.bn:=by rw[<-el];exact Ae O
 have hr:=h.2.1 _ hin;have ec:closeN b n b.bn.length=b.bn.take (m+1):=by rw[hm,closeN,G_];rw[el,hn];exact⟨hr.1,hr.2,h3⟩
 have es:b.bn=b.bn.take (m+1)++[las b]:=by have:=Q_ (l:=b.bn) (i:=m+1) O;rw[el] at this;rw[<-this,cC O]
 have eq:openS b=(b.bn.take (m+1)).countP (scNode b)+1:=by
  unfold openS;rw[cG (List.countP (scNode b)) es,List.countP_append];have:scNode b (las b)=true:=by unfold scNode;rw[h3,cP hr];rfl
  rw[List.countP_singleton,G_ this]
 rw[eq];unfold openS closeB;rw[ec];exact X_ _
def SY {b:am} {t:ai} (h:bOk b) (ht:okTk t):bOk (addT b t).1/\openS (addT b t).1<=openS b+(if isS t=true then 1 else 0):=by
 unfold addT;split
 .have:=AcR t.name h;exact⟨this.1,aP this.2 (bN _ _)⟩
 .split
  .rename_i h1 h2;split
   .rename_i h3;have hb:=VL (n:=⟨t.name,⟨#[]⟩,las b,t.bq⟩) h Ic λe=>ht.2 (by simp only[isS,T_,az];exact⟨h3,e⟩);have ho:=Jl (b:=b) ⟨t.name,⟨#[]⟩,las b,t.bq⟩ h;split
    .exact⟨hb,by rw[ho];omega⟩
    .refine⟨⟨hb.1,λk hk=>?_,?_,?_⟩,?_⟩
     .rcases ah.1 hk with hk|hk
      .exact hb.2.1 k hk
      .rw[List.mem_singleton.1 hk];simp only[al,aw];omega
     .have e1:=h.2.2.1;have e2:=h.2.2.2;show(b.bn++[(b.bj.length:Int)]).getD 0 default=0;rw[bB] at e1 ⊢;rw[cN e2];exact e1
     .show 0<(b.bn++[(b.bj.length:Int)]).length;rw[al];omega
     .have e:openS ⟨b.bj++[⟨t.name,⟨#[]⟩,las b,t.bq⟩],b.bn++[(b.bj.length:Int)]⟩=openS ⟨b.bj++[⟨t.name,⟨#[]⟩,las b,t.bq⟩],b.bn⟩+(if scNode ⟨b.bj++[⟨t.name,⟨#[]⟩,las b,t.bq⟩],b.bn++[(b.bj.length:Int)]⟩ (b.bj.length:Int)=true then 1 else 0):=by unfold openS;rw[List.countP_append,List.countP_singleton];rfl
      rw[e,ho];have:(if scNode ⟨b.bj++[⟨t.name,⟨#[]⟩,las b,t.bq⟩],b.bn++[(b.bj.length:Int)]⟩ (b.bj.length:Int)=true then 1 else 0)<=(if isS t=true then 1 else 0):=by
       split
       .rename_i hs;rw[G_];exact X_ _;simp only[scNode,T_,az] at hs;have e2:=hs.2;rw[eo,bB,cX (X_ _),Nat.sub_self] at e2;simp only[isS,T_,az];exact⟨h3,e2⟩
       .exact Nat.zero_le _
      omega
   .have hb:=VL (n:=⟨⟨#[]⟩,t.text,las b,[]⟩) h ht.1 λe=>absurd (show(⟨#[]⟩:ByteArray)=scrW from e) (by decide);exact⟨hb,by have:=Jl (b:=b) ⟨⟨#[]⟩,t.text,las b,[]⟩ h;rw[this];omega⟩
  .exact⟨h,bN _ _⟩
def Zt {b:am} (l:List bF) (x:bU) (h:bOk b):bOk (runL b l x).1/\openS (runL b l x).1=openS b:=by
 unfold runL;split
 .exact⟨h,rfl⟩
 .split
  .split
   .exact⟨VL h Ic λ_=>by rfl,Jl _ h⟩
   .exact⟨h,rfl⟩
  ·(repeat' split)<;>exact⟨h,rfl⟩
def JK (l:List bF):∀ (r:List bU) {b:am} (w:ByteArray) (g:List ByteArray),bOk b->bOk (runLi l r b w g).1/\openS (runLi l r b w g).1=openS b
 | [],b,w,g,h=>⟨h,rfl⟩
 | x::r,b,w,g,h=>by have h1:=Zt l x h;rw[runLi,<-h1.2];exact JK l r _ _ h1.1
def R5 (n:Int):∀ (l:List cT) (s:ByteArray),(∀ x,x∈l->gdT x.text)->gdT s->gdT (tex n l s)
 | [],s,_,h=>h
 | x::l,s,hl,h=>by
  rw[tex];refine R5 n l _ (λy hy=>hl y (by simp[hy])) ?_;split
  .exact UA h (hl x (by simp))
  .exact h
structure PI (p:A_):Prop where
 b:bOk p.ba
 q:∀ t,t∈p.bp->okTk t
 sl:p.bf.length<=20
 el:p.bh.length<=20
 sb:∀ s,s∈p.bf->s.done=true->s.code=1->s.mode=3->gdT s.body
 bl:p.block≠0->∃ k:Nat,p.block=k+1/\k<p.bf.length/\(p.bf.getD k default).mode=3
 ib:p.inline=0\/p.block=0
 df:0<=p.bo
 en:0<=p.bu
def scP (p:A_):Nat:=nScr p.bp+openS p.ba+(if p.inline=0/\p.block=0 then 0 else 1)
def N (p:A_):Nat:=p.bp.length+362*scP p+(20-p.bo).toNat+(20-p.bu).toNat+(if p.loaded=true then 0 else 1)
def I8 (p:A_) (m:Int) (to dg:ByteArray) (n:Int):addS p m to dg n=(p,-1)\/∃ s,addS p m to dg n=({ p with bf:=p.bf++[s]},(p.bf.length:Int))/\s=newS p m to dg n/\s.mode=m/\(s.done=true->s.code=2)/\p.bf.length<20:=by
 unfold addS;split
 .rename_i h;refine .inr ⟨_,rfl,rfl,?_,?_,h.1⟩
  .unfold newS;split<;>rfl
  .unfold newS;split
   .exact λe=>absurd (show false=true from e) (by decide)
   .exact λ_=>rfl
 .exact .inl rfl
def Aa5 {p:A_} (h:PI p) {s:av} (h1:s.done=true->s.code=2) (h2:p.bf.length<20):PI { p with bf:=p.bf++[s]} where
 b:=h.b
 q:=h.q
 sl:=by simp only[al,dZ];omega
 el:=h.el
 sb:=λx hx a1 a2 a3=>by
  rcases ah.1 hx with hx|hx
  .exact h.sb x hx a1 a2 a3
  .rw[List.mem_singleton.1 hx] at a1 a2;rw[h1 a1] at a2;exact absurd a2 (by decide)
 bl:=λe=>by obtain⟨k,e1,e2,e3⟩:=h.bl e;refine⟨k,e1,by simp only[al];omega,?_⟩;rw[bB] at e3 ⊢;show((p.bf++[s])[k]?.getD default).mode=3;rw[cN e2];exact e3
 ib:=h.ib
 df:=h.df
 en:=h.en
def G7 {p:A_} (h:PI p) (m:Int) (to dg:ByteArray) (n:Int):PI (addS p m to dg n).1/\N (addS p m to dg n).1=N p/\(addS p m to dg n).1.block=p.block/\(addS p m to dg n).1.inline=p.inline:=by
 rcases I8 p m to dg n with e|⟨s,e,_,_,h2,h3⟩
 .rw[e];exact⟨h,rfl,rfl,rfl⟩
 .rw[e];exact⟨Aa5 h h2 h3,rfl,rfl,rfl⟩
def Yj {p:A_} (h:PI p) (t:ai) (n:Int):PI (ele p t n)/\N (ele p t n)=N p:=by
 unfold ele;split
 .exact⟨(G7 h _ _ _ _).1,(G7 h _ _ _ _).2.1⟩
 .split
  .exact⟨(G7 h _ _ _ _).1,(G7 h _ _ _ _).2.1⟩
  .exact⟨h,rfl⟩
def UG {p:A_} (h:PI p) (m:List Z_):PI { p with bi:=m }:=⟨h.b,h.q,h.sl,h.el,h.sb,h.bl,h.ib,h.df,h.en⟩
def AlS (p:A_) (a:HO):∃ m,askM p a={ p with bi:=m }:=by
 unfold askM;split
 .exact⟨p.bi,rfl⟩
 .exact⟨_,rfl⟩
def AgI {p:A_} (h:PI p) (to:ByteArray):PI (addE p to)/\N (addE p to)=N p:=by
 unfold addE;split
 .rename_i h1;obtain⟨m,e⟩:=AlS p (par to p.addr.host).1;rw[e];exact⟨⟨h.b,h.q,h.sl,by simp only[al,dZ];omega,h.sb,h.bl,h.ib,h.df,h.en⟩,rfl⟩
 .exact⟨h,rfl⟩
def Abq {p:A_} (h:PI p) (h0:p.inline=0/\p.block=0) {n:Int} (hn:1<=n):PI (scri p n)/\N (scri p n)<=N p+362:=by
 unfold scri;split
 .split
  .refine⟨⟨h.b,h.q,h.sl,h.el,h.sb,h.bl,.inr h0.2,h.df,h.en⟩,?_⟩;simp only[N,scP];have:(if n=0/\p.block=0 then 0 else 1)<=1:=by split<;>omega
   omega
  .exact⟨h,O⟩
 .split
  .have:=G7 h 4 ((findAttr (p.ba.bj.getD n.toNat default).bq ⟨#[115,114,99]⟩).getD ⟨#[]⟩) ((findAttr (p.ba.bj.getD n.toNat default).bq ⟨#[100,105,103,101,115,116]⟩).getD ⟨#[]⟩) n;exact⟨this.1,by rw[this.2.1];omega⟩
  .split
   .have:=AgI h ((findAttr (p.ba.bj.getD n.toNat default).bq ⟨#[115,114,99]⟩).getD ⟨#[]⟩);exact⟨this.1,by rw[this.2];omega⟩
   .rcases I8 p 3 ((findAttr (p.ba.bj.getD n.toNat default).bq ⟨#[115,114,99]⟩).getD ⟨#[]⟩) ((findAttr (p.ba.bj.getD n.toNat default).bq ⟨#[100,105,103,101,115,116]⟩).getD ⟨#[]⟩) n with e|⟨s,e,_,e1,e2,e3⟩
    .rw[e];refine⟨⟨h.b,h.q,h.sl,h.el,h.sb,λe=>absurd (show(-1:Int)+1=0 from rfl) e,.inl h0.1,h.df,h.en⟩,?_⟩;simp only[N,scP];have:(if p.inline=0/\(-1:Int)+1=0 then 0 else 1)<=1:=by split<;>omega
     omega
    .rw[e];have h1:=Aa5 h e2 e3;refine⟨⟨h.b,h.q,h1.sl,h.el,h1.sb,λ_=>⟨p.bf.length,rfl,by simp,by simp[e1]⟩,.inl h0.1,h.df,h.en⟩,?_⟩;simp only[N,scP];have:(if p.inline=0/\(p.bf.length:Int)+1=0 then 0 else 1)<=1:=by split<;>omega
     omega
def AeC {p:A_} (h:PI p) (h0:p.inline=0/\p.block=0) (hq:0<p.bp.length):PI (taken p (p.bp.getD 0 default))/\N (taken p (p.bp.getD 0 default))+362*(openS p.ba+(if isS (p.bp.getD 0 default)=true then 1 else 0))+1=N p+362*openS (addT p.ba (p.bp.getD 0 default)).1:=by
 obtain⟨t,l,hl⟩:∃ t l,p.bp=t::l:=by
  cases hc:p.bp with
  | nil=>rw[hc] at hq;simp at hq
  | cons t l=>exact⟨t,l,rfl⟩
 have ht:p.bp.getD 0 default=t:=by rw[hl];rfl
 rw[ht];have hk:=h.q t (by rw[hl];simp);have hb:=SY h.b hk;refine⟨⟨hb.1,λx hx=>h.q x (ft hx),h.sl,h.el,h.sb,h.bl,h.ib,h.df,h.en⟩,?_⟩;have e1:nScr p.bp=nScr l+(if isS t=true then 1 else 0):=by rw[hl];unfold nScr;rw[List.countP_cons]
 have e2:p.bp.drop 1=l:=by rw[hl];rfl
 have e3:p.bp.length=l.length+1:=by rw[hl];rfl
 have e4:scP (taken p t)=nScr l+openS (addT p.ba t).1+(if p.inline=0/\p.block=0 then 0 else 1):=by show nScr (p.bp.drop 1)+_+_=_;rw[e2];rfl
 have e5:N (taken p t)=l.length+362*scP (taken p t)+(20-p.bo).toNat+(20-p.bu).toNat+(if p.loaded=true then 0 else 1):=by show(p.bp.drop 1).length+_+_+_+_=_;rw[e2];rfl
 rw[e5,e4];unfold N scP;rw[e1,e3];omega
def J3 {p:A_} {t:ai} (h:isScri p t=true):t.kind=2/\t.name=scrW/\1<=las p.ba/\las p.ba<p.ba.bj.length/\(p.ba.bj.getD (las p.ba).toNat default).name=scrW:=by
 simp only[isScri,T_,az] at h;exact⟨h.1,h.2.1,h.2.2.1.2.1,h.2.2.1.2.2,h.2.2.2⟩
def Ajg {p:A_} (h:PI p) (h2:(takeToke p).2=true):PI (takeToke p).1/\N (takeToke p).1<N p:=by
 unfold takeToke at *
 split at h2
 .exact absurd (show false=true from h2) (by decide)
 .rename_i hc;simp only[not_or] at hc;have hq:0<p.bp.length:=Nat.pos_of_ne_zero hc.1;have h0:p.inline=0/\p.block=0:=⟨Decidable.not_not.1 hc.2.2,Decidable.not_not.1 hc.2.1⟩;rw[F_ (by simp only[not_or];exact hc)];have ht:=AeC h h0 hq;have hk:okTk (p.bp.getD 0 default):=h.q _ (Ae hq);have hb:=(SY h.b hk).2;simp only;unfold takeT;split
  .have he:=Yj ht.1 (p.bp.getD 0 default) (addT p.ba (p.bp.getD 0 default)).2;exact⟨he.1,by rw[he.2];omega⟩
  .split
   .rename_i hs;obtain⟨s1,s2,s3,s4,s5⟩:=J3 hs;have he:=Abq ht.1 h0 s3;refine⟨he.1,?_⟩;have hp:=Aed h.b s3 s2 s5;have ha:(addT p.ba (p.bp.getD 0 default)).1=closeB p.ba (p.bp.getD 0 default).name:=by unfold addT;rw[G_ s1]
    rw[ha] at ht;have hi:isS (p.bp.getD 0 default)=false:=by unfold isS;rw[s1];rfl
    rw[hi] at ht;have h3:=ht.2;simp only[cD,aS,Nat.add_zero] at h3;have h4:=he.2;omega
   .exact⟨ht.1,O⟩
def AlU (p:A_) (c:ByteArray) (h:bOk p.ba):bOk (rsOf p c).1/\openS (rsOf p c).1=openS p.ba:=JK _ _ _ _ h
def Ag4 {p:A_} (h:PI p) {c:ByteArray} (hc:gdT c) (w:Bool):PI (runC p c w)/\N (runC p c w)<=N p+(if w=true then 360 else 0)/\(runC p c w).block=p.block/\(runC p c w).inline=p.inline/\scP (runC p c w)=scP p:=by
 unfold runC;split
 .rename_i h1;have hr:=AlU p c h.b;have hw:=AlT p hc h1;have ht:=Alq _ hw.1;have hl:=Tu (rsOf p c).2.1;have hn:nScr (toke (rsOf p c).2.1)=0:=by unfold nScr;rw[List.countP_eq_zero];intro t hm;rw[(ht t hm).2];decide
  cases w with
  | false=>
   refine⟨⟨hr.1,h.q,h.sl,h.el,h.sb,h.bl,h.ib,h.df,h.en⟩,?_,rfl,rfl,?_⟩
   .simp only[N,scP,hr.2,cD,aS];omega
   .simp only[scP,hr.2,cD,aS]
  | true=>
   refine⟨⟨hr.1,λt hm=>?_,h.sl,h.el,h.sb,h.bl,h.ib,h.df,h.en⟩,?_,rfl,rfl,?_⟩
   .rcases ah.1 hm with hm|hm
    .exact(ht t hm).1
    .exact h.q t hm
   .have e:nScr (toke (rsOf p c).2.1++p.bp)=nScr p.bp:=by unfold nScr at *;rw[List.countP_append,hn,cM]
    simp only[N,scP,hr.2,aD,e,al];omega
   .have e:nScr (toke (rsOf p c).2.1++p.bp)=nScr p.bp:=by unfold nScr at *;rw[List.countP_append,hn,cM]
    simp only[scP,hr.2,aD,e]
 .refine⟨⟨h.b,h.q,h.sl,h.el,h.sb,h.bl,h.ib,h.df,h.en⟩,?_,rfl,rfl,rfl⟩;simp only[N,scP];omega
def AcV {p:A_} (h:PI p) (h0:p.inline≠0) (h2:(stepI p).2=true):PI (stepI p).1/\N (stepI p).1<N p:=by
 unfold stepI at *
 split at h2
 .rename_i hs;rw[G_ hs];have hr:=Ag4 h (R5 p.inline p.ba.bj ⟨#[]⟩ (λx hx=>(h.b.1 x hx).1) Ic) true;have hb:p.block=0:=h.ib.resolve_left h0;refine⟨⟨hr.1.b,hr.1.q,hr.1.sl,hr.1.el,hr.1.sb,hr.1.bl,.inl rfl,hr.1.df,hr.1.en⟩,?_⟩;have h3:=hr.2.1;have h4:=hr.2.2.1;have h5:=hr.2.2.2.1;simp only[N,scP,aD] at h3 ⊢;rw[h4,h5] at h3;rw[h4];rw[G_ ⟨trivial,hb⟩];have e1:(if p.inline=0/\p.block=0 then 0 else 1)=1:=F_ λe=>h0 e.1
  rw[e1] at h3 ⊢;omega
 .exact absurd (show false=true from h2) (by decide)
def R3 {p:A_} (h:PI p) (h0:p.block≠0):PI { p with block:=0 }/\N { p with block:=0 }+362=N p:=by
 have hi:p.inline=0:=(h.ib.symm).resolve_left h0;refine⟨⟨h.b,h.q,h.sl,h.el,h.sb,λe=>absurd rfl e,.inr rfl,h.df,h.en⟩,?_⟩;simp only[N,scP];rw[G_ ⟨hi,trivial⟩,F_ (c:=p.inline=0/\p.block=0) λe=>h0 e.2];omega
def AgV {p:A_} (h:PI p) (h0:p.block≠0) (h2:(stepB p).2=true):PI (stepB p).1/\N (stepB p).1<N p:=by
 have hz:=R3 h h0;unfold stepB at *
 split at h2
 .rename_i hs;rw[G_ hs];exact⟨hz.1,by have:=hz.2;simp only;omega⟩
 .rename_i hs;rw[F_ hs];split at h2
  .exact absurd (show false=true from h2) (by decide)
  .rename_i h3;rw[F_ h3];split
   .rename_i h4;obtain⟨k,k1,k2,k3⟩:=h.bl h0;have hk:blk p=k:=by unfold blk;rw[k1,AE ⟨O,by have:=h.sl;omega⟩];omega
    have hd:(p.bf.getD k default).done=true:=by simp only[not_or] at h3;rw[hk,eo] at h3;exact(Bool.not_eq_false _).mp h3.1
    rw[hk,eo] at h4 ⊢;have hb:=h.sb _ (Ae k2) hd h4 k3;have hr:=Ag4 h hb true;have hz2:=R3 hr.1 (by rw[hr.2.2.1];exact h0);refine⟨hz2.1,?_⟩;have h6:=hz2.2;have h7:=hr.2.1;simp only[aD] at h7;simp only;omega
   .exact⟨hz.1,by have:=hz.2;simp only;omega⟩
def Z9 {p:A_} (h:PI p) (h2:(stepP p).2=true):PI (stepP p).1/\N (stepP p).1<N p:=by
 unfold stepP at *
 split at h2
 .rename_i h0;rw[G_ h0];exact AcV h h0 h2
 .rename_i h0;rw[F_ h0];split at h2
  .rename_i h1;rw[G_ h1];exact AgV h h1 h2
  .rename_i h1;rw[F_ h1];exact Ajg h h2
def Aji {p:A_} (h:PI p) (c:ByteArray):PI (runC p c false)/\N (runC p c false)=N p:=by
 unfold runC;split
 .have hr:=AlU p c h.b;exact⟨⟨hr.1,h.q,h.sl,h.el,h.sb,h.bl,h.ib,h.df,h.en⟩,by simp only[N,scP,hr.2,cD,aS]⟩
 .exact⟨⟨h.b,h.q,h.sl,h.el,h.sb,h.bl,h.ib,h.df,h.en⟩,rfl⟩
def AhU {p:A_} (h:PI p) (s:ByteArray):PI (say p s)/\N (say p s)=N p:=by
 unfold say;split
 .exact⟨⟨h.b,h.q,h.sl,h.el,h.sb,h.bl,h.ib,h.df,h.en⟩,rfl⟩
 .exact⟨h,rfl⟩
def AaJ {p q:A_} (h:PI q) (a:HO):PI (enter1 p q a)/\N (enter1 p q a)=N q:=by
 unfold enter1;split
 .exact⟨h,rfl⟩
 .have hr:bOk (entRun p q a).1/\openS (entRun p q a).1=openS q.ba:=JK _ _ _ _ h.b;exact⟨⟨hr.1,h.q,h.sl,h.el,h.sb,h.bl,h.ib,h.df,h.en⟩,by simp only[N,scP,hr.2]⟩
def N3 {p:A_}:∀ (l:List HO) {q:A_},PI q->PI (enterA p q l)/\N (enterA p q l)=N q
 | [],q,h=>⟨h,rfl⟩
 | a::l,q,h=>by have h1:=AaJ (p:=p) h a;have h2:=N3 (p:=p) l h1.1;exact⟨h2.1,h2.2.trans h1.2⟩
def AeZ {p:A_} (h:PI p) (a:HO):PI (enter p a)/\N (enter p a)=N p:=by
 unfold enter;split
 .exact AhU h _
 .exact N3 _ h
def FY (p:A_) (a:HO):(enter p a).bo=p.bo/\(enter p a).bu=p.bu/\(enter p a).loaded=p.loaded/\(enter p a).bf=p.bf/\(enter p a).bi=p.bi/\(enter p a).bh=p.bh/\(enter p a).bp=p.bp/\(enter p a).block=p.block/\(enter p a).inline=p.inline/\(enter p a).addr=p.addr/\(enter p a).bm=p.bm/\(enter p a).ended=p.ended/\(enter p a).tok=p.tok:=by
 have h:∀ (l:List HO) (q:A_),(enterA p q l).bo=q.bo/\(enterA p q l).bu=q.bu/\(enterA p q l).loaded=q.loaded/\(enterA p q l).bf=q.bf/\(enterA p q l).bi=q.bi/\(enterA p q l).bh=q.bh/\(enterA p q l).bp=q.bp/\(enterA p q l).block=q.block/\(enterA p q l).inline=q.inline/\(enterA p q l).addr=q.addr/\(enterA p q l).bm=q.bm/\(enterA p q l).ended=q.ended/\(enterA p q l).tok=q.tok:=by
  intro l
  induction l with
  | nil=>intro q;exact⟨rfl,rfl,rfl,rfl,rfl,rfl,rfl,rfl,rfl,rfl,rfl,rfl,rfl⟩
  | cons b l ih=>
   intro q;have h2:=ih (enter1 p q b);have e:enterA p q (b::l)=enterA p (enter1 p q b) l:=rfl;rw[e];unfold enter1 at h2 ⊢;split at h2
   .rename_i h3;rw[G_ h3];exact h2
   .rename_i h3;rw[F_ h3];exact h2
 unfold enter;split
 .unfold say;split<;>exact⟨rfl,rfl,rfl,rfl,rfl,rfl,rfl,rfl,rfl,rfl,rfl,rfl,rfl⟩
 .exact h _ _
def Z6 (p:A_) (h:PI p):(defe p).length<=20:=aP (DJ _ _ _) h.sl
def AmP (p:A_) (d:Int):N { p with bo:=d }+(20-p.bo).toNat=N p+(20-d).toNat:=by simp only[N,scP];omega
def Amq (p:A_) (d:Int):N { p with bu:=d }+(20-p.bu).toNat=N p+(20-d).toNat:=by simp only[N,scP];omega
def AmQ {p:A_} (h:p.loaded=false):N { p with loaded:=true }+1=N p:=by simp only[N,scP,h,cD,aS,aD]
def AhT {p q:A_} (hq:q.bo=p.bo) (h:N q=N p) (h0:0<=p.bo) (h1:p.bo<20):N { q with bo:=p.bo+1 }<N p:=by
 have:=AmP q (p.bo+1);rw[hq] at this;omega
def AlO {p q:A_} (hq:q.bu=p.bu) (h:N q=N p) (h0:0<=p.bu) (h1:p.bu<20):N { q with bu:=p.bu+1 }<N p:=by
 have:=Amq q (p.bu+1);rw[hq] at this;omega
def Al9 {p q:A_} (hq:q.loaded=false) (h:N q=N p):N { q with loaded:=true }<N p:=by
 have:=AmQ hq;omega
def Ajj {p:A_} (h:PI p) (h2:(stepT p).2=true):PI (stepT p).1/\N (stepT p).1<N p:=by
 unfold stepT at *
 split at h2
 .exact absurd (show false=true from h2) (by decide)
 .rename_i h0;rw[F_ h0];simp only[not_or] at h0;have hl:p.loaded=false:=by cases hp:p.loaded with|false=>rfl|true=>exact absurd hp h0.2.1
  split at h2
  .rename_i h1;rw[G_ h1];have hd:=Z6 p h;have h3:=h.df;unfold tai at *
   split at h2
   .exact absurd (show false=true from h2) (by decide)
   .rename_i h4;rw[F_ h4];split
    .have hr:=Aji h (defS p).body;have hz:(runC p (defS p).body false).bo=p.bo:=by unfold runC;split<;>rfl
     refine⟨⟨hr.1.b,hr.1.q,hr.1.sl,hr.1.el,hr.1.sb,hr.1.bl,hr.1.ib,by show 0<=p.bo+1;omega,hr.1.en⟩,?_⟩;exact AhT hz hr.2 h3 O
    .refine⟨⟨h.b,h.q,h.sl,h.el,h.sb,h.bl,h.ib,by show 0<=p.bo+1;omega,h.en⟩,?_⟩;exact AhT rfl rfl h3 O
  .rename_i h1;rw[F_ h1];split at h2
   .rename_i h3;rw[G_ h3];unfold tailE at *
    split at h2
    .exact absurd (show false=true from h2) (by decide)
    .rename_i h4;rw[F_ h4];have hr:=AeZ h (entN p);have hz:=(FY p (entN p)).2.1;have he:=h.en;have hel:=h.el;refine⟨⟨hr.1.b,hr.1.q,hr.1.sl,hr.1.el,hr.1.sb,hr.1.bl,hr.1.ib,hr.1.df,by show 0<=p.bu+1;omega⟩,?_⟩;exact AlO hz hr.2 he O
   .rename_i h3;rw[F_ h3];split at h2
    .exact absurd (show false=true from h2) (by decide)
    .rename_i h4;rw[F_ h4];have hr:=AhU h ⟨#[108,111,97,100]⟩;have hz:(say p ⟨#[108,111,97,100]⟩).loaded=false:=by unfold say;split<;>exact hl
     refine⟨⟨hr.1.b,hr.1.q,hr.1.sl,hr.1.el,hr.1.sb,hr.1.bl,hr.1.ib,hr.1.df,hr.1.en⟩,?_⟩;exact Al9 hz hr.2
def My {p:A_} (h:PI p) (h2:(step1 p).2=true):PI (step1 p).1/\N (step1 p).1<N p:=by
 unfold step1 at *
 split at h2
 .rename_i h3;rw[G_ h3];exact Z9 h h3
 .rename_i h3;rw[F_ h3];exact Ajj h h2
def Acp:∀ (n:Nat) {p:A_},PI p->PI (adv n p)/\N (adv n p)<=N p/\(N p<=n->(step1 (adv n p)).2=false)
 | 0,p,h=>by
  refine⟨h,X_ _,λhn=>?_⟩;cases hs:(step1 p).2 with
  | false=>exact hs
  | true=>have:=My h hs;omega
 | n+1,p,h=>by
  rw[adv];split
  .rename_i hs;have h1:=My h hs;have ih:=Acp n h1.1;exact⟨ih.1,O,λhn=>ih.2.2 O⟩
  .rename_i hs;exact⟨h,X_ _,λ_=>by simpa using hs⟩
def insM (n:Z_):List Z_->List Z_
 | []=>[n]
 | x::l=>if cmp x.to n.to<0 then x::insM n l else if x.to=n.to then x::l else n::x::l
def Abv (n:Z_):∀ l:List Z_,(if ask n.to l<l.length/\(l.getD (ask n.to l) default).to=n.to then l else l.take (ask n.to l)++n::l.drop (ask n.to l))=insM n l
 | []=>by simp[ask,insM]
 | x::l=>by
  have ih:=Abv n l;rw[ask,insM];by_cases h:cmp x.to n.to<0
  .rw[G_ h,G_ h,<-ih];have e:(x::l).getD (ask n.to l+1) default=l.getD (ask n.to l) default:=rfl;rw[e];by_cases h2:ask n.to l<l.length/\(l.getD (ask n.to l) default).to=n.to
   .rw[G_ h2,G_ ⟨by simp only[aw];omega,h2.2⟩]
   .rw[F_ h2,F_ λh3=>h2 ⟨by have:=h3.1;simp only[aw] at this;omega,h3.2⟩];rfl
  .rw[F_ h,F_ h];have e:(x::l).getD 0 default=x:=rfl;rw[e];by_cases h2:x.to=n.to
   .rw[G_ h2,G_ ⟨by simp,h2⟩]
   .rw[F_ h2,F_ λh3=>h2 h3.2];rfl
def Hj (p:A_) (a:HO):(newM p a).to=a:=by unfold newM;split<;>rfl
def LQ (p:A_) (a:HO):askM p a={ p with bi:=insM (newM p a) p.bi }:=by
 have:=Abv (newM p a) p.bi;rw[Hj] at this;rw[<-this];unfold askM;split<;>rfl
def Fh {n x:Z_}:∀ {l:List Z_},x∈insM n l->x∈l\/x=n
 | [],h=>.inr (List.mem_singleton.1 h)
 | y::l,h=>by
  rw[insM] at h;split at h
  .rcases au.1 h with h|h
   .exact .inl (by simp[h])
   .exact(Fh h).imp (λh=>by simp[h]) id
  .split at h
   .exact .inl h
   .rcases au.1 h with h|h
    .exact .inr h
    .exact .inl h
def RK {n x:Z_}:∀ {l:List Z_},x∈l->x∈insM n l
 | y::l,h=>by
  rw[insM];split
  .rcases au.1 h with h|h
   .simp[h]
   .simp[RK h]
  .split
   .exact h
   .exact cY _ h
def XE (n:Z_):∀ l:List Z_,n.to∈(insM n l).map (·.to)
 | []=>by simp[insM]
 | y::l=>by
  rw[insM];split
  .simp only[aY,au];exact .inr (XE n l)
  .split
   .rename_i h;simp[h]
   .simp
abbrev stM (l:List Z_):Prop:=Ji (l.map (·.to))
def JO (n:Z_):∀ {l:List Z_},stM l->stM (insM n l)
 | [],_=>by simp[insM,stM,Ji]
 | y::l,h=>by
  unfold stM Ji at h;rw[aY,List.pairwise_cons] at h;rw[insM];split
  .rename_i h1;show List.Pairwise _ (List.map _ (y::insM n l));rw[aY,List.pairwise_cons];refine⟨λa ha=>?_,JO n h.2⟩;obtain⟨x,hx,rfl⟩:=bM.1 ha;rcases Fh hx with hx|hx
   .exact h.1 _ (List.mem_map_of_mem hx)
   .rw[hx];exact h1
  .split
   .show List.Pairwise _ (List.map _ (y::l));rw[aY,List.pairwise_cons];exact h
   .rename_i h1 h2;have h3:cmp n.to y.to<0:=by
     have e:=Fx y.to n.to;have e2:cmp y.to n.to≠0:=λe=>h2 (FA.1 e)
     omega
    show List.Pairwise _ (List.map _ (n::y::l));rw[aY,List.pairwise_cons,aY,List.pairwise_cons];refine⟨λa ha=>?_,h⟩;rcases au.1 ha with ha|ha
    .rw[ha];exact h3
    .exact I3 h3 (h.1 a ha)
def Mf {J:Type} [DecidableEq J]:∀ {l m:List J},l.Nodup->(∀ x,x∈l->x∈m)->l.length<=m.length
 | [],m,_,_=>Nat.zero_le _
 | x::l,m,h,hs=>by
  rw[List.nodup_cons] at h;have ih:=Mf (m:=m.erase x) h.2 λy hy=>by
   rw[List.mem_erase_of_ne]
   .exact hs y (by simp[hy])
   .rintro rfl;exact h.1 hy
  have:=List.length_erase_of_mem (hs x (by simp));have h2:0<m.length:=List.length_pos_of_mem (hs x (by simp));simp only[aw];omega
def H3:List ByteArray:=[⟨#[104,111,109,101]⟩,⟨#[99,100,110]⟩,⟨#[101,118,105,108]⟩]
def A9:List HO:=H3.flatMap λh=>[⟨h,⟨#[97,112,112]⟩⟩,⟨h,⟨#[108,105,98]⟩⟩,⟨h,⟨#[117,116,105,108]⟩⟩]
def Ajp {a:HO} (h:a∈A9):a.host∈H3:=by
 unfold A9 at h;obtain⟨x,hx,h⟩:=List.mem_flatMap.1 h;simp only[au,fL,or_false] at h;rcases h with rfl|rfl|rfl<;>exact hx
def HU:HO:=⟨⟨#[104,111,109,101]⟩,⟨#[117,116,105,108]⟩⟩
abbrev hasM (p:A_) (a:HO):Prop:=a∈p.bi.map (·.to)
structure MI (p:A_):Prop where
 st:stM p.bi
 ad:∀ m,m∈p.bi->m.to∈A9
 en:∀ a,a∈p.bh->hasM p a
 im:∀ m,m∈p.bi->m.done=true->m.code=1->∀ b,b∈(parseM m.body m.to.host).1->hasM p b
 ho:p.addr.host=⟨#[104,111,109,101]⟩
 eu:∀ a,a∈p.bh->a=HU
def TB {p:A_} (h:MI p):p.bi.length<=9:=by
 have:=Mf (m:=A9) (h.st.imp λ{a b} h=>by rintro rfl;rw[FA.2 rfl] at h;omega) λx hx=>by obtain⟨m,hm,rfl⟩:=bM.1 hx;exact h.ad m hm
 rw[cE] at this;exact aP this (by decide)
def VU {p:A_} {a b:HO} (h:hasM p b):hasM (askM p a) b:=by
 rw[LQ];obtain⟨m,hm,rfl⟩:=bM.1 h;exact List.mem_map_of_mem (RK hm)
def UN (p:A_) (a:HO):hasM (askM p a) a:=by
 rw[LQ];have:=XE (newM p a) p.bi
 rwa [Hj] at this
def MH (p:A_) (a:HO) (h:(newM p a).done=true):(newM p a).code=2:=by
 unfold newM at *;split at h
 .exact absurd (show false=true from h) (by decide)
 .rename_i e;rw[F_ e]
def Ah0 {p:A_} {a:HO} (h:MI p) (ha:a∈A9):MI (askM p a):=by
 have hh:∀ {b},hasM p b->hasM (askM p a) b:=VU;rw[LQ] at hh ⊢;refine⟨JO _ h.st,λm hm=>?_,λb hb=>hh (h.en b hb),λm hm h1 h2 b hb=>?_,h.ho,h.eu⟩
 .rcases Fh hm with hm|hm
  .exact h.ad m hm
  .rw[hm,Hj];exact ha
 .rcases Fh hm with hm|hm
  .exact hh (h.im m hm h1 h2 b hb)
  .rw[hm] at h1 h2;rw[MH p a h1] at h2;exact absurd h2 (by decide)
def Cl {p q:A_} (h:MI p) (h1:q.bi=p.bi) (h2:q.bh=p.bh) (h3:q.addr=p.addr):MI q:=by
 refine⟨by rw[h1];exact h.st,by rw[h1];exact h.ad,?_,?_,by rw[h3];exact h.ho,by rw[h2];exact h.eu⟩
 .intro a ha;rw[h2] at ha;have:=h.en a ha;unfold hasM at *;rw[h1];exact this
 .intro m hm;rw[h1] at hm;have:=h.im m hm;unfold hasM at *;rw[h1];exact this
def Ac9 {h:ByteArray} (e:h=⟨#[104,111,109,101]⟩):(par ⟨#[117,116,105,108]⟩ h).1∈A9:=by
 subst e;decide +kernel
def AiB {h:ByteArray} (e:h=⟨#[104,111,109,101]⟩):(par ⟨#[117,116,105,108]⟩ h).1=HU:=by
 subst e;decide +kernel
def Agv {p:A_} (h:MI p):MI (addE p ⟨#[117,116,105,108]⟩):=by
 unfold addE;split
 .have ha:=Ac9 h.ho;have h1:=Ah0 h ha;refine⟨h1.st,h1.ad,λa hm=>?_,h1.im,h1.ho,λa hm=>?_⟩;have h2:(askM p (par ⟨#[117,116,105,108]⟩ p.addr.host).1).bh=p.bh:=by rw[LQ]
  .rcases ah.1 hm with hm|hm
   .exact VU (h.en a hm)
   .rw[List.mem_singleton.1 hm];exact UN _ _
  .rcases ah.1 hm with hm|hm
   .exact h.eu a hm
   .rw[List.mem_singleton.1 hm];exact AiB h.ho
 .exact h
def IP {p:A_} (h:MI p) (m:Int) (to dg:ByteArray) (n:Int):MI (addS p m to dg n).1:=by
 rcases I8 p m to dg n with e|⟨s,e,_⟩
 .rw[e];exact h
 .rw[e];exact Cl h rfl rfl rfl
def Ady {p:A_} (h:MI p) {n:Int} (hm:modAt (p.ba.bj.getD n.toNat default).bq=true):MI (scri p n):=by
 unfold scri;split
 .split
  .exact Cl h rfl rfl rfl
  .exact h
 .split
  .exact IP h _ _ _ _
  .split
   .rename_i h3;unfold modAt at hm;rw[h3] at hm;simp only[decide_true,Bool.not_true,Bool.false_or,az] at hm;rw[hm];exact Agv h
   .exact Cl (IP h 3 _ _ _) rfl rfl rfl
def Yh {p:A_} (h:MI p) (t:ai) (n:Int):MI (ele p t n):=by
 unfold ele;split
 .exact IP h _ _ _ _
 .split
  .exact IP h _ _ _ _
  .exact h
def AiV {p:A_} (h:MI p) (hp:PI p):MI (takeToke p).1:=by
 unfold takeToke;split
 .exact h
 .rename_i hc;simp only[not_or] at hc;have hq:0<p.bp.length:=Nat.pos_of_ne_zero hc.1;have ht:MI (taken p (p.bp.getD 0 default)):=Cl h rfl rfl rfl;show MI (takeT p (p.bp.getD 0 default));unfold takeT;split
  .exact Yh ht _ _
  .split
   .rename_i hs;obtain⟨s1,s2,s3,s4,s5⟩:=J3 hs;refine Ady ht ?_;have e:(taken p (p.bp.getD 0 default)).ba.bj=p.ba.bj:=by show(addT p.ba (p.bp.getD 0 default)).1.bj=_;unfold addT;rw[G_ s1];rfl
    rw[e];exact(hp.b.1 _ (Ae O)).2 s5
   .exact ht
def AaQ {p:A_} (h:MI p) (c:ByteArray) (w:Bool):MI (runC p c w):=by
 unfold runC;split<;>exact Cl h rfl rfl rfl
def Acb {p:A_} (h:MI p) (hp:PI p):MI (stepP p).1:=by
 unfold stepP;split
 .unfold stepI;split
  .exact Cl (AaQ h (tex p.inline p.ba.bj ⟨#[]⟩) true) rfl rfl rfl
  .exact h
 .split
  .unfold stepB;split
   .exact Cl h rfl rfl rfl
   .split
    .exact h
    .split
     .exact Cl (AaQ h (p.bf.getD (blk p).toNat default).body true) rfl rfl rfl
     .exact Cl h rfl rfl rfl
  .exact AiV h hp
def Ajl {p:A_} (h:MI p):MI (stepT p).1:=by
 unfold stepT;split
 .exact h
 .split
  .unfold tai;split
   .exact h
   .split
    .exact Cl (AaQ h (defS p).body false) rfl rfl rfl
    .exact Cl h rfl rfl rfl
  .split
   .unfold tailE;split
    .exact h
    .have e:=FY p (entN p);exact Cl h e.2.2.2.2.1 e.2.2.2.2.2.1 e.2.2.2.2.2.2.2.2.2.1
   .split
    .exact h
    .unfold say;split<;>exact Cl h rfl rfl rfl
def Xh {p:A_} (h:MI p) (hp:PI p):MI (step1 p).1:=by
 unfold step1;split
 .exact Acb h hp
 .exact Ajl h
def Aeb:∀ (n:Nat) {p:A_},MI p->PI p->MI (adv n p)
 | 0,p,h,_=>h
 | n+1,p,h,hp=>by
  rw[adv];split
  .rename_i hs;exact Aeb n (Xh h hp) (My hp hs).1
  .exact h
def PD:∀ {l:List Z_},stM l->∀ {m n:Z_},m∈l->n∈l->m.to=n.to->m=n
 | x::l,h,m,n,hm,hn,e=>by
  unfold stM Ji at h;rw[aY,List.pairwise_cons] at h;have hne:∀ y,y∈l->x.to≠y.to:=λy hy e=>by have:=h.1 _ (List.mem_map_of_mem (f:=(·.to)) hy);rw[FA.2 e] at this;omega
  rcases au.1 hm with hm|hm
  .rcases au.1 hn with hn|hn
   .rw[hm,hn]
   .rw[hm] at e;exact absurd e (hne n hn)
  .rcases au.1 hn with hn|hn
   .rw[hn] at e;exact absurd e.symm (hne m hm)
   .exact PD h.2 hm hn e
def doneS (l:List av):Nat:=l.countP (·.done)
def don (l:List Z_):Nat:=l.countP (·.done)
def dnP (p:A_):Nat:=doneS p.bf+don p.bi
def need (p:A_) (a:HO):Prop:=(∃ s,s∈p.bf/\s.done=false/\s.to=a)\/∃ m,m∈p.bi/\m.done=false/\m.to=a
structure Gr (p q:A_):Prop where
 sl:∃ ss,q.bf=p.bf++ss
 md:∀ m,m∈p.bi->m∈q.bi
 dm:don p.bi<=don q.bi
 ad:q.addr=p.addr
 po:q.bm=p.bm
 ed:q.ended=p.ended
 tk:q.tok=p.tok
def Ej (p:A_):Gr p p:=⟨⟨[],by simp⟩,λ_ h=>h,X_ _,rfl,rfl,rfl,rfl⟩
def FR {p q r:A_} (h1:Gr p q) (h2:Gr q r):Gr p r:=by
 obtain⟨s1,e1⟩:=h1.sl;obtain⟨s2,e2⟩:=h2.sl;exact⟨⟨s1++s2,by rw[e2,e1,bK]⟩,λm h=>h2.md m (h1.md m h),aP h1.dm h2.dm,h2.ad.trans h1.ad,h2.po.trans h1.po,h2.ed.trans h1.ed,h2.tk.trans h1.tk⟩
def EX {p q:A_} (h1:q.bf=p.bf) (h2:q.bi=p.bi) (h3:q.addr=p.addr) (h4:q.bm=p.bm) (h5:q.ended=p.ended) (h6:q.tok=p.tok):Gr p q :=
 ⟨⟨[],by rw[h1];simp⟩,λm h=>by rw[h2];exact h,by rw[h2];exact X_ _,h3,h4,h5,h6⟩
def TE (n:Z_):∀ l:List Z_,don l<=don (insM n l)
 | []=>Nat.zero_le _
 | x::l=>by
  rw[insM];split
  .unfold don;rw[List.countP_cons,List.countP_cons];have:=TE n l;unfold don at this;omega
  .split
   .exact X_ _
   .unfold don;rw[List.countP_cons (a:=n)];omega
def Aha (p:A_) (a:HO):Gr p (askM p a):=by
 rw[LQ];exact⟨⟨[],by simp⟩,λm h=>RK h,TE _ _,rfl,rfl,rfl,rfl⟩
def IT (p:A_) (m:Int) (to dg:ByteArray) (n:Int):Gr p (addS p m to dg n).1:=by
 rcases I8 p m to dg n with e|⟨s,e,_⟩
 .rw[e];exact Ej _
 .rw[e];exact⟨⟨[s],rfl⟩,λ_ h=>h,X_ _,rfl,rfl,rfl,rfl⟩
def Aft (p:A_) (to:ByteArray):Gr p (addE p to):=by
 unfold addE;split
 .exact FR (Aha p _) (EX rfl rfl rfl rfl rfl rfl)
 .exact Ej _
def Aej (p:A_) (n:Int):Gr p (scri p n):=by
 unfold scri;split
 .split
  .exact EX rfl rfl rfl rfl rfl rfl
  .exact Ej _
 .split
  .exact IT _ _ _ _ _
  .split
   .exact Aft _ _
   .exact FR (IT p 3 _ _ _) (EX rfl rfl rfl rfl rfl rfl)
def Aiy (p:A_):Gr p (takeToke p).1:=by
 unfold takeToke;split
 .exact Ej _
 .have ht:Gr p (taken p (p.bp.getD 0 default)):=EX rfl rfl rfl rfl rfl rfl;show Gr p (takeT p (p.bp.getD 0 default));unfold takeT;split
  .refine FR ht ?_;unfold ele;split
   .exact IT _ _ _ _ _
   .split
    .exact IT _ _ _ _ _
    .exact Ej _
  .split
   .exact FR ht (Aej _ _)
   .exact ht
def Adb (p:A_) (c:ByteArray) (w:Bool):Gr p (runC p c w):=by
 unfold runC;split<;>exact EX rfl rfl rfl rfl rfl rfl
def Qs (p:A_):Gr p (step1 p).1:=by
 unfold step1;split
 .unfold stepP;split
  .unfold stepI;split
   .exact FR (Adb p (tex p.inline p.ba.bj ⟨#[]⟩) true) (EX rfl rfl rfl rfl rfl rfl)
   .exact Ej _
  .split
   .unfold stepB;split
    .exact EX rfl rfl rfl rfl rfl rfl
    .split
     .exact Ej _
     .split
      .exact FR (Adb p (p.bf.getD (blk p).toNat default).body true) (EX rfl rfl rfl rfl rfl rfl)
      .exact EX rfl rfl rfl rfl rfl rfl
   .exact Aiy p
 .unfold stepT;split
  .exact Ej _
  .split
   .unfold tai;split
    .exact Ej _
    .split
     .exact FR (Adb p (defS p).body false) (EX rfl rfl rfl rfl rfl rfl)
     .exact EX rfl rfl rfl rfl rfl rfl
   .split
    .unfold tailE;split
     .exact Ej _
     .have e:=FY p (entN p);exact EX e.2.2.2.1 e.2.2.2.2.1 e.2.2.2.2.2.2.2.2.2.1 e.2.2.2.2.2.2.2.2.2.2.1 e.2.2.2.2.2.2.2.2.2.2.2.1 e.2.2.2.2.2.2.2.2.2.2.2.2
    .split
     .exact Ej _
     .unfold say;split<;>exact EX rfl rfl rfl rfl rfl rfl
def Tf:∀ (n:Nat) (p:A_),Gr p (adv n p)
 | 0,p=>Ej _
 | n+1,p=>by
  rw[adv];split
  .exact FR (Qs p) (Tf n _)
  .exact Ej _
def Adf {p q:A_} (h:Gr p q) {a:HO} (hn:need p a):need q a:=by
 rcases hn with⟨s,h1,h2⟩|⟨m,h1,h2⟩
 .obtain⟨ss,e⟩:=h.sl;exact .inl ⟨s,by rw[e];exact List.mem_append_left _ h1,h2⟩
 .exact .inr ⟨m,h.md m h1,h2⟩
def Ai5 {p q:A_} (h:Gr p q):dnP p<=dnP q:=by
 obtain⟨ss,e⟩:=h.sl;unfold dnP doneS;rw[e,List.countP_append];have:=h.dm;omega
def Aih {p:A_} (h:PI p) (h2:MI p):dnP p<=29:=by
 have h3:doneS p.bf<=p.bf.length:=List.countP_le_length;have h4:don p.bi<=p.bi.length:=List.countP_le_length;have:=h.sl;have:=TB h2;unfold dnP;omega
def Mc {p:A_} {a:HO} (h:hasM p a):0<=findM p.bi a:=by
 obtain⟨m,hm,e⟩:=bM.1 h;exact(GT (λm:Z_=>decide (m.to=a)) p.bi 0 O).2 (bI.2 ⟨m,hm,cP e⟩)
def HI {p:A_} {a:HO} (h:0<=findM p.bi a):p.bi.getD (findM p.bi a).toNat default∈p.bi:=Ae (by have:=(BL p.bi a).1;omega)
def AaC {p:A_} (h:MI p) (a b:HO) (hb:b∈(impo p a).1):hasM p b:=by
 unfold impo at hb;split at hb
 .simp at hb
 .rename_i h1;simp only[not_or,Bool.not_eq_false,Classical.not_not] at h1;have h0:0<=findM p.bi a:=O
  have:=h.im _ (HI h0) h1.2.1 h1.2.2 b;rw[DM h0] at this;exact this hb
def Ta {p:A_} (h:MI p):∀ (f:Nat) (a:HO) (st:aG),hasM p a->(∀ b,b∈st.2->hasM p b)->∀ b,b∈(visitF f p a st).2->hasM p b
 | 0,a,st,_,hs,b,hb=>hs b hb
 | f+1,a,st,ha,hs,b,hb=>by
  rw[visitF] at hb;split at hb
  .exact hs b hb
  .have hf:∀ (l:List HO) (st:aG),(∀ b,b∈l->hasM p b)->(∀ b,b∈st.2->hasM p b)->∀ b,b∈(l.foldl (λst b=>visitF f p b st) st).2->hasM p b:=by
    intro l
    induction l with
    | nil=>intro st _ h2 b hb;exact h2 b hb
    | cons c l ih=>
     intro st h1 h2;exact ih _ (λb hb=>h1 b (by simp[hb])) (Ta h f c st (h1 c (by simp)) h2)
   rcases ah.1 hb with hb|hb
   .exact hf _ (st.1++[a],st.2) (λb hb=>AaC h a b hb) hs b hb
   .rw[List.mem_singleton.1 hb];exact ha
def SA {p:A_} (h:MI p) {a:HO} (ha:hasM p a) {b:HO} (hb:b∈rea p a):hasM p b:=Ta h _ a ([],[]) ha (by simp) b hb
def KD {J:Type} (f:J->Bool):∀ (l:List J) (k:Int),(∀ x,x∈l->f x=false)->openI f l k=[]
 | [],_,_=>rfl
 | x::l,k,h=>by rw[openI,h x (by simp)];exact KD f l (k+1) λy hy=>h y (by simp[hy])
def NY {l:List av} (h:∀ s,s∈l->s.done=true):sty l=true:=by
 unfold sty;refine aM.2 λs hs=>?_
 rw[h s hs];simp
def LR {p:A_} (hp:PI p) (hm:MI p) (he:p.ended=true) (h1:∀ s,s∈p.bf->s.done=true) (h2:∀ m,m∈p.bi->m.done=true) (hs:(step1 p).2=false):p.loaded=true:=by
 have hst:=NY h1;unfold step1 at hs;split at hs
 .rename_i h3;rw[h3] at hs;exact absurd hs (by decide)
 .rename_i h3;have hi:p.inline=0:=by
   rcases Int.decEq p.inline 0 with e|e
   .exfalso;apply h3;unfold stepP;rw[G_ e];unfold stepI;rw[G_ hst]
   .exact e
  have hb:p.block=0:=by
   rcases Int.decEq p.block 0 with e|e
   .exfalso;apply h3;unfold stepP;rw[F_ (by rw[hi];simp),G_ e];obtain⟨k,k1,k2,k3⟩:=hp.bl e;have hk:blk p=k:=by unfold blk;rw[k1,AE ⟨O,by have:=hp.sl;omega⟩];omega
    unfold stepB;rw[hk,eo,F_ (by simp only[Classical.not_not];omega),F_ (by rw[h1 _ (Ae k2),hst];simp)];split<;>rfl
   .exact e
  have hq:p.bp.length=0:=by
   rcases Nat.eq_zero_or_pos p.bp.length with e|e
   .exact e
   .exfalso;apply h3;unfold stepP;rw[F_ (by rw[hi];simp),F_ (by rw[hb];simp)];unfold takeToke;rw[F_ (by rw[hb,hi];simp;intro e2;rw[e2] at e;simp at e)]
  have hps:isParsed p=true:=by unfold isParsed;rw[he,hq,hb,hi];rfl
  cases hl:p.loaded with
  | true=>rfl
  | false=>
   exfalso;unfold stepT at hs;have hd:=hp.df;have hn:=hp.en;rw[F_ (by rw[hps,hl];simp;omega)] at hs;split at hs
   .rename_i h4;unfold tai at hs;have hin:defS p∈p.bf:=by
     unfold defS;have:=DT (λs:av=>decide (s.mode=4)) p.bf 0 _ (Ae (l:=defe p) (i:=p.bo.toNat) O);have e2:=this.1;have e3:=this.2;refine Ae ?_;show((defe p).getD p.bo.toNat default).toNat<p.bf.length;unfold defe at *
     omega
    rw[F_ (by rw[h1 _ hin,hst];simp)] at hs;split at hs<;>exact absurd hs (by simp)
   .split at hs
    .rename_i h5;unfold tailE at hs;have hg:grap p (entN p)=true:=by
      unfold grap;refine aM.2 λb hb=>?_
      have hh:=SA hm (hm.en _ (Ae (l:=p.bh) (i:=p.bu.toNat) O)) hb;have h0:=Mc hh;rw[cP h0,h2 _ (HI h0)];rfl
     rw[F_ (by rw[hg,hst];simp)] at hs;exact absurd hs (by simp)
    .have e1:openSl p=[]:=KD _ _ _ λs hs=>by rw[h1 s hs];rfl
     have e2:openM p=[]:=KD _ _ _ λm hm=>by rw[h2 m hm];rfl
     rw[F_ (by rw[e1,e2];simp)] at hs;exact absurd hs (by simp)
structure rOk (x:M_):Prop where
 sc:x.kind=2->gdT x.body
 im:x.kind=2\/x.kind=5->∀ h,h∈H3->∀ b,b∈(parseM x.body h).1->b∈A9
 sz:x.body.size<=400
def Di (p:A_) (a:HO) (x:M_) (s:av):(fillF p a x s).mode=s.mode/\(s.done=true->fillF p a x s=s)/\(s.to≠a->fillF p a x s=s)/\(s.to=a->(fillF p a x s).done=true):=by
 unfold fillF fillS;refine⟨?_,?_,?_,?_⟩
 .split
  .split<;>rfl
  .rfl
 .intro h;rw[G_ h];split<;>rfl
 .intro h;rw[F_ h]
 .intro h;rw[G_ h];split
  .assumption
  .rfl
def Pg {p:A_} (h:PI p) (a:HO) {x:M_} (hx:rOk x):PI (fil p a x)/\N (fil p a x)=N p:=by
 refine⟨⟨h.b,h.q,by show(p.bf.map _).length<=20;rw[cE];exact h.sl,h.el,?_,?_,h.ib,h.df,h.en⟩,rfl⟩
 .intro s hs h1 h2 h3;obtain⟨t,ht,rfl⟩:=bM.1 hs;by_cases hd:t.done=true
  .rw[(Di p a x t).2.1 hd] at h1 h2 h3 ⊢;exact h.sb t ht h1 h2 h3
  .rw[(Di p a x t).1] at h3;unfold fillF at h1 h2 ⊢;split at h1
   .rename_i he;rw[G_ he] at h2;unfold fillS at h1 h2 ⊢;rw[F_ hd] at h1 h2 ⊢;simp only at h2;have hk:x.kind=2:=by
     unfold checkResponse at h2;split at h2
     .exact absurd h2 (by decide)
     .split at h2
      .exact absurd h2 (by decide)
      .split at h2
       .exact absurd h2 (by decide)
       .rename_i h6;unfold reqO at h6;rw[h3] at h6;simpa [kindOf] using h6
    rw[G_ he];show gdT (usable p.bm (reqO p t) x).1;unfold usable;rw[G_ h2];exact hx.sc hk
   .exact absurd h1 hd
 .intro e;obtain⟨k,k1,k2,k3⟩:=h.bl e;refine⟨k,k1,by show k<(p.bf.map _).length;rw[cE];exact k2,?_⟩;show((p.bf.map (fillF p a x)).getD k default).mode=3;rw[bB,cz,aH k2];rw[bB,aH k2] at k3;exact(Di p a x _).1.trans k3
def Pn (p:A_) (a:HO) (x:M_):∀ l:List av,doneS l<=doneS (l.map (fillF p a x))/\((∃ s,s∈l/\s.done=false/\s.to=a)->doneS l<doneS (l.map (fillF p a x)))
 | []=>⟨X_ _,λ⟨s,h,_⟩=>by simp at h⟩
 | s::l=>by
  have ih:=Pn p a x l;have hf:=Di p a x s;unfold doneS at *
  rw[aY,List.countP_cons,List.countP_cons];have h1:(if s.done=true then 1 else 0)<=(if(fillF p a x s).done=true then 1 else 0):=by
   split
   .rename_i hd;rw[hf.2.1 hd,G_ hd];exact X_ _
   .exact Nat.zero_le _
  refine⟨O,?_⟩;rintro⟨t,ht,h2,h3⟩;rcases au.1 ht with ht|ht
  .rw[<-ht];rw[<-ht] at hf;rw[F_ (by rw[h2];simp),G_ (hf.2.2.2 h3)];have:=ih.1;omega
  .have:=ih.2 ⟨t,ht,h2,h3⟩;omega
def Z2 {p:A_} {a b:HO} (x:M_) (h:need p b) (hb:b≠a):need (fil p a x) b:=by
 rcases h with⟨s,h1,h2,h3⟩|h
 .refine .inl ⟨s,?_,h2,h3⟩;have:=List.mem_map_of_mem (f:=fillF p a x) h1
  rwa [(Di p a x s).2.2.1 (by rw[h3];exact hb)] at this
 .exact .inr h
def Ge {p:A_} {a:HO} (x:M_) (h0:0<=findM p.bi a):∃ l m r,p.bi=l++m::r/\m.to=a/\m=p.bi.getD (findM p.bi a).toNat default/\(fillM0 p a x).bi=l++fillM p x m::r:=by
 have hl:=(BL p.bi a).1;have hi:(findM p.bi a).toNat<p.bi.length:=O
 refine⟨p.bi.take (findM p.bi a).toNat,p.bi.getD (findM p.bi a).toNat default,p.bi.drop ((findM p.bi a).toNat+1),?_,DM h0,rfl,?_⟩
 .have h1:=Q_ (l:=p.bi) hi
  calc p.bi=p.bi.take ((findM p.bi a).toNat+1)++p.bi.drop ((findM p.bi a).toNat+1):=(dc _ _).symm
   _=_:=by rw[h1];simp
 .show p.bi.modify (findM p.bi a).toNat (fillM p x)=_;rw[Ci _ hi]
def Ahi {p q:A_} (h:Gr p q) {b:HO} (hb:hasM p b):hasM q b:=by
 obtain⟨m,hm,e⟩:=bM.1 hb;rw[<-e];exact List.mem_map_of_mem (h.md m hm)
def VA {p:A_} {a:HO} {x:M_} (hp:PI p) (hm:MI p) (hx:rOk x):PI (fillMo p a x)/\MI (fillMo p a x)/\N (fillMo p a x)=N p/\(fillMo p a x).bf=p.bf/\don p.bi<=don (fillMo p a x).bi/\(∀ m,m∈p.bi->m.to≠a->m∈(fillMo p a x).bi)/\((∃ m,m∈p.bi/\m.done=false/\m.to=a)->don p.bi<don (fillMo p a x).bi)/\(fillMo p a x).addr=p.addr/\(fillMo p a x).bm=p.bm/\(fillMo p a x).ended=p.ended/\(fillMo p a x).tok=p.tok:=by
 unfold fillMo;split
 .rename_i h1;refine⟨hp,hm,rfl,rfl,X_ _,λm h _=>h,?_,rfl,rfl,rfl,rfl⟩;rintro⟨m,m1,m2,m3⟩;exfalso;have h0:=Mc (p:=p) (a:=a) (by rw[<-m3];exact List.mem_map_of_mem m1);rcases h1 with h1|h1
  .omega
  .have e:=PD hm.st m1 (HI h0) (by rw[m3,DM h0]);rw[<-e,m2] at h1;exact absurd h1 (by decide)
 .rename_i h1;simp only[not_or,Int.not_lt] at h1;have h0:=h1.1;obtain⟨l,m,r,e1,e2,e3,e4⟩:=Ge x h0;have hmm:m∈p.bi:=by rw[e1];simp
  have hto:((fillM0 p a x).bi).map (·.to)=p.bi.map (·.to):=by rw[e4,e1];simp[fillM]
  have hA:a∈A9:=by rw[<-e2];exact hm.ad m hmm
  have hhas:∀ {b},hasM p b->hasM (fillM0 p a x) b:=λh=>by unfold hasM at *;rw[hto];exact h
  have himp:∀ b,b∈(impo (fillM0 p a x) a).1->b∈A9:=by
   intro b hb;have hf:=Gb p a x h0;unfold impo at hb;rw[hf.1,hf.2] at hb;split at hb
   .simp at hb
   .rename_i h6;simp only[not_or,Classical.not_not] at h6;have hc:checkResponse p.bm ⟨5,m.to,p.addr.host,⟨#[]⟩⟩ x=1:=by rw[e3];exact h6.2.2
    have hb2:(fillM p x (p.bi.getD (findM p.bi a).toNat default)).body=x.body:=by show(usable p.bm _ x).1=x.body;unfold usable;rw[G_ (by rw[<-e3];exact hc)]
    rw[hb2] at hb;have hk:x.kind=2\/x.kind=5:=by
     unfold checkResponse at hc;split at hc
     .exact absurd hc (by decide)
     .split at hc
      .exact absurd hc (by decide)
      .split at hc
       .exact absurd hc (by decide)
       .rename_i h7;simp at h7;exact(Classical.em (x.kind=5)).elim .inr λe=>.inl (h7 e)
    exact hx.im hk _ (Ajp hA) b hb
  have hP0:PI (fillM0 p a x):=UG hp _;have hstr:∀ (k:List HO) (q:A_),stM q.bi->stM (k.foldl askM q).bi:=by
   intro k
   induction k with
   | nil=>intro q h;exact h
   | cons c k ih=>intro q h;exact ih _ (by rw[LQ];exact JO _ h)
  have hgr:∀ (k:List HO) (q:A_),Gr q (k.foldl askM q)/\(k.foldl askM q).bf=q.bf/\(k.foldl askM q).bh=q.bh/\N (k.foldl askM q)=N q/\(PI q->PI (k.foldl askM q))/\(∀ b,b∈k->hasM (k.foldl askM q) b)/\(∀ y,y∈(k.foldl askM q).bi->y∈q.bi\/(y.to∈k/\(y.done=true->y.code=2))):=by
   intro k
   induction k with
   | nil=>intro q;exact⟨Ej _,rfl,rfl,rfl,id,by simp,λy hy=>.inl hy⟩
   | cons c k ih=>
    intro q;have e:(askM q c).bf=q.bf/\(askM q c).bh=q.bh/\N (askM q c)=N q/\(PI q->PI (askM q c)):=by rw[LQ];exact⟨rfl,rfl,rfl,λh=>UG h _⟩
    have i:=ih (askM q c);rw[dy];refine⟨FR (Aha q c) i.1,i.2.1.trans e.1,i.2.2.1.trans e.2.1,i.2.2.2.1.trans e.2.2.1,λh=>i.2.2.2.2.1 (e.2.2.2 h),λb hb=>?_,λy hy=>?_⟩
    .rcases au.1 hb with hb|hb
     .rw[hb];exact Ahi i.1 (UN q c)
     .exact i.2.2.2.2.2.1 b hb
    .rcases i.2.2.2.2.2.2 y hy with hy|hy
     .rw[LQ] at hy;rcases Fh hy with hy|hy
      .exact .inl hy
      .refine .inr ⟨by rw[hy,Hj];simp,λh=>?_⟩;rw[hy] at h ⊢;exact MH q c h
     .exact .inr ⟨by simp[hy.1],hy.2⟩
  obtain⟨g1,g2,g3,g4,g5,g6,g7⟩:=hgr (impo (fillM0 p a x) a).1 (fillM0 p a x);have hm0:m.done=false:=by have:=h1.2;rw[<-e3] at this;simpa using this
  have hdm:don (fillM0 p a x).bi=don p.bi+1:=by unfold don;rw[e4,cG (List.countP _) e1,List.countP_append,List.countP_append,List.countP_cons,List.countP_cons,G_ (by rfl),F_ (by rw[hm0];simp)];omega
  have hsub:∀ y,y∈p.bi->y.to≠a->y∈(fillM0 p a x).bi:=by
   intro y hy hne;rw[e4];rw[e1] at hy;simp only[ah,au] at hy ⊢;rcases hy with hy|hy|hy
   .exact .inl hy
   .exact absurd (hy▸e2) hne
   .exact .inr (.inr hy)
  refine⟨g5 hP0,⟨hstr _ _ (by unfold stM;rw[hto];exact hm.st),?_,?_,?_,?_,?_⟩,g4,g2,by have:=g1.dm;omega,λy hy hne=>g1.md y (hsub y hy hne),λ_=>by have:=g1.dm;omega,g1.ad,g1.po,g1.ed,g1.tk⟩
  .intro y hy;rcases g7 y hy with hy|hy
   .have:y.to∈p.bi.map (·.to):=by rw[<-hto];exact List.mem_map_of_mem hy
    obtain⟨z,hz,ez⟩:=bM.1 this;rw[<-ez];exact hm.ad z hz
   .exact himp _ hy.1
  .intro b hb;have h2:hasM p b:=hm.en b (by rw[g3] at hb;exact hb);obtain⟨z,hz,ez⟩:=bM.1 (hhas h2);rw[<-ez];exact List.mem_map_of_mem (g1.md z hz)
  .intro y hy h2 h3 b hb;rcases g7 y hy with hy|hy
   .rw[e4] at hy;simp only[ah,au] at hy;have hold:y∈p.bi->hasM ((impo (fillM0 p a x) a).1.foldl askM (fillM0 p a x)) b:=λhy=>by obtain⟨z,hz,ez⟩:=bM.1 (hhas (hm.im y hy h2 h3 b hb));rw[<-ez];exact List.mem_map_of_mem (g1.md z hz)
    rcases hy with hy|hy|hy
    .exact hold (by rw[e1];simp[hy])
    .refine g6 b ?_;have hf:=Gb p a x h0;unfold impo;rw[hf.1,hf.2,<-e3,<-hy,F_ (by rw[h2,h3];simp;exact h0)];have:y.to.host=a.host:=by rw[hy];exact cG HO.host e2
     rw[<-this];exact hb
    .exact hold (by rw[e1];simp[hy])
   .rw[hy.2 h2] at h3;exact absurd h3 (by decide)
  .rw[g1.ad];exact hm.ho
  .rw[g3];exact hm.eu
def F5 {p:A_} {a:HO} {x:M_} (hp:PI p) (hm:MI p) (hx:rOk x) (hb:N p<=2000):PI (tak p a x)/\MI (tak p a x)/\N (tak p a x)<=N p/\(step1 (tak p a x)).2=false/\dnP p<=dnP (tak p a x)/\(need p a->dnP p<dnP (tak p a x))/\(∀ b,b≠a->need p b->need (tak p a x) b)/\(tak p a x).addr=p.addr/\(tak p a x).bm=p.bm/\(tak p a x).ended=p.ended/\(tak p a x).tok=p.tok:=by
 have h1:=Pg hp a hx;have hm1:MI (fil p a x):=Cl hm rfl rfl rfl;have h2:=VA (p:=fil p a x) (a:=a) h1.1 hm1 hx;obtain⟨f1,f2,f3,f4,f5,f6,f7,f8,f9,f10,f11⟩:=h2;have h3:=Acp 2000 f1;have hg:=Tf 2000 (fillMo (fil p a x) a x);have hd:=Ai5 hg;have hds:=Pn p a x p.bf;have e0:dnP (fillMo (fil p a x) a x)=doneS (p.bf.map (fillF p a x))+don (fillMo (fil p a x) a x).bi:=by unfold dnP;rw[f4];rfl
 have e1:don p.bi<=don (fillMo (fil p a x) a x).bi:=f5;have hmu:N (fillMo (fil p a x) a x)=N p:=f3.trans h1.2;show PI (adv 2000 _)/\_;refine⟨h3.1,Aeb 2000 f2 f1,by have:=h3.2.1;unfold tak adva;omega,h3.2.2 O,?_,?_,?_,?_,?_,?_,?_⟩
 .show dnP p<=dnP (adv 2000 _);have:dnP p=doneS p.bf+don p.bi:=rfl;omega
 .intro hn;show dnP p<dnP (adv 2000 _);have e2:dnP p=doneS p.bf+don p.bi:=rfl;rcases hn with hn|hn
  .have:=hds.2 hn;omega
  .have:=f7 hn;have e3:don (fil p a x).bi=don p.bi:=rfl;omega
 .intro b hne hn;refine Adf hg ?_;rcases Z2 x hn hne with⟨s,s1,s2⟩|⟨m,m1,m2,m3⟩
  .exact .inl ⟨s,by rw[f4];exact s1,s2⟩
  .exact .inr ⟨m,f6 m m1 (by rw[m3];exact hne),m2,m3⟩
 .exact hg.ad.trans f8
 .exact hg.po.trans f9
 .exact hg.ed.trans f10
 .exact hg.tk.trans f11
def EZ {J:Type} [Inhabited J] (f:J->Bool):∀ (l:List J) (k:Int) (x:Int),x∈openI f l k↔∃ i:Nat,i<l.length/\x=k+i/\f (l.getD i default)=true
 | [],k,x=>by simp[openI]
 | y::l,k,x=>by
  have ih:=EZ f l (k+1) x;have e:(∃ i:Nat,i<(y::l).length/\x=k+i/\f ((y::l).getD i default)=true)↔(x=k/\f y=true)\/∃ i:Nat,i<l.length/\x=k+1+i/\f (l.getD i default)=true:=by
   constructor
   .rintro⟨i,h1,h2,h3⟩;cases i with
    | zero=>exact .inl ⟨by simpa using h2,h3⟩
    | succ i=>exact .inr ⟨i,by simpa using h1,by rw[h2];push_cast;omega,h3⟩
   .rintro(⟨h1,h2⟩|⟨i,h1,h2,h3⟩)
    .exact⟨0,by simp,by simp[h1],h2⟩
    .exact⟨i+1,by simp;omega,by rw[h2];push_cast;omega,h3⟩
  rw[e,openI];split
  .rename_i h;rw[au,ih];simp[h]
  .rename_i h;rw[ih];simp[h]
def Ix (p:A_) (a:HO):(∃ r,r∈nextN p/\r.to=a)↔need p a:=by
 unfold nextN need;constructor
 .rintro⟨r,hr,e⟩;rcases ah.1 hr with hr|hr
  .obtain⟨k,hk,rfl⟩:=bM.1 hr;obtain⟨i,h1,h2,h3⟩:=(EZ _ _ _ _).1 hk;refine .inl ⟨_,Ae h1,by simpa using h3,?_⟩;rw[h2] at e;unfold slotRequest at e;rw[G_ O] at e;simpa using e
  .obtain⟨k,hk,rfl⟩:=bM.1 hr;obtain⟨i,h1,h2,h3⟩:=(EZ _ _ _ _).1 hk;refine .inr ⟨_,Ae h1,by simpa using h3,?_⟩;rw[h2] at e;unfold modRequest at e;rw[G_ O] at e;simpa using e
 .rintro(⟨s,h1,h2,h3⟩|⟨m,h1,h2,h3⟩)
  .obtain⟨i,hi,e⟩:=List.getElem_of_mem h1;have eD:p.bf.getD i default=s:=by rw[bB,aH hi,e];rfl
   refine⟨slotRequest p i,List.mem_append_left _ (List.mem_map_of_mem ((EZ _ _ _ _).2 ⟨i,hi,by simp,by rw[eD,h2];rfl⟩)),?_⟩;unfold slotRequest;rw[G_ O,eo,eD];exact h3
  .obtain⟨i,hi,e⟩:=List.getElem_of_mem h1;have eD:p.bi.getD i default=m:=by rw[bB,aH hi,e];rfl
   refine⟨modRequest p i,List.mem_append_right _ (List.mem_map_of_mem ((EZ _ _ _ _).2 ⟨i,hi,by simp,by rw[eD,h2];rfl⟩)),?_⟩;unfold modRequest;rw[G_ O,eo,eD];exact h3
def HG (p:A_) (a:HO):needsTo p a=true↔need p a:=by
 rw[<-Ix];unfold needsTo;rw[bI];constructor
 .rintro⟨r,h1,h2⟩;exact⟨r,h1,ee h2⟩
 .rintro⟨r,h1,h2⟩;exact⟨r,h1,cP h2⟩
def nOk (n:P_):Prop:=(∀ v,v∈n.servers->∀ f,f∈v.files->rOk f.bd)/\∀ e,e∈n.cache.bh->rOk e.bd
def Wi:rOk notF:=⟨λh=>absurd (show(1:Int)=2 from h) (by decide),λh=>absurd (show(1:Int)=2\/(1:Int)=5 from h) (by decide),Nat.zero_le _⟩
def SN {n:P_} (h:nOk n) (a:HO):rOk (answerTo n.servers a):=by
 unfold answerTo;split
 .exact Wi
 .rename_i h1;split
  .exact Wi
  .rename_i h2;have h3:=BU (λs:V_=>decide (s.host=a.host)) n.servers 0 O;have h4:=BU (λf:aF=>decide (f.path=a.path)) (n.servers.getD (fidx (λs=>decide (s.host=a.host)) n.servers 0).toNat default).files 0 O;exact h.1 _ (Ae O) _ (Ae O)
def Ajm {n:P_} (h:nOk n) (t:ByteArray) (a:HO):rOk ((lookUp n.cache t a n.now).getD notF):=by
 unfold lookUp;cases q:n.cache.bh.find? (freshEntry t a n.now) with
 | none=>exact Wi
 | some e=>exact h.2 e (List.mem_of_find?_eq_some q)
def keep_nOk {n:P_} (h:nOk n) (t:ByteArray) (a:HO) {x:M_} (hx:rOk x):nOk (keepA n t a x):=by
 unfold keepA;split
 .refine⟨h.1,λe he=>?_⟩;have he:e∈(sto n.cache t a x n.now).bh:=he;unfold sto at he;split at he
  .unfold putE at he;split at he
   .obtain⟨i,hi,e2⟩:=List.getElem_of_mem he;simp only[List.getElem_modify] at e2;split at e2
    .rw[<-e2];exact hx
    .rw[<-e2];exact h.2 _ (List.getElem_mem _)
   .rcases ah.1 he with he|he
    .exact h.2 e he
    .rw[List.mem_singleton.1 he];exact hx
  .exact h.2 e he
 .exact h
def Adi {n:P_} (h:nOk n) (t:ByteArray) (a:HO) (g:Bool):nOk (logS n t a g):=by
 unfold logS;split<;>exact h
def F3 {n:P_} (h:nOk n) (t:ByteArray) (a:HO) (g:Bool):nOk (fetchNo n t a g).1/\rOk (fetchNo n t a g).2:=by
 unfold fetchNo;split
 .exact⟨h,Wi⟩
 .split
  .exact⟨h,Ajm h t a⟩
  .refine⟨?_,SN h a⟩;dsimp only;split
   .exact Adi h t a g
   .exact keep_nOk (Adi h t a g) _ _ (SN h a)
def cost (c:ao):Int:=1+(c.left+19) / 20
def sumC (l:List ao):Int:=(l.map cost).sum
def S (l:List bv):Int:=countIf (λg:bv=>!g.used) l
def txt (l:N_):List UInt8:=I l.page.tok.rest++l.parts.flatMap I
structure LI (l:N_):Prop where
 pi:PI l.page
 mi:MI l.page
 st:(step1 l.page).2=false
 tx:pgT (txt l)
 bg:N l.page+wL (txt l)+362*csN (txt l)<=2000
 ed:l.page.ended=decide (l.parts.length=0)
 cr:∀ c,c∈l.conns->rOk c.bd/\0<=c.left/\c.left<=420
 nd:(l.conns.map (·.to)).Nodup
 ng:∀ c,c∈l.conns->c.guess=false->need l.page c.to
 gg:∀ c,c∈l.conns->c.guess=true->∀ g,g∈l.guesses->g.to≠c.to
 gr:∀ g,g∈l.guesses->rOk g.bd
 u6:S l.guesses+(countGuess l.conns:Int)<=6
 nt:nOk l.net
 l3:l.conns.length<=3
def T (l:N_):Int:=l.parts.length-24*(dnP l.page:Int)-23*S l.guesses-23*(l.conns.length:Int)+sumC l.conns
def PT (a b:List ao):sumC (a++b)=sumC a+sumC b:=by unfold sumC;rw[fu,List.sum_append]
def HW (c:ao) (b:List ao):sumC (c::b)=cost c+sumC b:=by unfold sumC;rw[aY,List.sum_cons]
def GH:∀ l:List ao,countGuess l=l.countP (·.guess)
 | []=>rfl
 | c::l=>by rw[countGuess,GH l,List.countP_cons]
def Q9 (a b:List bv):S (a++b)=S a+S b:=by
 unfold S
 induction a with
 | nil=>simp[countIf]
 | cons x a ih=>simp only[cy,countIf,ih];omega
def WD:∀ l:List bv,0<=S l
 | []=>by simp[S,countIf]
 | x::l=>by have:=WD l;unfold S at *;rw[countIf];split<;>omega
def Kw {J:Type} [Inhabited J] {f:J->J} {l:List J} {i:Nat} {x:J} (h:i<l.length) (hx:x∈l.modify i f):x∈l\/x=f (l.getD i default):=by
 rw[Ci f h] at hx;simp only[ah,au] at hx;rcases hx with hx|hx|hx
 .exact .inl (fw hx)
 .exact .inr hx
 .exact .inl (ft hx)
def AkM {l:N_} (h:LI l) : -903<=T l:=by
 have h1:=Aih h.pi h.mi;have h2:=h.u6;have h3:=h.l3;have h5:0<=sumC l.conns:=by
  have:∀ m:List ao,(∀ c,c∈m->0<=c.left)->0<=sumC m:=by
   intro m
   induction m with
   | nil=>intro _;exact Int.le_refl _
   | cons c m ih=>intro hc;rw[HW];have:=ih λd hd=>hc d (by simp[hd]);have:=hc c (by simp);unfold cost;omega
  exact this _ λc hc=>(h.cr c hc).2.1
 unfold T;omega
def AbY (r:ByteArray):(endT r).length<=wL (I r):=by
 unfold endT;split
 .exact Nat.zero_le _
 .rename_i h;simp only[not_or] at h;have:hdB (λy=>y != 60) (I r)=true:=by
   cases hc:I r with
   | nil=>exact absurd (by rw[<-AM r,hc];rfl) h.1
   | cons x l=>
    have h2:=h.2;rw[<-AM r,hc] at h2;simp only[hdB,bne_iff_ne];intro e;apply h2;rw[e];rfl
  unfold wL;rw[G_ this];simp
def atP (p:A_) (ts:List ai) (k:dv) (e:Bool):A_:={ p with bp:=p.bp++ts,tok:=k,ended:=e }
def Mn {p:A_} (h:PI p) {ts:List ai} (k:dv) (e:Bool) (ht:∀ t,t∈ts->okTk t):PI (atP p ts k e)/\N (atP p ts k e)=N p+ts.length+362*nScr ts:=by
 refine⟨⟨h.b,λt hm=>?_,h.sl,h.el,h.sb,h.bl,h.ib,h.df,h.en⟩,?_⟩
 .rcases ah.1 hm with hm|hm
  .exact h.q t hm
  .exact ht t hm
 .have e1:nScr (p.bp++ts)=nScr p.bp+nScr ts:=by unfold nScr;rw[List.countP_append]
  have e2:N (atP p ts k e)=(p.bp++ts).length+362*(nScr (p.bp++ts)+openS p.ba+(if p.inline=0/\p.block=0 then 0 else 1))+(20-p.bo).toNat+(20-p.bu).toNat+(if p.loaded=true then 0 else 1):=rfl;rw[e2,e1,al];unfold N scP;omega
def AhQ {l:N_} (h:LI l) (h2:(arri l).2=true):LI (arri l).1/\T (arri l).1<T l:=by
 unfold arri at *
 split at h2
 .exact absurd (show false=true from h2) (by decide)
 .rename_i hp;rw[F_ hp];obtain⟨s,r,hl⟩:∃ s r,l.parts=s::r:=by
   cases hc:l.parts with
   | nil=>rw[hc] at hp;exact absurd rfl hp
   | cons s r=>exact⟨s,r,rfl⟩
  have he:l.page.ended=false:=by rw[h.ed,decide_eq_false hp]
  have hg:l.parts.getD 0 default=s:=by rw[hl];rfl
  have hd:l.parts.drop 1=r:=by rw[hl];rfl
  have ht:txt l=I (l.page.tok.rest++s)++r.flatMap I:=by unfold txt;rw[hl,Ar];simp
  have htx:=h.tx;have hbg:=h.bg;rw[ht] at htx hbg;have hf:=Abw (l.page.tok.rest++s) (r.flatMap I) htx;have hpt:=Afi (l.page.tok.rest++s) (r.flatMap I);have ha:arriveT l.page s=atP l.page (feedA (l.page.tok.rest++s)).1 ⟨(feedA (l.page.tok.rest++s)).2⟩ false:=by unfold arriveT atP;rw[F_ (by rw[he];decide)];rw[<-he]
  have hq:∃ q,arr l=q/\PI q/\MI q/\pgT (I q.tok.rest++r.flatMap I)/\N q+wL (I q.tok.rest++r.flatMap I)+362*csN (I q.tok.rest++r.flatMap I)<=2000/\q.ended=decide (r.length=0)/\q.bf=l.page.bf/\q.bi=l.page.bi:=by
   refine⟨_,rfl,?_⟩;unfold arr;rw[hg,ha];have h1:=Mn h.pi ⟨(feedA (l.page.tok.rest++s)).2⟩ false hf.1;split
   .rename_i h3;have hr:r=[]:=by rw[hl] at h3;simpa using h3
    subst hr;rw[List.flatMap_nil,cS] at hf hpt;have h4:=Ahc _ hf.2;have h5:=Mn h1.1 default true (ts:=endT (feedA (l.page.tok.rest++s)).2) λt ht=>(h4 t ht).1
    have h8:endPage (atP l.page (feedA (l.page.tok.rest++s)).1 ⟨(feedA (l.page.tok.rest++s)).2⟩ false)=atP (atP l.page (feedA (l.page.tok.rest++s)).1 ⟨(feedA (l.page.tok.rest++s)).2⟩ false) (endT (feedA (l.page.tok.rest++s)).2) default true:=by unfold endPage;exact F_ (by simp[atP])
    rw[h8];have h6:nScr (endT (feedA (l.page.tok.rest++s)).2)=0:=by unfold nScr;rw[List.countP_eq_zero];intro t hm;rw[(h4 t hm).2];decide
    have h7:=AbY (feedA (l.page.tok.rest++s)).2;refine⟨h5.1,Cl h.mi rfl rfl rfl,⟨rfl,rfl⟩,?_,rfl,rfl,rfl⟩;have e1:=h5.2;have e2:=h1.2;rw[h6,e2] at e1;rw[e1];simp only[List.flatMap_nil,cS] at hbg hpt;have e5:=hpt.1;have e6:=hpt.2;show _+wL []+362*csN []<=2000;have e3:wL []=0:=rfl;have e4:csN []=0:=rfl;rw[e3,e4];omega
   .rename_i h3;refine⟨h1.1,Cl h.mi rfl rfl rfl,hf.2,?_,?_,rfl,rfl⟩
    .rw[h1.2];have e5:=hpt.1;have e6:=hpt.2;show _+wL (I (feedA (l.page.tok.rest++s)).2++r.flatMap I)+362*csN (I (feedA (l.page.tok.rest++s)).2++r.flatMap I)<=2000;omega
    .have:r.length≠0:=by rw[hl] at h3;simp at h3;simpa using h3
     rw[decide_eq_false this];rfl
  obtain⟨q,hq0,q1,q2,q3,q4,q5,q6,q7⟩:=hq;have hA:=Acp 2000 q1;have hG:=Tf 2000 q;have hdn:dnP l.page<=dnP (adv 2000 q):=by
   have:=Ai5 hG;have e:dnP q=dnP l.page:=by unfold dnP;rw[q6,q7]
   omega
  have hneed:∀ a,need l.page a->need (adv 2000 q) a:=λa hn=>Adf hG (by unfold need at *;rw[q6,q7];exact hn)
  have htxt:I (adv 2000 q).tok.rest++r.flatMap I=I q.tok.rest++r.flatMap I:=by rw[hG.tk]
  rw[hq0,hd];refine⟨⟨hA.1,Aeb 2000 q2 q1,hA.2.2 O,?_,?_,?_,h.cr,h.nd,λc hc h1=>hneed _ (h.ng c hc h1),h.gg,h.gr,h.u6,h.nt,h.l3⟩,?_⟩
  .show pgT (I (adv 2000 q).tok.rest++r.flatMap I);rw[htxt];exact q3
  .show N (adv 2000 q)+wL (I (adv 2000 q).tok.rest++r.flatMap I)+362*csN (I (adv 2000 q).tok.rest++r.flatMap I)<=2000;rw[htxt];have:=hA.2.1;omega
  .show(adv 2000 q).ended=_;rw[hG.ed];exact q5
  .show((r.length:Int))-24*(dnP (adv 2000 q):Int)-23*S l.guesses-23*(l.conns.length:Int)+sumC l.conns<T l;unfold T;rw[hl,aw];omega
def NA {a:HO}:∀ {l:List ao} (i:Int),a∉l.map (·.to)->findC a l i = -1
 | [],_,_=>rfl
 | c::l,i,h=>by simp only[aY,au,not_or] at h;rw[findC,F_ λe=>h.1 e.symm];exact NA _ h.2
def It {a:HO}:∀ {l:List ao} {i:Int},0<=i->findC a l i<0->a∉l.map (·.to)
 | [],_,_,_=>by simp
 | c::l,i,hi,h=>by
  rw[findC] at h;split at h
  .omega
  .rename_i e;simp only[aY,au,not_or];exact⟨λq=>e q.symm,It O h⟩
def AaL {l:List bv} {a:HO} (h:findGuess l a<0):∀ g,g∈l->g.to≠a:=by
 intro g hg e;have:=(GT (λg:bv=>decide (g.to=a)) l 0 O).2 (bI.2 ⟨g,hg,cP e⟩);unfold findGuess at h;omega
def Jo {d:List HO}:∀ {l:List ax} {r:ax},r∈withoutAddrs d l->r∈l/\r.to∉d
 | x::l,r,h=>by
  rw[withoutAddrs] at h;split at h
  .have:=Jo h;exact⟨by simp[this.1],this.2⟩
  .rename_i e;rcases au.1 h with h|h
   .rw[h];refine⟨by simp,λq=>e (bI.2 ⟨_,q,cP rfl⟩)⟩
   .have:=Jo h;exact⟨by simp[this.1],this.2⟩
def Nz:∀ l:List ax,withoutAddrs [] l=l
 | []=>rfl
 | x::l=>by rw[withoutAddrs,F_ (by simp),Nz l]
def T1 (p:A_):∀ (l:List ax) (i b c:Int),0<=b->0<=i->0<=pickReq p l i b c
 | [],_,_,_,h,_=>h
 | r::l,i,b,c,h,hi=>by
  rw[pickReq];split
  .exact T1 p l _ _ _ hi O
  .exact T1 p l _ _ _ h O
def T3 (p:A_) {l:List ax} (h:l≠[]):0<=pickReq p l 0 (-1) 0:=by
 cases l with
 | nil=>exact absurd rfl h
 | cons r l=>rw[pickReq,G_ (.inl O)];exact T1 p l _ _ _ O O
def OQ {l:N_} (h:0<=reqP l):need l.page (reqT l)/\reqT l∉l.conns.map (·.to):=by
 have h1:=IV l.page (req l) 0 (-1) 0 O O;have hm:(req l).getD (reqP l).toNat default∈req l:=Ae (by unfold reqP at *;omega);have:=Jo hm;exact⟨(Ix _ _).1 ⟨_,this.1,rfl⟩,this.2⟩
def RH {l:List ao} {a:HO} (h:l.length<3) (ha:a∉l.map (·.to)) (x:M_) (g:Bool):(ope l a x g).1=l++[⟨a,siz x,g,x⟩]:=by
 unfold ope;rw[F_ (by rw[NA 0 ha];omega)]
def AgB {x:M_} (h:rOk x) (a:HO) (g:Bool):cost ⟨a,siz x,g,x⟩<=22/\0<=siz x/\siz x<=420:=by
 have:=h.sz;unfold cost siz;simp only;omega
def AaO {l:N_} (h:LI l) {a:HO} {x:M_} {g:Bool} {n:P_} (hx:rOk x) (hn:nOk n) (h3:l.conns.length<3) (ha:a∉l.conns.map (·.to)) (h0:g=false->need l.page a) (h1:g=true->(∀ y,y∈l.guesses->y.to≠a)/\S l.guesses+(countGuess l.conns:Int)<6) :
 LI { l with net:=n,conns:=(ope l.conns a x g).1 }/\T { l with net:=n,conns:=(ope l.conns a x g).1 }<T l:=by
 rw[RH h3 ha];have hc:=AgB hx a g;refine⟨⟨h.pi,h.mi,h.st,h.tx,h.bg,h.ed,?_,?_,?_,?_,h.gr,?_,hn,?_⟩,?_⟩
 .intro c hm;rcases ah.1 hm with hm|hm
  .exact h.cr c hm
  .rw[List.mem_singleton.1 hm];exact⟨hx,hc.2⟩
 .show((l.conns++[(⟨a,siz x,g,x⟩:ao)]).map (·.to)).Nodup;rw[fu,List.nodup_append];refine⟨h.nd,by simp,λy hy z hz=>?_⟩;rw[List.map_singleton,List.mem_singleton] at hz;rw[hz];rintro rfl;exact ha hy
 .intro c hm hg;rcases ah.1 hm with hm|hm
  .exact h.ng c hm hg
  .rw[List.mem_singleton.1 hm] at hg ⊢;exact h0 hg
 .intro c hm hg;rcases ah.1 hm with hm|hm
  .exact h.gg c hm hg
  .rw[List.mem_singleton.1 hm] at hg ⊢;exact(h1 hg).1
 .show S l.guesses+(countGuess (l.conns++[(⟨a,siz x,g,x⟩:ao)]):Int)<=6;have:=h.u6;rw[GH] at this ⊢;rw[List.countP_append,List.countP_singleton];cases g with
  | false=>simp;omega
  | true=>have:=(h1 rfl).2;rw[GH] at this;simp;omega
 .show(l.conns++[_]).length<=3;rw[al];simp;omega
 .unfold T;show(l.parts.length:Int)-24*(dnP l.page:Int)-23*S l.guesses-23*((l.conns++[(⟨a,siz x,g,x⟩:ao)]).length:Int)+sumC (l.conns++[⟨a,siz x,g,x⟩])<_;rw[PT,HW,al];have:sumC []=0:=rfl;simp only[dZ];omega
def Ku {l:N_} (h:LI l) {a:HO} {x:M_} {n:P_} {gs:List bv} (hx:rOk x) (hn:nOk n) (hd:need l.page a) (ha:a∉l.conns.map (·.to))
 (hg:∀ g,g∈gs->∃ y,y∈l.guesses/\g.to=y.to/\g.bd=y.bd) (hu:S gs<=S l.guesses) (hu2:S l.guesses<=S gs+1) :
 LI { l with guesses:=gs,net:=n,page:=tak l.page a x }/\T { l with guesses:=gs,net:=n,page:=tak l.page a x }<T l:=by
 have hb:=h.bg;obtain⟨t1,t2,t3,t4,t5,t6,t7,t8,t9,t10,t11⟩:=F5 (a:=a) h.pi h.mi hx O;have htx:I (tak l.page a x).tok.rest++l.parts.flatMap I=txt l:=by rw[t11];rfl
 refine⟨⟨t1,t2,t4,?_,?_,?_,h.cr,h.nd,?_,?_,?_,?_,hn,h.l3⟩,?_⟩
 .show pgT (I (tak l.page a x).tok.rest++l.parts.flatMap I);rw[htx];exact h.tx
 .show N (tak l.page a x)+wL (I (tak l.page a x).tok.rest++l.parts.flatMap I)+362*csN (I (tak l.page a x).tok.rest++l.parts.flatMap I)<=2000;rw[htx];omega
 .show(tak l.page a x).ended=_;rw[t10];exact h.ed
 .intro c hc h1;exact t7 _ (λe=>ha (by rw[<-e];exact List.mem_map_of_mem hc)) (h.ng c hc h1)
 .intro c hc h1 g hm;obtain⟨y,y1,y2,_⟩:=hg g hm;rw[y2];exact h.gg c hc h1 y y1
 .intro g hm;obtain⟨y,y1,_,y3⟩:=hg g hm;rw[y3];exact h.gr y y1
 .show S gs+(countGuess l.conns:Int)<=6;have:=h.u6;omega
 .have:=t6 hd;unfold T;show(l.parts.length:Int)-24*(dnP (tak l.page a x):Int)-23*S gs-23*(l.conns.length:Int)+sumC l.conns<_;omega
def Aax {l:List bv} {i:Nat} (h:i<l.length):S (l.modify i λg=>{ g with used:=true })<=S l/\S l<=S (l.modify i λg=>{ g with used:=true })+1:=by
 rw[Ci _ h];have e:l=l.take i++l.getD i default::l.drop (i+1):=by
  have h1:=Q_ (l:=l) h
  calc l=l.take (i+1)++l.drop (i+1):=(dc _ _).symm
   _=_:=by rw[h1];simp
 have e1:S l=S (l.take i)+S (l.getD i default::l.drop (i+1)):=by rw[<-Q9,<-e]
 rw[Q9,e1];unfold S;simp only[countIf,Bool.not_true,cD,aS];split<;>omega
def Al4 {l:N_} (h:LI l) (h2:(requ l).2=true):LI (requ l).1/\T (requ l).1<T l:=by
 unfold requ at *
 split at h2
 .exact absurd (show false=true from h2) (by decide)
 .rename_i h0;rw[F_ h0];obtain⟨s1,s2⟩:=OQ (l:=l) O;split at h2
  .rename_i h3;rw[G_ h3];have hf:0<=findGuess l.guesses (reqT l):=by
    unfold useGuess at h3;split at h3
    .exact absurd (show false=true from h3) (by decide)
    .omega
   have hlt:=BU (λg:bv=>decide (g.to=reqT l)) l.guesses 0 O;have hi:(findGuess l.guesses (reqT l)).toNat<l.guesses.length:=by unfold findGuess at *;omega
   have eu:useGuess l.guesses (reqT l)=(l.guesses.modify (findGuess l.guesses (reqT l)).toNat λg=>{ g with used:=true },(l.guesses.getD (findGuess l.guesses (reqT l)).toNat default).bd,true):=by unfold useGuess;rw[F_ O]
   rw[eu];have hx:=h.gr _ (Ae hi);have hu:=Aax hi;exact Ku h hx (keep_nOk h.nt _ _ hx) s1 s2 (λg hg=>by
    rcases Kw hi hg with hg|hg
    .exact⟨g,hg,rfl,rfl⟩
    .exact⟨_,Ae hi,by rw[hg],by rw[hg]⟩) hu.1 hu.2
  .rename_i h3;rw[F_ h3];split at h2
   .exact absurd (show false=true from h2) (by decide)
   .rename_i h4;rw[F_ h4];have hf:=F3 h.nt l.page.addr.host (reqT l) false;exact AaO h hf.2 hf.1 O s2 (λ_=>s1) (λe=>absurd e (by decide))
def W2 {l:N_} (h:LI l) (h3:l.conns.length<3) (hu:S l.guesses+(countGuess l.conns:Int)<6):∀ m:List HO,(nex l m).2=true->LI (nex l m).1/\T (nex l m).1<T l
 | [],h2=>absurd (show false=true from h2) (by decide)
 | a::m,h2=>by
  rw[nex] at *
  split at h2
  .rename_i h4;rw[G_ h4];exact W2 h h3 hu m h2
  .rename_i h4;rw[F_ h4];simp only[not_or,Int.not_le] at h4;have hf:=F3 h.nt l.page.addr.host a true;exact AaO h hf.2 hf.1 h3 (It O h4.2) (λe=>absurd e (by decide)) λ_=>⟨AaL h4.1,hu⟩
def AgN {l:N_} (h:LI l) (h2:(guessN l).2=true):LI (guessN l).1/\T (guessN l).1<T l:=by
 unfold guessN at *
 split at h2
 .exact absurd (show false=true from h2) (by decide)
 .rename_i h4;rw[F_ h4];simp only[not_or,Nat.not_le,Int.not_le] at h4;exact W2 h h4.1 h4.2 _ h2
def ZS {l:N_} (h:LI l) {k:Int} (h0:0<=k) (hk:k<l.conns.length):LI (fini l k)/\T (fini l k)<T l:=by
 have hi:k.toNat<l.conns.length:=O
 obtain⟨A,c,B,eC,eG,eD⟩:∃ A c B,l.conns=A++c::B/\l.conns.getD k.toNat default=c/\closeC l.conns k=A++B:=by
  refine⟨l.conns.take k.toNat,_,l.conns.drop (k.toNat+1),?_,rfl,Hr h0 hk⟩;have h1:=Q_ (l:=l.conns) hi
  calc l.conns=l.conns.take (k.toNat+1)++l.conns.drop (k.toNat+1):=(dc _ _).symm
   _=_:=by rw[h1];simp
 have hmem:∀ d,d∈A++B->d∈l.conns:=λd hd=>by rw[eC];simp only[ah,au] at hd ⊢;exact hd.imp id .inr
 have hc:c∈l.conns:=by rw[eC];simp
 have hn:(c.to::(A++B).map (·.to)).Nodup:=by
  have h1:=h.nd;rw[eC] at h1;have h2:(A++c::B).map (·.to) |>.Perm (c.to::(A++B).map (·.to)):=by simp
  exact h2.nodup_iff.1 h1
 rw[List.nodup_cons] at hn;have hrc:=h.cr c hc;have hcost:1<=cost c:=by unfold cost;have:=hrc.2.1;omega
 have hsum:sumC l.conns=cost c+sumC (A++B):=by rw[eC,PT,HW,PT];omega
 have hlen:l.conns.length=(A++B).length+1:=by rw[eC];simp;omega
 have hgc:(countGuess l.conns:Int)=countGuess (A++B)+(if c.guess=true then 1 else 0):=by rw[GH,GH,eC,List.countP_append,List.countP_cons,List.countP_append];split<;>simp<;>omega
 have hbase:∀ gs:List bv,(∀ g,g∈gs->rOk g.bd)->(∀ d,d∈A++B->d.guess=true->∀ g,g∈gs->g.to≠d.to)->S gs+(countGuess (A++B):Int)<=6->LI { l with conns:=A++B,guesses:=gs }:=λgs g1 g2 g3=>
  ⟨h.pi,h.mi,h.st,h.tx,h.bg,h.ed,λd hd=>h.cr d (hmem d hd),hn.2,λd hd=>h.ng d (hmem d hd),g2,g1,g3,h.nt,by show(A++B).length<=3;have:=h.l3;omega⟩
 have hu6:=h.u6;have hl0:LI { l with conns:=A++B }:=hbase l.guesses h.gr (λd hd=>h.gg d (hmem d hd)) (show S l.guesses+(countGuess (A++B):Int)<=6 by split at hgc<;>omega);have eq0:T { l with conns:=A++B }+cost c=T l+23:=by unfold T;show(l.parts.length:Int)-24*(dnP l.page:Int)-23*S l.guesses-23*((A++B).length:Int)+sumC (A++B)+cost c=_;omega
 unfold fini;rw[eG,eD];unfold finis;split
 .rename_i h1;have hnd:=(HG _ _).1 h1;have key:∀ n:P_,nOk n->LI { l with conns:=A++B,net:=n,page:=tak l.page c.to c.bd }/\T { l with conns:=A++B,net:=n,page:=tak l.page c.to c.bd }<T l:=λn hn2=>by
   have h2:=Ku hl0 (n:=n) (gs:=l.guesses) hrc.1 hn2 hnd hn.1 (λg hg=>⟨g,hg,rfl,rfl⟩) (Int.le_refl _) (show S l.guesses<=S l.guesses+1 from O);refine⟨h2.1,?_⟩;have hb:=h.bg;have t6:=(F5 (a:=c.to) h.pi h.mi hrc.1 O).2.2.2.2.2.1 hnd;have e:T { l with conns:=A++B,net:=n,page:=tak l.page c.to c.bd }=T { l with conns:=A++B }+24*(dnP l.page:Int)-24*(dnP (tak l.page c.to c.bd):Int):=by unfold T;show(l.parts.length:Int)-24*(dnP (tak l.page c.to c.bd):Int)-23*S l.guesses-23*((A++B).length:Int)+sumC (A++B)=(l.parts.length:Int)-24*(dnP l.page:Int)-23*S l.guesses-23*((A++B).length:Int)+sumC (A++B)+_-_;omega
   omega
  split
  .exact key _ (keep_nOk h.nt _ _ hrc.1)
  .exact key _ h.nt
 .rename_i h1;have hg:c.guess=true:=by
   cases hg:c.guess with
   | true=>rfl
   | false=>exact absurd ((HG _ _).2 (h.ng c hc hg)) h1
  rw[G_ hg];rw[G_ hg] at hgc;have hcg:(0:Int)<=countGuess (A++B):=O
  have hno:=h.gg c hc hg;have hf:findGuess l.guesses c.to<0:=by
   rcases Int.lt_or_le (findGuess l.guesses c.to) 0 with e|e
   .exact e
   .exfalso;have:=(GT (λg:bv=>decide (g.to=c.to)) l.guesses 0 O).1 e;obtain⟨g,g1,g2⟩:=bI.1 this;exact hno g g1 (ee g2)
  have ea:(addGuess l.guesses c.to c.bd).1=l.guesses++[⟨c.to,c.bd,false⟩]:=by
   unfold addGuess;have:S l.guesses<6:=O
   unfold S at this;rw[F_ O]
  show LI { l with conns:=A++B,guesses:=(addGuess l.guesses c.to c.bd).1 }/\T { l with conns:=A++B,guesses:=(addGuess l.guesses c.to c.bd).1 }<T l;rw[ea];have hu:S (l.guesses++[⟨c.to,c.bd,false⟩])=S l.guesses+1:=by rw[Q9];rfl
  refine⟨hbase _ (λg hg=>?_) (λd hd hdg g hg=>?_) (by rw[hu];omega),?_⟩
  .rcases ah.1 hg with hg|hg
   .exact h.gr g hg
   .rw[List.mem_singleton.1 hg];exact hrc.1
  .rcases ah.1 hg with hg|hg
   .exact h.gg d (hmem d hd) hdg g hg
   .rw[List.mem_singleton.1 hg];show c.to≠d.to;intro e;exact hn.1 (by rw[e];exact List.mem_map_of_mem hd)
  .have e:T { l with conns:=A++B,guesses:=l.guesses++[⟨c.to,c.bd,false⟩]}=T { l with conns:=A++B }-23:=by unfold T;show(l.parts.length:Int)-24*(dnP l.page:Int)-23*S (l.guesses++[⟨c.to,c.bd,false⟩])-23*((A++B).length:Int)+sumC (A++B)=(l.parts.length:Int)-24*(dnP l.page:Int)-23*S l.guesses-23*((A++B).length:Int)+sumC (A++B)-23;rw[hu];omega
   omega
def Ti:∀ (l:List ao) (z:Int),0<=z->fir l z<0->∀ c,c∈l->0<c.left
 | [],_,_,_,c,h=>by simp at h
 | d::l,z,hz,h,c,hc=>by
  rw[fir] at h;split at h
  .omega
  .rename_i e;rcases au.1 hc with hc|hc
   .rw[hc];omega
   .exact Ti l (z+1) O h c hc
def Ac7:∀ (n:Nat) {l:N_},LI l->LI (xfer n l)/\T (xfer n l)<=T l/\(1<=n->0<=fir l.conns 0->T (xfer n l)<T l)
 | 0,l,h=>⟨h,Int.le_refl _,λh=>O⟩
 | n+1,l,h=>by
  rw[xfer];split
  .exact⟨h,Int.le_refl _,λ_ _=>O⟩
  .rename_i h1;have h2:=Ct l.conns 0 O;have h3:=ZS h (k:=fir l.conns 0) O O;have ih:=Ac7 n h3.1;exact⟨ih.1,O,λ_ _=>O⟩
def Qi {l:N_} (h:LI l) {b:Int} (hb:20<=b/\b<=1000):LI (moved l b)/\T (moved l b)<=T l/\((∃ c,c∈l.conns/\0<c.left)->T (moved l b)<T l):=by
 have em:mov l.conns b=l.conns.map (moveO b):=by unfold mov;rw[G_ (by unfold inRange;simp;omega)]
 have hw:∀ c:ao,0<=c.left->c.left<=420->(moveO b c).left=max 0 (c.left-b):=λc h1 h2=>by unfold moveO;simp only;rw[AE ⟨O,O⟩]
 have hto:∀ m:List ao,(m.map (moveO b)).map (·.to)=m.map (·.to):=λm=>by rw[dz];rfl
 have hcg:∀ m:List ao,countGuess (m.map (moveO b))=countGuess m:=λm=>by rw[GH,GH,List.countP_map];rfl
 have hs:∀ m:List ao,(∀ c,c∈m->0<=c.left/\c.left<=420)->sumC (m.map (moveO b))<=sumC m/\((∃ c,c∈m/\0<c.left)->sumC (m.map (moveO b))<sumC m):=by
  intro m
  induction m with
  | nil=>intro _;exact⟨Int.le_refl _,λ⟨c,hc,_⟩=>by simp at hc⟩
  | cons d m ih=>
   intro hc;have i:=ih λc h1=>hc c (by simp[h1])
   have hd:=hc d (by simp);rw[aY,HW,HW];have e1:cost (moveO b d)<=cost d:=by unfold cost;rw[hw d hd.1 hd.2];omega
   refine⟨O,?_⟩;rintro⟨c,h1,h2⟩;rcases au.1 h1 with h1|h1
   .have e2:cost (moveO b d)<cost d:=by rw[h1] at h2;unfold cost;rw[hw d hd.1 hd.2];omega
    omega
   .have:=i.2 ⟨c,h1,h2⟩;omega
 have hsl:=hs l.conns λc hc=>(h.cr c hc).2
 unfold moved;rw[em];refine⟨⟨h.pi,h.mi,h.st,h.tx,h.bg,h.ed,?_,?_,?_,?_,h.gr,?_,h.nt,?_⟩,?_,?_⟩
 .intro c hc;obtain⟨d,hd,rfl⟩:=bM.1 hc;have h1:=h.cr d hd;refine⟨h1.1,?_⟩;rw[hw d h1.2.1 h1.2.2];have:=h1.2;omega
 .show((l.conns.map (moveO b)).map (·.to)).Nodup;rw[hto];exact h.nd
 .intro c hc;obtain⟨d,hd,rfl⟩:=bM.1 hc;exact h.ng d hd
 .intro c hc;obtain⟨d,hd,rfl⟩:=bM.1 hc;exact h.gg d hd
 .show S l.guesses+(countGuess (l.conns.map (moveO b)):Int)<=6;rw[hcg];exact h.u6
 .show(l.conns.map (moveO b)).length<=3;rw[cE];exact h.l3
 .unfold T;show(l.parts.length:Int)-24*(dnP l.page:Int)-23*S l.guesses-23*((l.conns.map (moveO b)).length:Int)+sumC (l.conns.map (moveO b))<=_;rw[cE];have:=hsl.1;omega
 .intro hx;unfold T;show(l.parts.length:Int)-24*(dnP l.page:Int)-23*S l.guesses-23*((l.conns.map (moveO b)).length:Int)+sumC (l.conns.map (moveO b))<_;rw[cE];have:=hsl.2 hx;omega
def AlI {l:N_} (h:LI l) {b:Int} (hb:20<=b/\b<=1000) (h2:(tra l b).2=true):LI (tra l b).1/\T (tra l b).1<T l:=by
 unfold tra at *
 split at h2
 .exact absurd (show false=true from h2) (by decide)
 .rename_i h3;rw[F_ h3];simp only[not_or] at h3;have hm:=Qi h hb;have hx:=Ac7 l.conns.length hm.1;refine⟨hx.1,?_⟩;show T (xfer l.conns.length (moved l b))<T l;rcases Int.lt_or_le (fir (moved l b).conns 0) 0 with e|e
  .-- none has ended: some had bytes left
   have h4:=Ti _ 0 O e;obtain⟨c,r,hc⟩:∃ c r,l.conns=c::r:=by
    cases hq:l.conns with
    | nil=>rw[hq] at h3;exact absurd rfl h3.1
    | cons c r=>exact⟨c,r,rfl⟩
   have hcm:c∈l.conns:=by rw[hc];simp
   have hmv:moveO b c∈(moved l b).conns:=by unfold moved mov;rw[G_ (by unfold inRange;simp;omega)];exact List.mem_map_of_mem hcm
   have h5:=h4 _ hmv;have h6:=(h.cr c hcm).2;have:0<c.left:=by unfold moveO at h5;simp only at h5;rw[AE ⟨O,O⟩] at h5;omega
   have:=hm.2.2 ⟨c,hcm,this⟩;have:=hx.2.1;omega
  .have:=hx.2.2 O e;have:=hm.2.1;omega
def AkJ {l:N_} (h:LI l) (n:Int) (h2:(ac l n).2=true):LI (ac l n).1/\T (ac l n).1<T l:=by
 unfold ac at *
 split at h2
 .rename_i e;rw[G_ e];exact AhQ h h2
 .rename_i e;rw[F_ e];split at h2
  .rename_i e;rw[G_ e];exact Al4 h h2
  .rename_i e;rw[F_ e];split at h2
   .rename_i e;rw[G_ e];exact AgN h h2
   .rename_i e;rw[F_ e];split at h2
    .rename_i e;rw[G_ e];exact AlI h O h2
    .rename_i e;rw[F_ e];exact AlI h O h2
def Wc {l:N_} (h:LI l) (c:Int):∀ n:Nat,LI (stepR l c n).1/\((stepR l c n).2=true->T (stepR l c n).1<T l)/\((stepR l c n).2=false->(stepR l c n).1=l/\∀ k:Nat,k<n->(ac l ((max 0 c % 5+(4-(k:Int))) % 5)).2=false)
 | 0=>⟨h,λe=>absurd (show false=true from e) (by decide),λ_=>⟨rfl,λk hk=>O⟩⟩
 | n+1=>by
  have ih:=Wc h c n;rw[stepR];split
  .rename_i e;have h1:=AkJ h _ e;exact⟨h1.1,λ_=>h1.2,λe2=>absurd (e.symm.trans e2) (by decide)⟩
  .rename_i e;refine⟨ih.1,ih.2.1,λe2=>⟨(ih.2.2 e2).1,λk hk=>?_⟩⟩;rcases Nat.lt_or_ge k n with q|q
   .exact(ih.2.2 e2).2 k q
   .have:k=n:=O
    rw[this];exact Bool.eq_false_iff.2 e
def Ae0 {l:N_} {c:Int} (h:∀ k:Nat,k<5->(ac l ((max 0 c % 5+(4-(k:Int))) % 5)).2=false):∀ n:Int,0<=n->n<5->(ac l n).2=false:=by
 intro n h0 h5;have e:∃ k:Nat,k<5/\(max 0 c % 5+(4-(k:Int))) % 5=n:=by refine⟨((max 0 c % 5+4-n) % 5).toNat,O,O⟩
 obtain⟨k,k1,k2⟩:=e;rw[<-k2];exact h k k1
def Abz {l:N_} (h:LI l) (h2:∀ n:Int,0<=n->n<5->(ac l n).2=false):finL l=true:=by
 have hp:l.parts.length=0:=by
  have:=h2 0 O O;unfold ac at this;rw[G_ rfl] at this;unfold arri at this;split at this
  .assumption
  .exact absurd this (by simp)
 have hc:l.conns=[]:=by
  have:=h2 4 O O;unfold ac at this;rw[F_ O,F_ O,F_ O,F_ O] at this;unfold tra at this;split at this
  .rename_i e;rcases e with e|e
   .exact List.length_eq_zero_iff.1 e
   .exact absurd e (by decide)
  .exact absurd this (by simp)
 have hn:∀ a,¬ need l.page a:=by
  intro a ha;obtain⟨r,hr,_⟩:=(Ix _ _).2 ha;have h1:=h2 1 O O;unfold ac at h1;rw[F_ O,G_ rfl] at h1;have hq:0<=reqP l:=by unfold reqP req busyOf;rw[hc,List.map_nil,Nz];exact T3 _ (λe=>by rw[e] at hr;simp at hr)
  unfold requ at h1;rw[F_ O] at h1;split at h1
  .exact absurd h1 (by simp)
  .rw[F_ (by rw[hc];simp)] at h1;exact absurd h1 (by simp)
 have e1:∀ s,s∈l.page.bf->s.done=true:=λs hs=>by
  cases hd:s.done with
  | true=>rfl
  | false=>exact absurd (.inl ⟨s,hs,hd,rfl⟩) (hn s.to)
 have e2:∀ m,m∈l.page.bi->m.done=true:=λm hm=>by
  cases hd:m.done with
  | true=>rfl
  | false=>exact absurd (.inr ⟨m,hm,hd,rfl⟩) (hn m.to)
 have:=LR h.pi h.mi (by rw[h.ed,hp];rfl) e1 e2 h.st;unfold finL;rw[this,hp];rfl
def K2 {l:N_} (h:LI l) (c:Int):LI (stepTo l c)/\T (stepTo l c)<=T l/\((stepL l c).2=true->T (stepTo l c)<T l)/\((stepL l c).2=false->finL l=true):=by
 have h1:=Wc h c 5;unfold stepTo stepL;refine⟨h1.1,?_,h1.2.1,λe=>Abz h (Ae0 (h1.2.2 e).2)⟩;cases e:(stepR l c 5).2 with
 | true=>have:=h1.2.1 e;omega
 | false=>rw[(h1.2.2 e).1];exact Int.le_refl _
def Aam:∀ (n:Nat) {l:N_},LI l->T l+903<n->finL (runB n l)=true/\LI (runB n l)
 | 0,l,h,hn=>by have:=AkM h;omega
 | n+1,l,h,hn=>by
  have hs:=K2 h 0;rw[runB];split
  .rename_i e;exact⟨e,h⟩
  .split
   .rename_i e2;have:=hs.2.2.1 e2;exact Aam n hs.1 O
   .rename_i e1 e2;exact absurd (hs.2.2.2 (Bool.eq_false_iff.2 e2)) e1
def Qh:∀ (cs:List Int) {l:N_},LI l->LI (cs.foldl stepTo l)/\T (cs.foldl stepTo l)<=T l
 | [],l,h=>⟨h,Int.le_refl _⟩
 | c::cs,l,h=>by have h1:=K2 h c;have ih:=Qh cs h1.1;rw[dy];exact⟨ih.1,O⟩
def Aik {l:N_} (h:LI l) (hl:T l<=90) (cs:List Int):finL (runLo l cs)=true/\LI (runLo l cs):=by
 have h1:=Qh (cs.take 100) h;exact Aam 1000 h1.1 O
def fR (R:HO->M_) (p:A_) (s:av):av:=fillS p (R s.to) s
def cq (R:HO->M_) (p:A_) (q0:List ai):A_:={ p with bf:=p.bf.map (fR R p),bi:=[],bp:=p.bp++q0,tok:=default,ended:=true }
def KP_ (R:HO->M_) (p:A_):A_:={ p with bf:=p.bf.map (fR R p),bi:=[]}
def MT {R:HO->M_} (p:A_) {s:av} (h:s.done=true):fR R p s=s:=by unfold fR fillS;rw[G_ h]
def Ad4 (R:HO->M_) (p:A_) (s:av):(fR R p s).done=true/\(fR R p s).mode=s.mode/\(fR R p s).to=s.to:=by
 unfold fR fillS;split
 .rename_i h;exact⟨h,rfl,rfl⟩
 .exact⟨rfl,rfl,rfl⟩
def Adx (R:HO->M_) (p q:A_) (s:av):fR R q (fR R p s)=fR R p s:=MT q (Ad4 R p s).1
def Aba (R:HO->M_) (p q:A_) (l:List av):(l.map (fR R p)).map (fR R q)=l.map (fR R p):=by
 rw[dz];exact List.map_congr_left λs _=>Adx R p q s
def Ud (R:HO->M_) (p:A_) (q0:List ai):KP_ R (cq R p q0)=cq R p q0:=by
 unfold KP_ cq;simp only[Aba]
def PQ (R:HO->M_) (p:A_) (l:List av):sty (l.map (fR R p))=true:=by
 refine NY λs hs=>?_
 obtain⟨t,_,rfl⟩:=bM.1 hs;exact(Ad4 R p t).1
def UY (R:HO->M_) (p:A_):∀ l:List av,sty l=true->she (l.map (fR R p))=she l
 | [],_=>rfl
 | s::l,h=>by
  unfold sty at h;rw[List.all_cons,T_] at h;have ih:=UY R p l h.2;unfold she at *
  rw[aY,List.filter_cons,List.filter_cons];by_cases hm:s.mode=2
  .have hd:s.done=true:=by have:=h.1;rw[hm] at this;simpa using this
   rw[MT p hd];split
   .rw[aY,aY,ih]
   .exact ih
  .rw[F_ (by rw[(Ad4 R p s).2.1];simp[hm]),F_ (by simp[hm])];exact ih
def AcD {R:HO->M_} {p:A_} (q0:List ai) (c:ByteArray) (w:Bool) (h:sty p.bf=true):runC (cq R p q0) c w=cq R (runC p c w) q0:=by
 have hs:rsOf (cq R p q0) c=rsOf p c:=by unfold rsOf;show runS p.ba (she (p.bf.map (fR R p))) _=_;rw[UY R p p.bf h]
 unfold runC;rw[hs];split
 .cases w with
  | true=>
   simp only[aD];unfold cq;simp only[A_.mk.injEq,true_and,and_true];exact⟨(bK _ _ _).symm,rfl⟩
  | false=>rfl
 .rfl
def QF (R:HO->M_) (p:A_) (q0:List ai) (m:Int) (to dg:ByteArray) (n:Int):KP_ R (addS (cq R p q0) m to dg n).1=cq R (addS p m to dg n).1 q0/\(addS (cq R p q0) m to dg n).2=(addS p m to dg n).2:=by
 have hl:(cq R p q0).bf.length=p.bf.length:=by show(p.bf.map _).length=_;rw[cE]
 unfold addS;rw[hl];split
 .refine⟨?_,by rfl⟩;show KP_ R { cq R p q0 with bf:=p.bf.map (fR R p)++[newS p m to dg n]}=cq R { p with bf:=p.bf++[newS p m to dg n]} q0;unfold KP_ cq;simp only[A_.mk.injEq,true_and,and_true,fu];show(p.bf.map (fR R p)).map (fR R p)++_=_;rw[Aba];rfl
 .exact⟨Ud R p q0,rfl⟩
def AeU (R:HO->M_) (p:A_) (q0:List ai) (to:ByteArray):KP_ R (addE (cq R p q0) to)=cq R (addE p to) q0:=by
 unfold addE;show KP_ R (if(par to p.addr.host).2=true/\p.bh.length<20 then _ else _)=_;split
 .rw[LQ,LQ];show KP_ R { cq R p q0 with bi:=_,bh:=_ }=_;unfold KP_ cq;simp only[A_.mk.injEq,true_and,and_true];show(p.bf.map (fR R p)).map (fR R p)=_;rw[Aba];rfl
 .exact Ud R p q0
def Aga {R:HO->M_} {p:A_} (q0:List ai) (h:0<p.bp.length) (t:ai):taken (cq R p q0) t=cq R (taken p t) q0:=by
 unfold taken cq;simp only[A_.mk.injEq,true_and,and_true];refine⟨?_,rfl⟩;rw[List.drop_append_of_le_length O]
def AcI (R:HO->M_) (p:A_) (q0:List ai) (n:Int):KP_ R (scri (cq R p q0) n)=cq R (scri p n) q0:=by
 have e1:(cq R p q0).ba=p.ba:=rfl;have e2:(cq R p q0).bm=p.bm:=rfl;unfold scri;rw[e1,e2];split
 .split
  .exact Ud R { p with inline:=n } q0
  .exact Ud R p q0
 .split
  .exact(QF R p q0 4 _ _ n).1
  .split
   .exact AeU R p q0 _
   .have hs:=QF R p q0 3 ((findAttr (p.ba.bj.getD n.toNat default).bq ⟨#[115,114,99]⟩).getD ⟨#[]⟩) ((findAttr (p.ba.bj.getD n.toNat default).bq ⟨#[100,105,103,101,115,116]⟩).getD ⟨#[]⟩) n;have e:∀ (q:A_) (b:Int),KP_ R { q with block:=b }={ KP_ R q with block:=b }:=λ_ _=>rfl
    rw[e,hs.1,hs.2];rfl
def AjY {R:HO->M_} {p:A_} (q0:List ai) (h:(takeToke p).2=true):(takeToke (cq R p q0)).2=true/\KP_ R (takeToke (cq R p q0)).1=cq R (takeToke p).1 q0:=by
 unfold takeToke at *
 split at h
 .exact absurd (show false=true from h) (by decide)
 .rename_i hc;simp only[not_or] at hc;have hq:0<p.bp.length:=Nat.pos_of_ne_zero hc.1;have hq2:(cq R p q0).bp=p.bp++q0:=rfl;rw[F_ (by rw[hq2];simp only[not_or];exact⟨by rw[al];omega,hc.2⟩)];rw[F_ (by simp only[not_or];exact hc)];refine⟨rfl,?_⟩;have hh:(cq R p q0).bp.getD 0 default=p.bp.getD 0 default:=by rw[hq2,bB,bB,cN hq]
  simp only;rw[hh];unfold takeT;rw[Aga q0 hq];show KP_ R (if(p.bp.getD 0 default).kind=1/\0<=(addT p.ba (p.bp.getD 0 default)).2 then _ else if isScri p (p.bp.getD 0 default)=true then _ else _)=_;split
  .unfold ele;split
   .exact(QF R _ q0 _ _ _ _).1
   .split
    .exact(QF R _ q0 _ _ _ _).1
    .exact Ud R _ q0
  .split
   .exact AcI R _ q0 _
   .exact Ud R _ q0
def Abh {R:HO->M_} {p:A_} (q0:List ai) (h:(stepP p).2=true):(stepP (cq R p q0)).2=true/\KP_ R (stepP (cq R p q0)).1=cq R (stepP p).1 q0:=by
 unfold stepP at *
 split at h
 .rename_i h0;rw[G_ h0,G_ (show(cq R p q0).inline≠0 from h0)];unfold stepI at *
  split at h
  .rename_i h1;rw[G_ h1,G_ (show sty (cq R p q0).bf=true from PQ R p p.bf)];refine⟨rfl,?_⟩;show KP_ R { runC (cq R p q0) (tex p.inline p.ba.bj ⟨#[]⟩) true with inline:=0 }=_;rw[AcD q0 _ _ h1];exact Ud R { runC p (tex p.inline p.ba.bj ⟨#[]⟩) true with inline:=0 } q0
  .exact absurd (show false=true from h) (by decide)
 .rename_i h0;rw[F_ h0,F_ (show ¬ (cq R p q0).inline≠0 from h0)];split at h
  .rename_i h1;rw[G_ h1,G_ (show(cq R p q0).block≠0 from h1)];have hl:(cq R p q0).bf.length=p.bf.length:=by show(p.bf.map _).length=_;rw[cE]
   unfold stepB at *
   rw[hl];show((if ¬ (0<=blk p/\blk p<p.bf.length) then _ else _:A_×Bool)).2=true/\KP_ R ((if ¬ (0<=blk p/\blk p<p.bf.length) then _ else _:A_×Bool)).1=_;split at h
   .rename_i h2;rw[G_ h2,G_ h2];exact⟨rfl,Ud R { p with block:=0 } q0⟩
   .rename_i h2;rw[F_ h2,F_ h2];split at h
    .exact absurd (show false=true from h) (by decide)
    .rename_i h3;rw[F_ h3];simp only[not_or,Bool.not_eq_false] at h3;have hin:(blk p).toNat<p.bf.length:=O
     have hg:(cq R p q0).bf.getD (blk p).toNat default=p.bf.getD (blk p).toNat default:=by
      show(p.bf.map (fR R p)).getD _ default=_;rw[bB,cz,aH hin];have e:p.bf.getD (blk p).toNat default=p.bf[(blk p).toNat]:=by rw[bB,aH hin];rfl
      rw[e] at h3 ⊢;exact MT p h3.1
     show((if((cq R p q0).bf.getD (blk p).toNat default).done=false\/sty (cq R p q0).bf=false then _ else if((cq R p q0).bf.getD (blk p).toNat default).code=1 then _ else _:A_×Bool)).2=true/\KP_ R ((if((cq R p q0).bf.getD (blk p).toNat default).done=false\/sty (cq R p q0).bf=false then _ else if((cq R p q0).bf.getD (blk p).toNat default).code=1 then _ else _:A_×Bool)).1=_;have hn:¬ (((cq R p q0).bf.getD (blk p).toNat default).done=false\/sty (cq R p q0).bf=false):=by rw[hg];simp only[not_or,Bool.not_eq_false];exact⟨h3.1,PQ R p p.bf⟩
     rw[F_ hn];rw[hg];split
     .refine⟨rfl,?_⟩;show KP_ R { runC (cq R p q0) ((cq R p q0).bf.getD (blk p).toNat default).body true with block:=0 }=_;rw[hg,AcD q0 _ _ h3.2];exact Ud R { runC p (p.bf.getD (blk p).toNat default).body true with block:=0 } q0
     .exact⟨rfl,Ud R { p with block:=0 } q0⟩
  .rename_i h1;rw[F_ h1,F_ (show ¬ (cq R p q0).block≠0 from h1)];exact AjY q0 h
def mR (R:HO->M_) (po:aA) (ho:ByteArray) (a:HO):Z_:=if checkRequest po ⟨5,a,ho,⟨#[]⟩⟩=1 then⟨a,true,checkResponse po ⟨5,a,ho,⟨#[]⟩⟩ (R a),(usable po ⟨5,a,ho,⟨#[]⟩⟩ (R a)).1⟩ else⟨a,true,2,⟨#[]⟩⟩
abbrev mP (R:HO->M_) (p:A_) (a:HO):Z_:=mR R p.bm p.addr.host a
def mRight (R:HO->M_) (p:A_):Prop:=∀ m,m∈p.bi->m.done=true->m=mP R p m.to
def Am2 (R:HO->M_) (po:aA) (ho:ByteArray) (a:HO):(mR R po ho a).to=a:=by unfold mR;split<;>rfl
def impR (m:Z_):List HO×List bU×Bool:=if m.code=1 then parseM m.body m.to.host else([],[],false)
def hasD (p:A_) (a:HO):Prop:=0<=findM p.bi a/\(p.bi.getD (findM p.bi a).toNat default).done=true
def Ag9 {R:HO->M_} {p:A_} (hr:mRight R p) {a:HO} (h:hasD p a):p.bi.getD (findM p.bi a).toNat default=mP R p a:=by
 have:=hr _ (HI h.1) h.2;rw[DM h.1] at this;exact this
def SK {R:HO->M_} {p:A_} (hr:mRight R p) {a:HO} (h:hasD p a):impo p a=((impR (mP R p a)).1,(impR (mP R p a)).2.2):=by
 have hg:=Ag9 hr h;have h2:=h.2;unfold impo impR;rw[hg] at h2 ⊢;by_cases hc:(mP R p a).code=1
 .rw[F_ (by rw[h2,hc];simp;exact h.1),G_ hc,Am2]
 .rw[G_ (.inr (.inr hc)),F_ hc]
def visitR (g:HO->List HO):Nat->HO->List HO×List HO->List HO×List HO
 | 0,_,st=>st
 | f+1,a,st=>if inL st.1 a=true then st else
  (((g a).foldl (λst b=>visitR g f b st) (st.1++[a],st.2)).1,((g a).foldl (λst b=>visitR g f b st) (st.1++[a],st.2)).2++[a])
def PB:∀ (f:Nat) (p:A_) (a:HO) (st:aG),∃ l,(visitF f p a st).2=st.2++l
 | 0,p,a,st=>⟨[],by simp[visitF]⟩
 | f+1,p,a,st=>by
  have hf:∀ (l:List HO) (st:aG),∃ r,(l.foldl (λst b=>visitF f p b st) st).2=st.2++r:=by
   intro l
   induction l with
   | nil=>intro st;exact⟨[],by simp⟩
   | cons b l ih=>
    intro st;obtain⟨r1,e1⟩:=PB f p b st;obtain⟨r2,e2⟩:=ih (visitF f p b st);exact⟨r1++r2,by rw[dy,e2,e1,bK]⟩
  rw[visitF];split
  .exact⟨[],by simp⟩
  .obtain⟨r,e⟩:=hf (impo p a).1 (st.1++[a],st.2);exact⟨r++[a],by rw[e];simp⟩
def S0 (f:Nat) (p:A_):∀ (l:List HO) (st:aG),∃ r,(l.foldl (λst b=>visitF f p b st) st).2=st.2++r
 | [],st=>⟨[],by simp⟩
 | b::l,st=>by obtain⟨r1,e1⟩:=PB f p b st;obtain⟨r2,e2⟩:=S0 f p l (visitF f p b st);exact⟨r1++r2,by rw[dy,e2,e1,bK]⟩
def Aev {p:A_} {g:HO->List HO} (hg:∀ a,hasD p a->(impo p a).1=g a):∀ (f:Nat) (a:HO) (st:aG),(∀ b,b∈(visitF f p a st).2->hasD p b)->visitF f p a st=visitR g f a st
 | 0,a,st,_=>rfl
 | f+1,a,st,h=>by
  rw[visitF] at h ⊢;rw[visitR];split
  .rfl
  .rename_i hs;rw[F_ hs] at h;have hf:∀ (l:List HO) (st0:aG),(∀ b,b∈(l.foldl (λst b=>visitF f p b st) st0).2->hasD p b)->l.foldl (λst b=>visitF f p b st) st0=l.foldl (λst b=>visitR g f b st) st0:=by
    intro l
    induction l with
    | nil=>intro st0 _;rfl
    | cons b l ih=>
     intro st0 h0;rw[dy] at h0;obtain⟨r,e⟩:=S0 f p l (visitF f p b st0);have hb:visitF f p b st0=visitR g f b st0:=Aev hg f b st0 λc hc=>h0 c (by rw[e];exact List.mem_append_left _ hc)
     rw[dy,dy,ih _ h0,hb]
   have hda:hasD p a:=h a (List.mem_append_right _ (by simp));rw[<-hg a hda,hf (impo p a).1 (st.1++[a],st.2) λb hb=>h b (List.mem_append_left _ hb)]
def AbW {R:HO->M_} {p:A_} (hr:mRight R p) (hl:p.bi.length<=9) {a:HO} (h:∀ b,b∈rea p a->hasD p b):rea p a=(visitR (λb=>(impR (mP R p b)).1) 100 a ([],[])).2:=by
 have hm:muV p []<=p.bi.length:=List.length_filter_le _ _;have hs:=H8 (p.bi.length+1) 100 p a ([],[]) (show muV p []<_ from O) (show muV p []<_ from O);have e:rea p a=(visitF 100 p a ([],[])).2:=cG Prod.snd hs;rw[e] at h ⊢;rw[Aev (g:=λb=>(impR (mP R p b)).1) (λb hb=>by rw[SK hr hb]) 100 a ([],[]) h]
def AdT {p:A_} {a:HO} (h:grap p a=true):∀ b,b∈rea p a->hasD p b:=λb hb=>by
 have:=aM.1 h b hb;simp only[T_,az] at this;exact this
def AkH {R:HO->M_} {p:A_} (hr:mRight R p) {b:HO} (h:hasD p b):entL p b=(parseM (mP R p b).body b.host).2.1:=by unfold entL;rw[Ag9 hr h]
def Ki {R:HO->M_} {p q:A_} (hp:mRight R p) (hq:mRight R q) (h1:q.bm=p.bm) (h2:q.addr=p.addr) (h3:she q.bf=she p.bf):∀ (l:List HO) (x y:A_),(∀ b,b∈l->hasD p b/\hasD q b)->x.ba=y.ba->x.ran=y.ran->x.log=y.log->(enterA p x l).ba=(enterA q y l).ba/\(enterA p x l).ran=(enterA q y l).ran/\(enterA p x l).log=(enterA q y l).log
 | [],x,y,_,e1,e2,e3=>⟨e1,e2,e3⟩
 | b::l,x,y,h,e1,e2,e3=>by
  have hb:=h b (by simp);have er:entRun p x b=entRun q y b:=by unfold entRun;rw[h3,e1,AkH hp hb.1,AkH hq hb.2];unfold mP;rw[h1,h2]
  have hx:(enter1 p x b).ba=(enter1 q y b).ba/\(enter1 p x b).ran=(enter1 q y b).ran/\(enter1 p x b).log=(enter1 q y b).log:=by
   unfold enter1;rw[er,e2,e3];split
   .exact⟨e1,e2,e3⟩
   .exact⟨rfl,rfl,rfl⟩
  exact Ki hp hq h1 h2 h3 l _ _ (λc hc=>h c (by simp[hc])) hx.1 hx.2.1 hx.2.2
def Wq (p:A_) (a:HO):enter p a={ p with ba:=(enter p a).ba,ran:=(enter p a).ran,log:=(enter p a).log }:=by
 have h:∀ (l:List HO) (q:A_),enterA p q l={ q with ba:=(enterA p q l).ba,ran:=(enterA p q l).ran,log:=(enterA p q l).log }:=by
  intro l
  induction l with
  | nil=>intro q;rfl
  | cons b l ih=>
   intro q;have e:enterA p q (b::l)=enterA p (enter1 p q b) l:=rfl;rw[e,ih];unfold enter1;split<;>rfl
 unfold enter;split
 .unfold say;split<;>rfl
 .exact h _ _
def Ui {R:HO->M_} {p q:A_} (hp:mRight R p) (hq:mRight R q) (hlp:p.bi.length<=9) (hlq:q.bi.length<=9) (h1:q.bm=p.bm) (h2:q.addr=p.addr) (h3:she q.bf=she p.bf) (e1:p.ba=q.ba) (e2:p.ran=q.ran) (e3:p.log=q.log) {a:HO} (hap:∀ b,b∈rea p a->hasD p b) (haq:∀ b,b∈rea q a->hasD q b):(enter p a).ba=(enter q a).ba/\(enter p a).ran=(enter q a).ran/\(enter p a).log=(enter q a).log:=by
 have hr:rea q a=rea p a:=by rw[AbW hp hlp hap,AbW hq hlq haq];unfold mP;rw[h1,h2]
 have hf:gra q a=gra p a:=by
  unfold gra;rw[hr];have:∀ l:List HO,(∀ b,b∈l->hasD p b/\hasD q b)->l.any (λb=>!(impo q b).2)=l.any (λb=>!(impo p b).2):=by
   intro l
   induction l with
   | nil=>intro _;rfl
   | cons b l ih=>
    intro h;rw[List.any_cons,List.any_cons,ih λc hc=>h c (by simp[hc]),SK hp (h b (by simp)).1,SK hq (h b (by simp)).2];unfold mP;rw[h1,h2]
  exact this _ λb hb=>⟨hap b hb,haq b (by rw[hr];exact hb)⟩
 unfold enter;rw[hf];split
 .unfold say;rw[e3];split
  .exact⟨e1,e2,rfl⟩
  .exact⟨e1,e2,e3⟩
 .rw[hr];exact Ki hp hq h1 h2 h3 _ _ _ (λb hb=>⟨hap b hb,haq b (by rw[hr];exact hb)⟩) e1 e2 e3
def NI {J:Type} (f:J->Bool) (g:J->J) (h:∀ x,f (g x)=f x):∀ (l:List J) (k:Int),openI f (l.map g) k=openI f l k
 | [],_=>rfl
 | x::l,k=>by rw[aY,openI,openI,h x,NI f g h l]
def wM (p:A_) (Q:List Z_):A_:={ p with bi:=Q }
def AiX {R:HO->M_} {p:A_} {Q:List Z_} (hpi:PI p) (hmi:MI p) (hr:mRight R p) (hQ:MI (wM p Q)) (hQd:∀ m,m∈Q->m.done=true) (hQr:mRight R (wM p Q)) (h:(stepT p).2=true):(stepT (wM (cq R p []) Q)).2=true/\KP_ R (stepT (wM (cq R p []) Q)).1=cq R (stepT p).1 []:=by
 have hsz:(cq R p []).bf.length=p.bf.length:=by show(p.bf.map _).length=_;rw[cE]
 unfold stepT at *
 split at h
 .exact absurd (show false=true from h) (by decide)
 .rename_i h0;rw[F_ h0];simp only[not_or,Bool.not_eq_false] at h0;have hps:isParsed (wM (cq R p []) Q)=true:=by have h1:=h0.1;unfold isParsed at h1 ⊢;simp only[T_,az] at h1 ⊢;refine⟨rfl,?_,h1.2.2⟩;show(p.bp++[]).length=0;rw[cS];exact h1.2.1
  have hed:p.ended=true:=by have h1:=h0.1;unfold isParsed at h1;simp only[T_] at h1;exact h1.1
  rw[F_ (by simp only[not_or,Bool.not_eq_false];exact⟨hps,h0.2⟩)];have hdf:defe (wM (cq R p []) Q)=defe p:=NI _ _ (λs=>by rw[(Ad4 R p s).2.1]) _ _;rw[hdf];split at h
  .rename_i h1;rw[G_ h1,G_ (show(wM (cq R p []) Q).bo<((defe p).length:Int) from h1)];unfold tai at *
   split at h
   .exact absurd (show false=true from h) (by decide)
   .rename_i h2;rw[F_ h2];simp only[not_or,Bool.not_eq_false] at h2;have hin:((defe p).getD p.bo.toNat default).toNat<p.bf.length:=by
     have hd:=hpi.df;have:=DT (λs:av=>decide (s.mode=4)) p.bf 0 _ (Ae (l:=defe p) (i:=p.bo.toNat) O);have e2:=this.1;have e3:=this.2;show((defe p).getD p.bo.toNat default).toNat<p.bf.length;unfold defe at *
     omega
    have hd:defS (wM (cq R p []) Q)=defS p:=by
     have h3:=h2.1;unfold defS at h3 ⊢;rw[hdf];show(p.bf.map (fR R p)).getD ((defe p).getD p.bo.toNat default).toNat default=_;rw[bB,cz,aH hin];have e:p.bf.getD ((defe p).getD p.bo.toNat default).toNat default=p.bf[((defe p).getD p.bo.toNat default).toNat]:=by rw[bB,aH hin];rfl
     rw[e] at h3 ⊢;exact MT p h3
    rw[hd];rw[F_ (by simp only[not_or,Bool.not_eq_false];exact⟨h2.1,PQ R p p.bf⟩)];split
    .refine⟨rfl,?_⟩;have e:runC (wM (cq R p []) Q) (defS p).body false=wM (runC (cq R p []) (defS p).body false) Q:=by unfold runC;split<;>rfl
     show KP_ R { runC (wM (cq R p []) Q) (defS p).body false with bo:=p.bo+1 }=_;rw[e,AcD [] _ _ h2.2];exact Ud R { runC p (defS p).body false with bo:=p.bo+1 } []
    .exact⟨rfl,Ud R { p with bo:=p.bo+1 } []⟩
  .rename_i h1;rw[F_ h1,F_ (show ¬ (wM (cq R p []) Q).bo<((defe p).length:Int) from h1)];split at h
   .rename_i h2;rw[G_ h2,G_ (show(wM (cq R p []) Q).bu<((wM (cq R p []) Q).bh.length:Int) from h2)];unfold tailE at *
    split at h
    .exact absurd (show false=true from h) (by decide)
    .rename_i h3;rw[F_ h3];simp only[not_or,Bool.not_eq_false] at h3;have hen:=hpi.en;have hea:entN p∈p.bh:=Ae O;have hce:entN (wM (cq R p []) Q)=entN p:=rfl;rw[hce];have hhq:∀ b,b∈rea (wM (cq R p []) Q) (entN p)->hasD (wM (cq R p []) Q) b:=λb hb=>by have hmq:MI (wM (cq R p []) Q):=Cl hQ rfl rfl rfl;have hh:=SA hmq (hmq.en _ hea) hb;have h5:=Mc hh;exact⟨h5,hQd _ (HI h5)⟩
     have hgr:grap (wM (cq R p []) Q) (entN p)=true:=aM.2 λb hb=>by have:=hhq b hb;rw[cP this.1,this.2];rfl
     rw[F_ (by simp only[not_or,Bool.not_eq_false];exact⟨hgr,PQ R p p.bf⟩)];refine⟨rfl,?_⟩;have hlQ:(wM p Q).bi.length<=9:=TB hQ;have hs:=Ui (R:=R) (p:=p) (q:=(wM (cq R p []) Q)) hr hQr (TB hmi) hlQ rfl rfl (UY R p p.bf h3.2) rfl rfl rfl (AdT h3.1) hhq;show KP_ R { enter (wM (cq R p []) Q) (entN p) with bu:=p.bu+1 }=cq R { enter p (entN p) with bu:=p.bu+1 } [];rw[Wq (wM (cq R p []) Q),Wq p,<-hs.1,<-hs.2.1,<-hs.2.2];exact Ud R { p with ba:=(enter p (entN p)).ba,ran:=(enter p (entN p)).ran,log:=(enter p (entN p)).log,bu:=p.bu+1 } []
   .rename_i h2;rw[F_ h2,F_ (show ¬ (wM (cq R p []) Q).bu<((wM (cq R p []) Q).bh.length:Int) from h2)];split at h
    .exact absurd (show false=true from h) (by decide)
    .rename_i h3;rw[F_ h3];have e1:openSl (wM (cq R p []) Q)=[]:=KD _ _ _ λs hs=>by obtain⟨t,_,rfl⟩:=bM.1 (show s∈p.bf.map (fR R p) from hs);rw[(Ad4 R p t).1];rfl
     have e2:openM (wM (cq R p []) Q)=[]:=KD _ _ _ λm hm=>by rw[hQd m hm];rfl
     rw[F_ (by rw[e1,e2];simp)];refine⟨rfl,?_⟩;unfold say;show KP_ R { (if p.log.length<40 then _ else _:A_) with loaded:=true }=cq R { (if p.log.length<40 then _ else _:A_) with loaded:=true } [];split
     .exact Ud R { p with log:=p.log++[_],loaded:=true } []
     .exact Ud R { p with loaded:=true } []
def iS (R:HO->M_) (Q:List Z_) (P:A_):A_×Bool :=
 if(stepP P).2=true then(KP_ R (stepP P).1,true)
 else if(stepT (wM P Q)).2=true then(KP_ R (stepT (wM P Q)).1,true) else(P,false)
def iN (R:HO->M_) (Q:List Z_):Nat->A_->A_
 | 0,P=>P
 | n+1,P=>if(iS R Q P).2=true then iN R Q n (iS R Q P).1 else P
def W7 {R:HO->M_} {Q:List Z_} {P:A_} (h:(iS R Q P).2=false):∀ n,iN R Q n P=P
 | 0=>rfl
 | n+1=>by rw[iN,F_ (by rw[h];decide)]
def Tt (R:HO->M_) (Q:List Z_):∀ (m n:Nat) (P:A_),iN R Q n (iN R Q m P)=iN R Q (m+n) P
 | 0,n,P=>by rw[cM];rfl
 | m+1,n,P=>by
  rw[iN];split
  .rename_i h;rw[Tt R Q m n,Nat.add_right_comm m 1 n,iN,G_ h]
  .rename_i h;have h:=Bool.eq_false_iff.2 h;rw[W7 h,W7 h]
def AcP {R:HO->M_} {Q:List Z_} {P:A_} {m n:Nat} (h1:(iS R Q (iN R Q m P)).2=false) (h2:(iS R Q (iN R Q n P)).2=false):iN R Q m P=iN R Q n P:=by
 rcases Nat.le_total m n with h|h
 .have:=Tt R Q m (n-m) P;rw[W7 h1,Nat.add_sub_of_le h] at this;exact this
 .have:=Tt R Q n (m-n) P;rw[W7 h2,Nat.add_sub_of_le h] at this;exact this.symm
def MR (R:HO->M_) (p:A_):Prop:=∀ m,m∈p.bi->(m.done=true->m=mP R p m.to)/\(m.done=false->checkRequest p.bm ⟨5,m.to,p.addr.host,⟨#[]⟩⟩=1)
def PX {R:HO->M_} {p:A_} (h:MR R p):mRight R p:=λm hm=>(h m hm).1
def Lj {R:HO->M_} {p q:A_} (h:MR R p) (h1:q.bi=p.bi) (h2:q.bm=p.bm) (h3:q.addr=p.addr):MR R q:=by
 intro m hm;rw[h1] at hm;have:=h m hm;unfold mP at *
 rw[h2,h3];exact this
def Ael {R:HO->M_} {p:A_} (h:MR R p) (a:HO):MR R (askM p a):=by
 rw[LQ];intro m hm;rcases Fh hm with hm|hm
 .exact h m hm
 .have e:newM p a=if checkRequest p.bm ⟨5,a,p.addr.host,⟨#[]⟩⟩=1 then⟨a,false,0,⟨#[]⟩⟩ else⟨a,true,2,⟨#[]⟩⟩:=rfl
  by_cases hc:checkRequest p.bm ⟨5,a,p.addr.host,⟨#[]⟩⟩=1
  .rw[G_ hc] at e;rw[hm,e];exact⟨λq=>absurd (show false=true from q) (by decide),λ_=>hc⟩
  .rw[F_ hc] at e;rw[hm,e];refine⟨λ_=>?_,λq=>absurd (show true=false from q) (by decide)⟩;unfold mP mR;exact(F_ hc).symm
def mdE (p q:A_):Prop:=q.bm=p.bm/\q.addr=p.addr/\((q.bi=p.bi/\q.bh=p.bh)\/∃ a,q.bi=insM (newM p a) p.bi/\q.bh=p.bh++[a])
def BQ {p q:A_} (h0:q.bm=p.bm) (h1:q.addr=p.addr) (h2:q.bi=p.bi) (h3:q.bh=p.bh):mdE p q:=⟨h0,h1,.inl ⟨h2,h3⟩⟩
def Mh (p:A_) (m:Int) (to dg:ByteArray) (n:Int):mdE p (addS p m to dg n).1:=by
 unfold addS;split<;>exact BQ rfl rfl rfl rfl
def TZ (p:A_) (c:ByteArray) (w:Bool):mdE p (runC p c w):=by
 unfold runC;split<;>exact BQ rfl rfl rfl rfl
def NN (p:A_):mdE p (step1 p).1:=by
 unfold step1;split
 .unfold stepP;split
  .unfold stepI;split
   .exact TZ p (tex p.inline p.ba.bj ⟨#[]⟩) true
   .exact BQ rfl rfl rfl rfl
  .split
   .unfold stepB;split
    .exact BQ rfl rfl rfl rfl
    .split
     .exact BQ rfl rfl rfl rfl
     .split
      .exact TZ p (p.bf.getD (blk p).toNat default).body true
      .exact BQ rfl rfl rfl rfl
   .unfold takeToke;split
    .exact BQ rfl rfl rfl rfl
    .show mdE p (takeT p (p.bp.getD 0 default));unfold takeT;split
     .unfold ele;split
      .exact Mh (taken p (p.bp.getD 0 default)) _ _ _ _
      .split
       .exact Mh (taken p (p.bp.getD 0 default)) _ _ _ _
       .exact BQ rfl rfl rfl rfl
     .split
      .unfold scri;split
       .split<;>exact BQ rfl rfl rfl rfl
       .split
        .exact Mh (taken p (p.bp.getD 0 default)) _ _ _ _
        .split
         .unfold addE;split
          .rw[LQ];exact⟨rfl,rfl,.inr ⟨_,rfl,rfl⟩⟩
          .exact BQ rfl rfl rfl rfl
         .exact Mh (taken p (p.bp.getD 0 default)) 3 _ _ _
      .exact BQ rfl rfl rfl rfl
 .unfold stepT;split
  .exact BQ rfl rfl rfl rfl
  .split
   .unfold tai;split
    .exact BQ rfl rfl rfl rfl
    .split
     .exact TZ p (defS p).body false
     .exact BQ rfl rfl rfl rfl
   .split
    .unfold tailE;split
     .exact BQ rfl rfl rfl rfl
     .have e:=FY p (entN p);exact BQ e.2.2.2.2.2.2.2.2.2.2.1 e.2.2.2.2.2.2.2.2.2.1 e.2.2.2.2.1 e.2.2.2.2.2.1
    .split
     .exact BQ rfl rfl rfl rfl
     .unfold say;split<;>exact BQ rfl rfl rfl rfl
def AgH {R:HO->M_} {p:A_} (h:MR R p):MR R (step1 p).1:=by
 obtain⟨h0,h1,h2|⟨a,h2,h3⟩⟩:=NN p
 .exact Lj h h2.1 h0 h1
 .have:=Ael h a;rw[LQ] at this;exact Lj this h2 h0 h1
inductive RS (g:HO->List HO) (E:List HO):HO->Prop where
 | base {a:HO}:a∈E->RS g E a
 | step {a b:HO}:RS g E a->b∈g a->RS g E b
abbrev gI (R:HO->M_) (p:A_):HO->List HO:=λb=>(impR (mP R p b)).1
def ME (R:HO->M_) (p:A_):Prop:=∀ m,m∈p.bi->RS (gI R p) p.bh m.to
def Akj {g:HO->List HO} {E F:List HO} (h:∀ a,a∈E->a∈F) {a:HO} (ha:RS g E a):RS g F a:=by
 induction ha with
 | base h1=>exact .base (h _ h1)
 | step _ h2 ih=>exact .step ih h2
def QV {R:HO->M_} {p q:A_} (h:ME R p) (h1:q.bi=p.bi) (h2:q.bm=p.bm) (h3:q.addr=p.addr) (h4:q.bh=p.bh):ME R q:=by
 have e:gI R q=gI R p:=by funext b;unfold gI mP;rw[h2,h3]
 unfold ME at *
 rw[e,h1,h4];exact h
def Af5 {R:HO->M_} {p:A_} (h:ME R p):ME R (step1 p).1:=by
 obtain⟨h0,h1,h2|⟨a,h2,h3⟩⟩:=NN p
 .exact QV h h2.1 h0 h1 h2.2
 .have e:gI R (step1 p).1=gI R p:=by funext b;unfold gI mP;rw[h0,h1]
  unfold ME;rw[e,h2,h3];intro m hm;rcases Fh hm with hm|hm
  .exact Akj (λb hb=>List.mem_append_left _ hb) (h m hm)
  .rw[hm,Hj];exact .base (by simp)
def sRt (R:HO->M_) (p:A_) (s:av):Prop:=if s.done=true then(if checkRequest p.bm (reqO p s)=1 then s.code=checkResponse p.bm (reqO p s) (R s.to)/\s.body=(usable p.bm (reqO p s) (R s.to)).1 else s.code=2/\s.body=⟨#[]⟩) else checkRequest p.bm (reqO p s)=1
def SR (R:HO->M_) (p:A_):Prop:=∀ s,s∈p.bf->sRt R p s
def slE (p q:A_):Prop:=q.bm=p.bm/\q.addr=p.addr/\(q.bf=p.bf\/∃ m to dg n,q.bf=p.bf++[newS p m to dg n])
def BH {p q:A_} (h0:q.bm=p.bm) (h1:q.addr=p.addr) (h2:q.bf=p.bf):slE p q:=⟨h0,h1,.inl h2⟩
def Mo (p:A_) (m:Int) (to dg:ByteArray) (n:Int):slE p (addS p m to dg n).1:=by
 unfold addS;split
 .exact⟨rfl,rfl,.inr ⟨m,to,dg,n,rfl⟩⟩
 .exact BH rfl rfl rfl
def VI (p:A_) (c:ByteArray) (w:Bool):slE p (runC p c w):=by
 unfold runC;split<;>exact BH rfl rfl rfl
def MF (p:A_):slE p (step1 p).1:=by
 unfold step1;split
 .unfold stepP;split
  .unfold stepI;split
   .exact VI p (tex p.inline p.ba.bj ⟨#[]⟩) true
   .exact BH rfl rfl rfl
  .split
   .unfold stepB;split
    .exact BH rfl rfl rfl
    .split
     .exact BH rfl rfl rfl
     .split
      .exact VI p (p.bf.getD (blk p).toNat default).body true
      .exact BH rfl rfl rfl
   .unfold takeToke;split
    .exact BH rfl rfl rfl
    .show slE p (takeT p (p.bp.getD 0 default));unfold takeT;split
     .unfold ele;split
      .exact Mo (taken p (p.bp.getD 0 default)) _ _ _ _
      .split
       .exact Mo (taken p (p.bp.getD 0 default)) _ _ _ _
       .exact BH rfl rfl rfl
     .split
      .unfold scri;split
       .split<;>exact BH rfl rfl rfl
       .split
        .exact Mo (taken p (p.bp.getD 0 default)) _ _ _ _
        .split
         .unfold addE;split
          .rw[LQ];exact BH rfl rfl rfl
          .exact BH rfl rfl rfl
         .exact Mo (taken p (p.bp.getD 0 default)) 3 _ _ _
      .exact BH rfl rfl rfl
 .unfold stepT;split
  .exact BH rfl rfl rfl
  .split
   .unfold tai;split
    .exact BH rfl rfl rfl
    .split
     .exact VI p (defS p).body false
     .exact BH rfl rfl rfl
   .split
    .unfold tailE;split
     .exact BH rfl rfl rfl
     .have e:=FY p (entN p);exact BH e.2.2.2.2.2.2.2.2.2.2.1 e.2.2.2.2.2.2.2.2.2.1 e.2.2.2.1
    .split
     .exact BH rfl rfl rfl
     .unfold say;split<;>exact BH rfl rfl rfl
def XM {R:HO->M_} {p q:A_} (h0:q.bm=p.bm) (h1:q.addr=p.addr) (s:av):sRt R q s=sRt R p s:=by
 unfold sRt reqO;rw[h0,h1]
def P8 {R:HO->M_} {p q:A_} (h:SR R p) (h0:q.bm=p.bm) (h1:q.addr=p.addr) (h2:q.bf=p.bf):SR R q:=λs hs=>by
 rw[XM h0 h1];exact h s (by rw[<-h2];exact hs)
def AcN (R:HO->M_) (p:A_) (m:Int) (to dg:ByteArray) (n:Int):sRt R p (newS p m to dg n):=by
 unfold newS;split
 .rename_i h;unfold sRt;rw[F_ (show ¬ ((raw p m to dg n).done=true) from Bool.false_ne_true)];exact h.2
 .rename_i h;unfold sRt;rw[G_ (by rfl),F_]
  .exact⟨rfl,rfl⟩
  .intro hc;apply h;have hc:checkRequest p.bm (reqO p (raw p m to dg n))=1:=hc;refine⟨?_,hc⟩;cases hp:(par to p.addr.host).2 with
   | true=>rfl
   | false=>
    exfalso;have e:(par to p.addr.host).1=default:=by
     unfold par at hp ⊢;split at hp
     .exact absurd (show true=false from hp) (by decide)
     .rename_i h2;rw[F_ h2]
    unfold checkRequest isRequest reqO raw at hc;rw[e] at hc;have:isName (default:HO).host=false:=by decide +kernel
    simp only[this,Bool.false_and,Bool.and_false,cD,aS] at hc;exact absurd hc (by decide)
def AgX {R:HO->M_} {p:A_} (h:SR R p):SR R (step1 p).1:=by
 obtain⟨h0,h1,h2|⟨m,to,dg,n,h2⟩⟩:=MF p
 .exact P8 h h0 h1 h2
 .intro s hs;rw[XM h0 h1];rw[h2] at hs;rcases ah.1 hs with hs|hs
  .exact h s hs
  .rw[List.mem_singleton.1 hs];exact AcN R p m to dg n
def Ajr {R:HO->M_} {p:A_} (h:SR R p) (a:HO):SR R (fil p a (R a)):=by
 intro s hs;obtain⟨t,ht,rfl⟩:=bM.1 hs;have h1:=h t ht;show sRt R p _;unfold fillF fillS;split
 .rename_i e;split
  .exact h1
  .rename_i hd;unfold sRt at h1 ⊢;rw[F_ hd] at h1;have e2:reqO p { t with done:=true,code:=checkResponse p.bm (reqO p t) (R a),body:=(usable p.bm (reqO p t) (R a)).1 }=reqO p t:=rfl;rw[G_ rfl,e2,G_ h1,<-e];exact⟨rfl,rfl⟩
 .exact h1
structure RI (R:HO->M_) (p:A_):Prop where
 pi:PI p
 mi:MI p
 mr:MR R p
 me:ME R p
 sr:SR R p
def Wd {R:HO->M_} {p:A_} (h:RI R p) (h2:(step1 p).2=true):RI R (step1 p).1:=⟨(My h.pi h2).1,Xh h.mi h.pi,AgH h.mr,Af5 h.me,AgX h.sr⟩
def AaH {R:HO->M_}:∀ (n:Nat) {p:A_},RI R p->RI R (adv n p)
 | 0,p,h=>h
 | n+1,p,h=>by
  rw[adv];split
  .rename_i hs;exact AaH n (Wd h hs)
  .exact h
structure QI (R:HO->M_) (Q:List Z_) (po:aA):Prop where
 st:stM Q
 ad:∀ m,m∈Q->m.to∈A9
 hu:HU∈Q.map (·.to)
 dn:∀ m,m∈Q->m.done=true
 mr:∀ m,m∈Q->m=mR R po ⟨#[104,111,109,101]⟩ m.to
 im:∀ m,m∈Q->m.code=1->∀ b,b∈(parseM m.body m.to.host).1->b∈Q.map (·.to)
def AmO {R:HO->M_} {Q:List Z_} {p:A_} (h:QI R Q p.bm) (hm:MI p):MI (wM p Q)/\mRight R (wM p Q):=by
 refine⟨⟨h.st,h.ad,λa ha=>?_,λm hm _ h2 b hb=>h.im m hm h2 b hb,hm.ho,hm.eu⟩,λm hq _=>?_⟩
 .rw[hm.eu a ha];exact h.hu
 .have:=h.mr m hq;show m=mR R p.bm p.addr.host m.to;rw[hm.ho];exact this
def AiE {R:HO->M_} {Q:List Z_} {p:A_} {q0:List ai} (h:RI R p) (hQ:QI R Q p.bm) (he:p.ended=true->q0=[]) (h2:(step1 p).2=true):iS R Q (cq R p q0)=(cq R (step1 p).1 q0,true):=by
 unfold step1 at *
 split at h2
 .rename_i h3;rw[G_ h3];have:=Abh (R:=R) q0 h3;unfold iS;rw[G_ this.1,this.2]
 .rename_i h3;rw[F_ h3];have hps:isParsed p=true:=by
   cases hp:isParsed p with
   | true=>rfl
   | false=>unfold stepT at h2;rw[G_ (.inl hp)] at h2;exact absurd (show false=true from h2) (by decide)
  have hp2:=hps;unfold isParsed at hp2;simp only[T_,az] at hp2;rw[he hp2.1];have hQ2:=AmO hQ h.mi;have ht:=AiX h.pi h.mi (PX h.mr) hQ2.1 hQ.dn hQ2.2 h2;have hn:¬ (stepP (cq R p [])).2=true:=by unfold stepP;rw[F_ (show ¬ (cq R p []).inline≠0 by simp only[Classical.not_not];exact hp2.2.2.2),F_ (show ¬ (cq R p []).block≠0 by simp only[Classical.not_not];exact hp2.2.2.1)];unfold takeToke;rw[G_ (.inl (show(p.bp++[]).length=0 by rw[cS];exact hp2.2.1))];exact Bool.false_ne_true
  unfold iS;rw[F_ hn,G_ ht.1,ht.2]
def Acz {R:HO->M_} {Q:List Z_} {q0:List ai}:∀ (n:Nat) {p:A_},RI R p->QI R Q p.bm->(p.ended=true->q0=[])->∃ k,cq R (adv n p) q0=iN R Q k (cq R p q0)
 | 0,p,_,_,_=>⟨0,rfl⟩
 | n+1,p,h,hQ,he=>by
  rw[adv];split
  .rename_i hs;have hg:=Qs p;obtain⟨k,hk⟩:=Acz (q0:=q0) n (Wd h hs) (by rw[hg.po];exact hQ) (by rw[hg.ed];exact he);refine⟨k+1,?_⟩;have e:=AiE (q0:=q0) h hQ he hs;rw[hk,iN,G_ (by rw[e]),e]
  .exact⟨0,rfl⟩
def Ue {R:HO->M_} {p:A_} (h:MR R p) (a:HO):MR R (fillMo p a (R a)):=by
 unfold fillMo;split
 .exact h
 .rename_i h1;simp only[not_or,Int.not_lt] at h1;have hf:∀ (l:List HO) (q:A_),MR R q->MR R (l.foldl askM q):=by
   intro l
   induction l with
   | nil=>intro q hq;exact hq
   | cons b l ih=>intro q hq;exact ih _ (Ael hq b)
  refine hf _ _ ?_;obtain⟨l,m,r,e1,e2,e3,e4⟩:=Ge (R a) h1.1;have hmm:m∈p.bi:=by rw[e1];simp
  subst e2;intro y hy;rw[e4] at hy;simp only[ah,au] at hy;rcases hy with hy|hy|hy
  .exact h y (by rw[e1];simp[hy])
  .have hd:m.done=false:=by have:=h1.2;rw[<-e3] at this;simpa using this
   have hc:=(h m hmm).2 hd;refine⟨λ_=>?_,λq=>absurd (show true=false by rw[<-q,hy];rfl) (by decide)⟩;have ht:y.to=m.to:=by rw[hy];rfl
   rw[ht];unfold mP mR;show y=if checkRequest p.bm ⟨5,m.to,p.addr.host,⟨#[]⟩⟩=1 then _ else _
   rw[G_ hc,hy];rfl
  .exact h y (by rw[e1];simp[hy])
def Aka {R:HO->M_} {p:A_} (hr:MR R p) (h:ME R p) (a:HO):ME R (fillMo p a (R a)):=by
 have hm:=Ue hr a;unfold fillMo at *
 split
 .exact h
 .rename_i h1;rw[F_ h1] at hm;simp only[not_or,Int.not_lt] at h1;have hf:∀ (l:List HO) (q:A_),ME R q->(∀ b,b∈l->RS (gI R q) q.bh b)->ME R (l.foldl askM q):=by
   intro l
   induction l with
   | nil=>intro q hq _;exact hq
   | cons b l ih=>
    intro q hq hl;refine ih _ ?_ ?_
    .rw[LQ];intro m hm;rcases Fh hm with hm|hm
     .exact hq m hm
     .rw[hm,Hj];exact hl b (by simp)
    .rw[LQ];exact λc hc=>hl c (by simp[hc])
  obtain⟨l,m,r,e1,e2,e3,e4⟩:=Ge (R a) h1.1;have hto:∀ y,y∈(fillM0 p a (R a)).bi->∃ z,z∈p.bi/\z.to=y.to:=by
   intro y hy;rw[e4] at hy;simp only[ah,au] at hy;rcases hy with hy|hy|hy
   .exact⟨y,by rw[e1];simp[hy],rfl⟩
   .exact⟨m,by rw[e1];simp,by rw[hy];rfl⟩
   .exact⟨y,by rw[e1];simp[hy],rfl⟩
  have h0:ME R (fillM0 p a (R a)):=λy hy=>by obtain⟨z,hz,ez⟩:=hto y hy;rw[<-ez];exact h z hz
  refine hf _ _ h0 λb hb=>?_
  have hff:=Gb p a (R a) h1.1;have hd:hasD (fillM0 p a (R a)) a:=by refine⟨by rw[hff.1];exact h1.1,?_⟩;rw[hff.1,hff.2];rfl
  have hr0:MR R (fillM0 p a (R a)):=by
   have hmm:m∈p.bi:=by rw[e1];simp
   subst e2;intro y hy;rw[e4] at hy;simp only[ah,au] at hy;rcases hy with hy|hy|hy
   .exact hr y (by rw[e1];simp[hy])
   .have hd:m.done=false:=by have:=h1.2;rw[<-e3] at this;simpa using this
    have hc:=(hr m hmm).2 hd;refine⟨λ_=>?_,λq=>absurd (show true=false by rw[<-q,hy];rfl) (by decide)⟩;have ht:y.to=m.to:=by rw[hy];rfl
    rw[ht];unfold mP mR;show y=if checkRequest p.bm ⟨5,m.to,p.addr.host,⟨#[]⟩⟩=1 then _ else _
    rw[G_ hc,hy];rfl
   .exact hr y (by rw[e1];simp[hy])
  have hi:=SK (PX hr0) hd;rw[hi] at hb;have hma:RS (gI R p) p.bh a:=by rw[<-e2];exact h m (by rw[e1];simp)
  exact .step hma hb
def AiL (R:HO->M_) (p:A_) (a:HO) (q0:List ai):cq R (fillMo (fil p a (R a)) a (R a)) q0=cq R p q0:=by
 have h1:∀ (q:A_) (x:M_),∃ m,fillMo q a x={ q with bi:=m }:=λq x=>by
  unfold fillMo;split
  .exact⟨q.bi,rfl⟩
  .have hf:∀ (l:List HO) (y:A_),∃ m,l.foldl askM y={ y with bi:=m }:=by
    intro l
    induction l with
    | nil=>intro y;exact⟨y.bi,rfl⟩
    | cons b l ih=>
     intro y;obtain⟨m,e⟩:=ih (askM y b);refine⟨m,?_⟩;rw[dy,e,LQ]
   obtain⟨m,e⟩:=hf (impo (fillM0 q a x) a).1 (fillM0 q a x);exact⟨m,by rw[e];rfl⟩
 obtain⟨m,e⟩:=h1 (fil p a (R a)) (R a);rw[e]
 suffices hS:(p.bf.map (fillF p a (R a))).map (fR R p)=p.bf.map (fR R p) by show({ p with bf:=(p.bf.map (fillF p a (R a))).map (fR R p),bi:=[],bp:=p.bp++q0,tok:=default,ended:=true }:A_)=_;rw[hS];rfl
 rw[dz];refine List.map_congr_left λs _=>?_
 show fR R p (fillF p a (R a) s)=fR R p s;by_cases hs:s.to=a
 .have:fillF p a (R a) s=fR R p s:=by unfold fillF fR;rw[G_ hs,hs]
  rw[this,Adx]
 .rw[(Di p a (R a) s).2.2.1 hs]
def AaF {R:HO->M_} {Q:List Z_} {p:A_} (a:HO) {q0:List ai} (h:RI R p) (hx:rOk (R a)) (hQ:QI R Q p.bm) (he:p.ended=true->q0=[]):RI R (tak p a (R a))/\∃ k,cq R (tak p a (R a)) q0=iN R Q k (cq R p q0):=by
 have h1:=Pg h.pi a hx;have hm1:MI (fil p a (R a)):=Cl h.mi rfl rfl rfl;have h2:=VA (p:=fil p a (R a)) (a:=a) h1.1 hm1 hx;obtain⟨f1,f2,f3,f4,f5,f6,f7,f8,f9,f10,f11⟩:=h2;have hr:RI R (fillMo (fil p a (R a)) a (R a)):=⟨f1,f2,Ue (p:=fil p a (R a)) (Lj h.mr rfl rfl rfl) a,Aka (p:=fil p a (R a)) (Lj h.mr rfl rfl rfl) (QV h.me rfl rfl rfl rfl) a,P8 (Ajr h.sr a) f9 f8 f4⟩;obtain⟨k,hk⟩:=Acz (q0:=q0) 2000 hr (by rw[f9];exact hQ) (by rw[f10];exact he);refine⟨AaH 2000 hr,k,?_⟩;rw[AiL] at hk;exact hk
def VR (R:HO->M_) (p:A_) (ts:List ai) (k:dv) (e:Bool) (q0:List ai):cq R (atP p ts k e) q0=cq R p (ts++q0):=by
 unfold cq atP;simp only[A_.mk.injEq,true_and,and_true];exact⟨bK _ _ _,rfl⟩
end Go.Proofs.YtfklkhgmgglloaaGreatDoor.fnRightUses
