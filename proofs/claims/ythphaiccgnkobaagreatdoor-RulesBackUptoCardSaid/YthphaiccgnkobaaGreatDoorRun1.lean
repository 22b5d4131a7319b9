/-
  Go functions as Lean functions, by a program of this repo.
-/
import Derived.Test.YthphaiccgnkobaaGreatDoorRun0
set_option linter.defProp false
set_option linter.unusedSimpArgs false
set_option linter.unusedVariables false
namespace Go.Proofs.YthphaiccgnkobaaGreatDoor
open Go Go.Ab
open Go.Proofs.Tryz
set_option maxRecDepth 100000
set_option maxHeartbeats 4000000
def kzr:Nat->(List B8)->B8->Ot Bool|0,_,_=>none|n+1,a,b=>(yz5 n a b).bind λd=>some (decide (d>=0))
def zl1:LSh:=⟨[(4,dB)],[],0,9,[]⟩
noncomputable def zdg:FI dat:=FI.of dat 149 9 0 [dA,dS] [] [dB] [] true zl1 (R:=Bool) Prod.fst (·,()) (λn=>u2 (kzr n)) (λn=>[]) (anb [] f149)
def zkr:FOk prog zdg:=okF (bs:=[z04]) ⟨z3t,trivial⟩ func149 ntmps149 call149 (λ_ _=>tr (kzr.eq_2 ..)) (λn=>trivial)
def z4i:Nat->B8->Ot Bool|0,_=>none|n+1,a=>(zde n a).bind λd=>pIf d ((kzr n [[116,114,117,101],[102,97,108,115,101],[115,120],[115,121],[115,122]] a).bind λb=>some (!b)) (some false)
def yl2:LSh:=⟨[(2,dB)],[],0,11,[]⟩
noncomputable def zm0:FI dat:=FI.of dat 88 11 0 [dS] [] [dB] [] true yl2 (R:=Bool) Prod.fst (·,()) (λn=>u1 (z4i n)) (λn=>[]) (anb [] f88)
def zpo:FOk prog zm0:=okF (bs:=[zxd,zdg]) ⟨y5t,zkr,trivial⟩ func88 ntmps88 call88 (λ_ _=>tr (z4i.eq_2 ..)) (λn=>trivial)
mutual
def za5:Nat->zz2->Ot (Int×Int)|0,_=>none|n+1,a=>z4s n 0 1 1 a.args (a.args.length:Int)
def z4s:Nat->Int->Int->Int->kz9->Int->Ot (Int×Int)|0,_,_,_,_,_=>none|n+1,a,b,c,d,e=>pIf (decide (a<e)) ((ix d a).bind λh=>(za5 n h.re).bind λg=>z4s n (IntKind.i64.wrap (a+1)) (mxI b (IntKind.i64.wrap (g.2+1))) (IntKind.i64.wrap (c+g.1)) d e) (some (c,b))
end
def yka:LSh:=⟨[(2,dI),(3,dI)],[],0,30,[]⟩
noncomputable def zgr:FI dat:=FI.of dat 150 30 0 [dT 5] [] [dI,dI] [] true yka (R:=Int×Int) (λx=>(x.1,x.2.1)) (λr=>(r.1,r.2,())) (λn=>u1 (za5 n)) (λn=>[(0,⟨⟨[(11,dI),(3,dI),(2,dI),(9,dL 5),(10,dI)],[],0,30,[]⟩,u5 (z4s n)⟩)]) (anb [(8,0)] f150)
noncomputable def yh5:List (FI dat):=[zgr]++[]
def yhf:(zgr).Good prog dat (tb yh5):=FI.z2i (hD:=kzd _) func150 ntmps150 call150 (by kernel_rfl) (Qac (by kernel_rfl)) (by kernel_rfl) (λn=>by kernel_rfl) (λx=>by kernel_rfl) (λ_=>rfl) ⟨λ_=>rfl,trivial⟩ (λ_ _=>tr (za5.eq_2 ..)) (λn=>⟨λ_=>tr (z4s.eq_2 ..),trivial⟩) (λx=>.inl rfl)
def yh7:OkL prog [zgr]:=z98 (kzd _) (bs:=[]) trivial ⟨yhf,trivial⟩
def yfd:FOk prog zgr:=yh7.1
mutual
def zfk:Nat->Int->Ot Int|0,_=>none|n+1,a=>pIf (a==12) (z22 n 3) (pIf (a==3) (z01 n (-2) a true) (pIf (a==4) (z01 n (-2) a true) (pIf (a==5) (z01 n (-2) a true) (pIf (a==6) (z01 n (-2) a true) (pIf (a==7) (z01 n (-2) a true) (pIf (a==8) (z01 n (-2) a true) (pIf (a==9) (z01 n (-2) a true) (z01 n (-2) a (a==10)))))))))
def z01:Nat->Int->Int->Bool->Ot Int|0,_,_,_=>none|n+1,a,b,c=>pIf c (zbd n) (pIf (b==13) (z7u n a b true) (pIf (b==14) (z7u n a b true) (z7u n a b (b==17))))
def z7u:Nat->Int->Int->Bool->Ot Int|0,_,_,_=>none|n+1,a,b,c=>pIf c (zbd n) (pIf (b==11) (z8e n a b true) (pIf (b==15) (z8e n a b true) (z8e n a b (b==16))))
def z8e:Nat->Int->Int->Bool->Ot Int|0,_,_,_=>none|n+1,a,b,c=>pIf c (z22 n 1) (pIf (b==1) (zbf n a b true) (zbf n a b (b==2)))
def zbf:Nat->Int->Int->Bool->Ot Int|0,_,_,_=>none|n+1,a,b,c=>pIf c (z22 n 0) (pIf (b==18) (z22 n (-1)) (z22 n a))
def zbd:Nat->Option Int|0=>none|n+1=>z22 n 2
def z22:Nat->Int->Ot Int|0,_=>none|n+1,a=>some a
end
def ysb:LSh:=⟨[(2,dI)],[],0,30,[]⟩
noncomputable def zwh:FI dat:=FI.of dat 194 30 0 [dU] [] [dI] [] true ysb (R:=Int) Prod.fst (·,()) (λn=>u1 (zfk n)) (λn=>[(0,⟨⟨[(3,dI),(4,dU),(7,dB)],[],0,30,[]⟩,u3 (z01 n)⟩),(1,⟨⟨[(3,dI),(4,dU),(16,dB)],[],0,30,[]⟩,u3 (z7u n)⟩),(2,⟨⟨[(3,dI),(4,dU),(20,dB)],[],0,30,[]⟩,u3 (z8e n)⟩),(3,⟨⟨[(3,dI),(4,dU),(24,dB)],[],0,30,[]⟩,u3 (zbf n)⟩),(4,⟨⟨[],[],0,30,[]⟩,λx=>zbd n⟩),(5,⟨⟨[(3,dI)],[],0,30,[]⟩,u1 (z22 n)⟩)]) (anb [(57,0),(71,1),(85,2),(95,3),(107,4),(119,5)] f194)
def yn1:FOk prog zwh:=okF (bs:=[]) trivial func194 ntmps194 call194 (λ_ _=>tr (zfk.eq_2 ..)) (λn=>⟨λ_=>tr (z01.eq_2 ..),λ_=>tr (z7u.eq_2 ..),λ_=>tr (z8e.eq_2 ..),λ_=>tr (zbf.eq_2 ..),λx=>(zbd.eq_2 n).trans (by kernel_rfl),λ_=>tr (z22.eq_2 _ n),trivial⟩)
mutual
def z7y:Nat->kz1->Ot (Int×Int)|0,_=>none|n+1,a=>pIf (a.kind==4) (z3q n 0 1 1 a.list (a.list.length:Int)) (z3r n 1 1)
def z3q:Nat->Int->Int->Int->z3m->Int->Ot (Int×Int)|0,_,_,_,_,_=>none|n+1,a,b,c,d,e=>pIf (decide (a<e)) ((ix d a).bind λh=>(z7y n h.re).bind λg=>z3q n (IntKind.i64.wrap (a+1)) (mxI b (IntKind.i64.wrap (g.2+1))) (IntKind.i64.wrap (c+g.1)) d e) (z3r n b c)
def z3r:Nat->Int->Int->Ot (Int×Int)|0,_,_=>none|n+1,a,b=>some (b,a)
end
def yew:LSh:=⟨[(2,dI),(3,dI)],[],0,33,[]⟩
noncomputable def zf6:FI dat:=FI.of dat 237 33 0 [dT 4] [] [dI,dI] [] true yew (R:=Int×Int) (λx=>(x.1,x.2.1)) (λr=>(r.1,r.2,())) (λn=>u1 (z7y n)) (λn=>[(0,⟨⟨[(14,dI),(3,dI),(2,dI),(12,dL 4),(13,dI)],[],0,33,[]⟩,u5 (z3q n)⟩),(1,⟨⟨[(3,dI),(2,dI)],[],0,33,[]⟩,u2 (z3r n)⟩)]) (anb [(11,0),(29,1)] f237)
noncomputable def yf8:List (FI dat):=[zf6]++[]
def ydx:(zf6).Good prog dat (tb yf8):=FI.z2i (hD:=kzd _) func237 ntmps237 call237 (by kernel_rfl) (Qac (by kernel_rfl)) (by kernel_rfl) (λn=>by kernel_rfl) (λx=>by kernel_rfl) (λ_=>rfl) ⟨λ_=>rfl,λ_=>rfl,trivial⟩ (λ_ _=>tr (z7y.eq_2 ..)) (λn=>⟨λ_=>tr (z3q.eq_2 ..),λ_=>tr (z3r.eq_2 _ _ n),trivial⟩) (λx=>.inl rfl)
def yf0:OkL prog [zf6]:=z98 (kzd _) (bs:=[]) trivial ⟨ydx,trivial⟩
def yas:FOk prog zf6:=yf0.1
def zd5:Nat->Int->Ot Int|0,_=>none|n+1,a=>pIf (decide (a<0)) (some (IntKind.u64.wrap (0-(IntKind.u64.wrap a)))) (some (IntKind.u64.wrap a))
def ytw:LSh:=⟨[(2,(.d (.int .u64)))],[],0,10,[]⟩
noncomputable def y9f:FI dat:=FI.of dat 284 10 0 [dI] [] [(.d (.int .u64))] [] true ytw (R:=Int) Prod.fst (·,()) (λn=>u1 (zd5 n)) (λn=>[]) (anb [] f284)
def ym2:FOk prog y9f:=okF (bs:=[]) trivial func284 ntmps284 call284 (λn=>λ_=>tr (zd5.eq_2 _ n)) (λn=>trivial)
mutual
def zh4:Nat->Int->Int->Ot Int|0,_,_=>none|n+1,a,b=>zae n b a
def zae:Nat->Int->Int->Ot Int|0,_,_=>none|n+1,a,b=>pIf (a != 0) ((rem .u64 b a).bind λd=>zae n d a) (some b)
end
def yxz:LSh:=⟨[(4,(.d (.int .u64)))],[],0,12,[]⟩
noncomputable def ycy:FI dat:=FI.of dat 285 12 0 [(.d (.int .u64)),(.d (.int .u64))] [] [(.d (.int .u64))] [] true yxz (R:=Int) Prod.fst (·,()) (λn=>u2 (zh4 n)) (λn=>[(0,⟨⟨[(1,(.d (.int .u64))),(0,(.d (.int .u64)))],[],0,12,[]⟩,u2 (zae n)⟩)]) (anb [(4,0)] f285)
def yqy:FOk prog ycy:=okF (bs:=[]) trivial func285 ntmps285 call285 (λ_ _=>tr (zh4.eq_2 ..)) (λn=>⟨λ_=>tr (zae.eq_2 ..),trivial⟩)
mutual
def z6p:Nat->yz4->Ot Int|0,_=>none|n+1,a=>pIf (decide (a.den<1)) (z2h n true) (pIf (decide (a.den>1000000000)) (z2h n true) ((zd5 n a.num).bind λe=>pIf (decide (e>1000000000)) (z2h n true) ((zd5 n a.num).bind λd=>(zh4 n d (IntKind.u64.wrap a.den)).bind λb=>z2h n (b != 1))))
def z2h:Nat->Bool->Ot Int|0,_=>none|n+1,a=>pIf a (some 8) (some 0)
end
def yns:LSh:=⟨[(2,dI)],[],0,27,[]⟩
noncomputable def zi0:FI dat:=FI.of dat 267 27 0 [dT 3] [] [dI] [] true yns (R:=Int) Prod.fst (·,()) (λn=>u1 (z6p n)) (λn=>[(0,⟨⟨[(26,dB)],[],0,27,[]⟩,u1 (z2h n)⟩)]) (anb [(5,0)] f267)
def zp4:FOk prog zi0:=okF (bs:=[y9f,ycy]) ⟨ym2,yqy,trivial⟩ func267 ntmps267 call267 (λ_ _=>tr (z6p.eq_2 ..)) (λn=>⟨λ_=>tr (z2h.eq_2 _ n),trivial⟩)
mutual
def zd8:Nat->kz1->Ot Bool|0,_=>none|n+1,a=>pIf (a.kind==1) ((z6p n a.num).bind λb=>pIf (b != 0) (some false) (z3e n (kz1.mk a.kind (yz4.mk 0 0) a.truth a.str a.list))) (pIf (a.kind==2) (z3e n (kz1.mk a.kind a.num false a.str a.list)) (pIf (a.kind==3) (pIf (decide ((a.str.length:Int)>60)) (some false) (z7q n 0 a.re (kz1.mk a.kind a.num a.truth [] a.list))) (pIf (a.kind==4) (z8f n 0 a.list (a.list.length:Int) (kz1.mk a.kind a.num a.truth a.str [])) (some false))))
def z7q:Nat->Int->kz1->kz1->Ot Bool|0,_,_,_=>none|n+1,a,b,c=>pIf (decide (a<(b.str.length:Int))) ((ix b.str a).bind λe=>pIf (decide ((e.toNat:Int)<32)) (z8n n a true b.re c.re) ((ix b.str a).bind λd=>z8n n a (decide ((d.toNat:Int)>126)) b.re c.re)) (z3e n c.re)
def z8n:Nat->Int->Bool->kz1->kz1->Ot Bool|0,_,_,_,_=>none|n+1,a,b,c,d=>pIf b (some false) (z7q n (IntKind.i64.wrap (a+1)) c.re d.re)
def z8f:Nat->Int->z3m->Int->kz1->Ot Bool|0,_,_,_,_=>none|n+1,a,b,c,d=>pIf (decide (a<c)) ((ix b a).bind λg=>(zd8 n g.re).bind λe=>pIf (!e) (some false) (z8f n (IntKind.i64.wrap (a+1)) b c d.re)) (z3e n d.re)
def z3e:Nat->kz1->Ot Bool|0,_=>none|n+1,a=>pIf ((a.num.num==0)&&((a.num.den==0)&&true)) (pIf (!a.truth) (pIf (a.str==[]) (some ((a.list.length:Int)==0)) (some false)) (some false)) (some false)
end
def ysx:LSh:=⟨[(2,dB)],[],0,81,[]⟩
noncomputable def zke:FI dat:=FI.of dat 238 81 0 [dT 4] [] [dB] [] true ysx (R:=Bool) Prod.fst (·,()) (λn=>u1 (zd8 n)) (λn=>[(0,⟨⟨[(4,dI),(1,(.ptr 0 0)),(3,(.ptr 1 0))],[(.st 4),(.st 4)],0,81,[]⟩,u3 (z7q n)⟩),(1,⟨⟨[(1,(.ptr 0 0)),(3,(.ptr 1 0)),(4,dI),(46,dB)],[(.st 4),(.st 4)],0,81,[]⟩,u4 (z8n n)⟩),(2,⟨⟨[(53,dI),(51,dL 4),(3,(.ptr 0 0)),(52,dI)],[(.st 4)],0,81,[]⟩,u4 (z8f n)⟩),(3,⟨⟨[(3,(.ptr 0 0))],[(.st 4)],0,81,[]⟩,u1 (z3e n)⟩)]) (anb [(40,0),(51,1),(65,2),(87,3)] f238)
noncomputable def yqi:List (FI dat):=[zke]++[zi0]
def ysg:(zke).Good prog dat (tb yqi):=FI.z2i (hD:=kzd _) func238 ntmps238 call238 (by kernel_rfl) (Qac (by kernel_rfl)) (by kernel_rfl) (λn=>by kernel_rfl) (λx=>by kernel_rfl) (λ_=>rfl) ⟨λ_=>rfl,λ_=>rfl,λ_=>rfl,λ_=>rfl,trivial⟩ (λ_ _=>tr (zd8.eq_2 ..)) (λn=>⟨λ_=>tr (z7q.eq_2 ..),λ_=>tr (z8n.eq_2 ..),λ_=>tr (z8f.eq_2 ..),λ_=>tr (z3e.eq_2 _ n),trivial⟩) (λx=>.inl rfl)
def yqc:OkL prog [zke]:=z98 (kzd _) (bs:=[zi0]) ⟨zp4,trivial⟩ ⟨ysg,trivial⟩
def yl7:FOk prog zke:=yqc.1
mutual
def z9f:Nat->kz1->Ot Int|0,_=>none|n+1,a=>(z7y n a.re).bind λb=>pIf (decide (b.1>100)) (z6l n true a.re) (z6l n (decide (b.2>6)) a.re)
def z6l:Nat->Bool->kz1->Ot Int|0,_,_=>none|n+1,a,b=>pIf a (some 4) ((zd8 n b.re).bind λd=>pIf (!d) (some 8) (some 0))
end
def ymm:LSh:=⟨[(2,dI)],[],0,19,[]⟩
noncomputable def zia:FI dat:=FI.of dat 195 19 0 [dT 4] [] [dI] [] true ymm (R:=Int) Prod.fst (·,()) (λn=>u1 (z9f n)) (λn=>[(0,⟨⟨[(1,(.ptr 0 0)),(15,dB)],[(.st 4)],0,19,[]⟩,u2 (z6l n)⟩)]) (anb [(7,0)] f195)
def zq2:FOk prog zia:=okF (bs:=[zf6,zke]) ⟨yas,yl7,trivial⟩ func195 ntmps195 call195 (λ_ _=>tr (z9f.eq_2 ..)) (λn=>⟨λ_=>tr (z6l.eq_2 ..),trivial⟩)
def zfd:Nat->B8->Ot Bool|0,_=>none|n+1,a=>(zde n a).bind λb=>pIf b (pIf (!(a==[116,114,117,101])) (some (!(a==[102,97,108,115,101]))) (some false)) (some false)
def yrq:LSh:=⟨[(2,dB)],[],0,13,[]⟩
noncomputable def zwk:FI dat:=FI.of dat 196 13 0 [dS] [] [dB] [] true yrq (R:=Bool) Prod.fst (·,()) (λn=>u1 (zfd n)) (λn=>[]) (anb [] f196)
def ymd:FOk prog zwk:=okF (bs:=[zxd]) ⟨y5t,trivial⟩ func196 ntmps196 call196 (λ_ _=>tr (zfd.eq_2 ..)) (λn=>trivial)
mutual
def z4f:Nat->kz1->kz1->Ot Bool|0,_,_=>none|n+1,a,b=>pIf (a.kind != b.kind) (z1s n true b.re a.re) (pIf (!((a.num.num==b.num.num)&&((a.num.den==b.num.den)&&true))) (z1s n true b.re a.re) (pIf (!(a.truth==b.truth)) (z1s n true b.re a.re) (pIf (!(a.str==b.str)) (z1s n true b.re a.re) (z1s n ((a.list.length:Int) != (b.list.length:Int)) b.re a.re))))
def z1s:Nat->Bool->kz1->kz1->Ot Bool|0,_,_,_=>none|n+1,a,b,c=>pIf a (some false) (z7z n 0 (c.list.length:Int) b.re c.re)
def z7z:Nat->Int->Int->kz1->kz1->Ot Bool|0,_,_,_,_=>none|n+1,a,b,c,d=>pIf (decide (a<b)) ((ix d.list a).bind λh=>(ix c.list a).bind λg=>(z4f n h.re g.re).bind λe=>pIf (!e) (some false) (z7z n (IntKind.i64.wrap (a+1)) b c.re d.re)) (some true)
end
def yqt:LSh:=⟨[(4,dB)],[],0,60,[]⟩
noncomputable def zcw:FI dat:=FI.of dat 143 60 0 [dT 4,dT 4] [] [dB] [] true yqt (R:=Bool) Prod.fst (·,()) (λn=>u2 (z4f n)) (λn=>[(0,⟨⟨[(3,(.ptr 0 0)),(2,(.ptr 1 0)),(40,dB)],[(.st 4),(.st 4)],0,60,[]⟩,u3 (z1s n)⟩),(1,⟨⟨[(44,dI),(3,(.ptr 0 0)),(2,(.ptr 1 0)),(43,dI)],[(.st 4),(.st 4)],0,60,[]⟩,u4 (z7z n)⟩)]) (anb [(5,0),(14,1)] f143)
noncomputable def yqb:List (FI dat):=[zcw]++[]
def ys4:(zcw).Good prog dat (tb yqb):=FI.z2i (hD:=kzd _) func143 ntmps143 call143 (by kernel_rfl) (Qac (by kernel_rfl)) (by kernel_rfl) (λn=>by kernel_rfl) (λx=>by kernel_rfl) (λ_=>rfl) ⟨λ_=>rfl,λ_=>rfl,trivial⟩ (λ_ _=>tr (z4f.eq_2 ..)) (λn=>⟨λ_=>tr (z1s.eq_2 ..),λ_=>tr (z7z.eq_2 ..),trivial⟩) (λx=>.inl rfl)
def yt4:OkL prog [zcw]:=z98 (kzd _) (bs:=[]) trivial ⟨ys4,trivial⟩
def y5r:FOk prog zcw:=yt4.1
mutual
def zem:Nat->zz2->Ot Bool|0,_=>none|n+1,a=>(zfk n a.op).bind λb=>pIf (b==(-2)) (z7h n true a.re) (pIf (decide (b>=0)) (z7h n ((a.args.length:Int) != b) a.re) (z7h n false a.re))
def z7h:Nat->Bool->zz2->Ot Bool|0,_,_=>none|n+1,a,b=>pIf a (some false) (pIf (b.op==1) ((z9f n b.value.re).bind λh=>pIf (h != 0) (z7i n true b.re) (pIf (b.value.kind==4) (z7i n true b.re) (z7i n (!(b.name==[])) b.re))) (pIf (b.op==2) ((zfd n b.name).bind λg=>pIf (!g) (zap n true b.re) ((z4f n b.value.re (kz1.mk 0 (yz4.mk 0 0) false [] [])).bind λe=>zap n (!e) b.re)) (pIf (!(b.name==[])) (zan n true b.re) ((z4f n b.value.re (kz1.mk 0 (yz4.mk 0 0) false [] [])).bind λd=>zan n (!d) b.re))))
def z7i:Nat->Bool->zz2->Ot Bool|0,_,_=>none|n+1,a,b=>pIf a (some false) (z7g n b.re)
def zap:Nat->Bool->zz2->Ot Bool|0,_,_=>none|n+1,a,b=>pIf a (some false) (z7g n b.re)
def zan:Nat->Bool->zz2->Ot Bool|0,_,_=>none|n+1,a,b=>pIf a (some false) (z7g n b.re)
def z7g:Nat->zz2->Ot Bool|0,_=>none|n+1,a=>(kze n a.args).bind λb=>some (!b)
def kze:Nat->kz9->Ot Bool|0,_=>none|n+1,a=>(kzg n a).bind λb=>some (decide (b>=0))
def kzg:Nat->kz9->Ot Int|0,_=>none|n+1,a=>zza n 0 a (a.length:Int)
def zza:Nat->Int->kz9->Int->Ot Int|0,_,_,_=>none|n+1,a,b,c=>pIf (decide (a<c)) ((ix b a).bind λe=>(zdp n e.re).bind λd=>pIf d (some a) (zza n (IntKind.i64.wrap (a+1)) b c)) (some (-1))
def zdp:Nat->zz2->Ot Bool|0,_=>none|n+1,a=>(zem n a.re).bind λb=>some (!b)
end
def yuw:LSh:=⟨[(2,dB)],[],0,66,[]⟩
noncomputable def zmr:FI dat:=FI.of dat 151 66 0 [dT 5] [] [dB] [] true yuw (R:=Bool) Prod.fst (·,()) (λn=>u1 (zem n)) (λn=>[(0,⟨⟨[(1,(.ptr 0 0)),(19,dB)],[(.st 5)],0,66,[]⟩,u2 (z7h n)⟩),(1,⟨⟨[(1,(.ptr 0 0)),(48,dB)],[(.st 5)],0,66,[]⟩,u2 (z7i n)⟩),(2,⟨⟨[(1,(.ptr 0 0)),(61,dB)],[(.st 5)],0,66,[]⟩,u2 (zap n)⟩),(3,⟨⟨[(1,(.ptr 0 0)),(31,dB)],[(.st 5)],0,66,[]⟩,u2 (zan n)⟩),(4,⟨⟨[(1,(.ptr 0 0))],[(.st 5)],0,66,[]⟩,u1 (z7g n)⟩)]) (anb [(7,0),(21,1),(31,2),(38,3),(43,4)] f151)
def zep:LSh:=⟨[(4,dB)],[],0,9,[]⟩
noncomputable def z1e:FI dat:=FI.of dat 36 9 0 [dL 5,(.fn 197 [] [])] [] [dB] [] true zep (R:=Bool) Prod.fst (·,()) (λn=>u1 (kze n)) (λn=>[]) (anb [] f36)
def zg9:LSh:=⟨[(4,dI)],[],0,19,[]⟩
noncomputable def z2m:FI dat:=FI.of dat 95 19 0 [dL 5,(.fn 197 [] [])] [] [dI] [] true zg9 (R:=Int) Prod.fst (·,()) (λn=>u1 (kzg n)) (λn=>[(0,⟨⟨[(8,dI),(0,dL 5),(1,(.fn 197 [] [])),(7,dI)],[],0,19,[]⟩,u3 (zza n)⟩)]) (anb [(6,0)] f95)
def ynq:LSh:=⟨[(2,dB)],[],0,6,[]⟩
noncomputable def zta:FI dat:=FI.of dat 197 6 0 [dT 5] [] [dB] [] true ynq (R:=Bool) Prod.fst (·,()) (λn=>u1 (zdp n)) (λn=>[]) (anb [] f197)
noncomputable def zrm:List (FI dat):=[zmr,z1e,z2m,zta]++[zwh,zia,zwk,zcw]
def yvl:(zmr).Good prog dat (tb zrm):=FI.z2i (hD:=kzd _) func151 ntmps151 call151 (by kernel_rfl) (Qac (by kernel_rfl)) (by kernel_rfl) (λn=>by kernel_rfl) (λx=>by kernel_rfl) (λ_=>rfl) ⟨λ_=>rfl,λ_=>rfl,λ_=>rfl,λ_=>rfl,λ_=>rfl,trivial⟩ (λ_ _=>tr (zem.eq_2 ..)) (λn=>⟨λ_=>tr (z7h.eq_2 ..),λ_=>tr (z7i.eq_2 ..),λ_=>tr (zap.eq_2 ..),λ_=>tr (zan.eq_2 ..),λ_=>tr (z7g.eq_2 ..),trivial⟩) (λx=>.inl rfl)
def zex:(z1e).Good prog dat (tb zrm):=FI.z2i (hD:=kzd _) func36 ntmps36 call36 (by kernel_rfl) (Qac (by kernel_rfl)) (by kernel_rfl) (λn=>by kernel_rfl) (λx=>by kernel_rfl) (λ_=>rfl) trivial (λ_ _=>tr (kze.eq_2 ..)) (λn=>trivial) (λx=>.inl rfl)
def zga:(z2m).Good prog dat (tb zrm):=FI.z2i (hD:=kzd _) func95 ntmps95 call95 (by kernel_rfl) (Qac (by kernel_rfl)) (by kernel_rfl) (λn=>by kernel_rfl) (λx=>by kernel_rfl) (λ_=>rfl) ⟨λ_=>rfl,trivial⟩ (λ_ _=>tr (kzg.eq_2 ..)) (λn=>⟨λ_=>tr (zza.eq_2 ..),trivial⟩) (λx=>.inl rfl)
def yn8:(zta).Good prog dat (tb zrm):=FI.z2i (hD:=kzd _) func197 ntmps197 call197 (by kernel_rfl) (Qac (by kernel_rfl)) (by kernel_rfl) (λn=>by kernel_rfl) (λx=>by kernel_rfl) (λ_=>rfl) trivial (λ_ _=>tr (zdp.eq_2 ..)) (λn=>trivial) (λx=>.inl rfl)
def yx1:OkL prog [zmr,z1e,z2m,zta]:=z98 (kzd _) (bs:=[zwh,zia,zwk,zcw]) ⟨yn1,zq2,ymd,y5r,trivial⟩ ⟨yvl,zex,zga,yn8,trivial⟩
def yqe:FOk prog zmr:=yx1.1
mutual
def z0y:Nat->zz2->Ot Int|0,_=>none|n+1,a=>(za5 n a.re).bind λb=>pIf (decide (b.1>100)) (z8m n true a.re) (z8m n (decide (b.2>12)) a.re)
def z8m:Nat->Bool->zz2->Ot Int|0,_,_=>none|n+1,a,b=>pIf a (some 4) ((zem n b.re).bind λd=>pIf (!d) (some 8) (some 0))
end
def yrt:LSh:=⟨[(2,dI)],[],0,19,[]⟩
noncomputable def zh3:FI dat:=FI.of dat 89 19 0 [dT 5] [] [dI] [] true yrt (R:=Int) Prod.fst (·,()) (λn=>u1 (z0y n)) (λn=>[(0,⟨⟨[(1,(.ptr 0 0)),(15,dB)],[(.st 5)],0,19,[]⟩,u2 (z8m n)⟩)]) (anb [(7,0)] f89)
def zi6:FOk prog zh3:=okF (bs:=[zgr,zmr]) ⟨yfd,yqe,trivial⟩ func89 ntmps89 call89 (λ_ _=>tr (z0y.eq_2 ..)) (λn=>⟨λ_=>tr (z8m.eq_2 ..),trivial⟩)
def za0:Nat->B8->Ot Bool|0,_=>none|n+1,a=>(z4i n a).bind λb=>some (!b)
def ybu:LSh:=⟨[(2,dB)],[],0,6,[]⟩
noncomputable def zts:FI dat:=FI.of dat 91 6 0 [dS] [] [dB] [] true ybu (R:=Bool) Prod.fst (·,()) (λn=>u1 (za0 n)) (λn=>[]) (anb [] f91)
def y7l:FOk prog zts:=okF (bs:=[zm0]) ⟨zpo,trivial⟩ func91 ntmps91 call91 (λ_ _=>tr (za0.eq_2 ..)) (λn=>trivial)
mutual
def kzx:Nat->(List B8)->Ot Int|0,_=>none|n+1,a=>kzl n 0 a (a.length:Int)
def kzl:Nat->Int->(List B8)->Int->Ot Int|0,_,_,_=>none|n+1,a,b,c=>pIf (decide (a<c)) ((ix b a).bind λe=>(za0 n e).bind λd=>pIf d (some a) (kzl n (IntKind.i64.wrap (a+1)) b c)) (some (-1))
end
def zkq:LSh:=⟨[(4,dI)],[],0,19,[]⟩
noncomputable def zcp:FI dat:=FI.of dat 152 19 0 [dA,(.fn 91 [] [])] [] [dI] [] true zkq (R:=Int) Prod.fst (·,()) (λn=>u1 (kzx n)) (λn=>[(0,⟨⟨[(8,dI),(0,dA),(1,(.fn 91 [] [])),(7,dI)],[],0,19,[]⟩,u3 (kzl n)⟩)]) (anb [(6,0)] f152)
def zjf:FOk prog zcp:=okF (bs:=[zts]) ⟨y7l,trivial⟩ func152 ntmps152 call152 (λ_ _=>tr (kzx.eq_2 ..)) (λn=>⟨λ_=>tr (kzl.eq_2 ..),trivial⟩)
def zzm:Nat->(List B8)->Ot Bool|0,_=>none|n+1,a=>(kzx n a).bind λb=>some (decide (b>=0))
def zhv:LSh:=⟨[(4,dB)],[],0,9,[]⟩
noncomputable def zb5:FI dat:=FI.of dat 90 9 0 [dA,(.fn 91 [] [])] [] [dB] [] true zhv (R:=Bool) Prod.fst (·,()) (λn=>u1 (zzm n)) (λn=>[]) (anb [] f90)
def zhl:FOk prog zb5:=okF (bs:=[zcp]) ⟨zjf,trivial⟩ func90 ntmps90 call90 (λ_ _=>tr (zzm.eq_2 ..)) (λn=>trivial)
def z4h:Nat->kz9->Ot zz2|0,_=>none|n+1,a=>some (zz2.mk 18 (kz1.mk 0 (yz4.mk 0 0) false [] []) [] a)
def ys2:LSh:=⟨[(2,(.ptr 0 0))],[(.st 5)],0,5,[]⟩
noncomputable def zx3:FI dat:=FI.of dat 127 5 0 [dL 5] [] [dT 5] [] true ys2 (R:=zz2) Prod.fst (·,()) (λn=>u1 (z4h n)) (λn=>[]) (anb [] f127)
def y53:FOk prog zx3:=okF (bs:=[]) trivial func127 ntmps127 call127 (λn=>λ_=>tr (z4h.eq_2 _ n)) (λn=>trivial)
mutual
def zcq:Nat->Int->Ot Int|0,_=>none|n+1,a=>pIf (a==2) (zal n a true) (zal n a (a==3))
def zal:Nat->Int->Bool->Ot Int|0,_,_=>none|n+1,a,b=>pIf b (some 3) (pIf (a==4) (zag n true) (zag n (a==6)))
def zag:Nat->Bool->Ot Int|0,_=>none|n+1,a=>pIf a (some 1) (some 0)
end
def yy9:LSh:=⟨[(2,dI)],[],0,10,[]⟩
noncomputable def y1w:FI dat:=FI.of dat 96 10 0 [dU] [] [dI] [] true yy9 (R:=Int) Prod.fst (·,()) (λn=>u1 (zcq n)) (λn=>[(0,⟨⟨[(3,dU),(4,dB)],[],0,10,[]⟩,u2 (zal n)⟩),(1,⟨⟨[(7,dB)],[],0,10,[]⟩,u1 (zag n)⟩)]) (anb [(12,0),(22,1)] f96)
def y8x:FOk prog y1w:=okF (bs:=[]) trivial func96 ntmps96 call96 (λ_ _=>tr (zcq.eq_2 ..)) (λn=>⟨λ_=>tr (zal.eq_2 ..),λ_=>tr (zag.eq_2 _ n),trivial⟩)
mutual
def z7f:Nat->zz4->Ot Bool|0,_=>none|n+1,a=>pIf (decide (a.kind>=1)) (z1b n (decide (a.kind<=4)) a) (z1b n false a)
def z1b:Nat->Bool->zz4->Ot Bool|0,_,_=>none|n+1,a,b=>pIf (b.kind==4) (z1f n a 0 true b) (z1f n a 0 (b.kind==5) b)
def z1f:Nat->Bool->Int->Bool->zz4->Ot Bool|0,_,_,_,_=>none|n+1,a,b,c,d=>pIf c (z1h n a 2 d) (z1h n a b d)
def z1h:Nat->Bool->Int->zz4->Ot Bool|0,_,_,_=>none|n+1,a,b,c=>pIf (decide (c.kind<1)) (z08 n a true c) (pIf (decide (c.kind>6)) (z08 n a true c) (z08 n a (decide (c.axis>b)) c))
def z08:Nat->Bool->Bool->zz4->Ot Bool|0,_,_,_=>none|n+1,a,b,c=>pIf b (some false) ((z4i n c.name).bind λd=>pIf (!(a==d)) (z0b n a true c) (pIf (!a) (z0b n a (!(c.name==[])) c) (z0b n a false c)))
def z0b:Nat->Bool->Bool->zz4->Ot Bool|0,_,_,_=>none|n+1,a,b,c=>pIf b (some false) ((z4h n c.args).bind λh=>(z0y n h.re).bind λg=>pIf (g != 0) (yzu n true c) ((zcq n c.kind).bind λe=>pIf (decide ((c.args.length:Int)<e)) (yzu n true c) (pIf (!a) ((zcq n c.kind).bind λd=>yzu n ((c.args.length:Int) != d) c) (yzu n false c))))
def yzu:Nat->Bool->zz4->Ot Bool|0,_,_=>none|n+1,a,b=>pIf a (some false) (pIf (!((b.kind==5)==(decide ((b.items.length:Int)>0)))) (some false) (z0e n 0 b.items (b.items.length:Int)))
def z0e:Nat->Int->zm8->Int->Ot Bool|0,_,_,_=>none|n+1,a,b,c=>pIf (decide (a<c)) ((ix b a).bind λd=>pIf (decide (d.kind<1)) (yzp n b c a true) (pIf (decide (d.kind>3)) (yzp n b c a true) ((z4i n d.name).bind λh=>pIf (!h) (yzp n b c a true) (pIf ((d.args.length:Int)==0) (yzp n b c a true) ((z4h n d.args).bind λg=>(z0y n g.re).bind λe=>yzp n b c a (e != 0)))))) (some true)
def yzp:Nat->zm8->Int->Int->Bool->Ot Bool|0,_,_,_,_=>none|n+1,a,b,c,d=>pIf d (some false) (z0e n (IntKind.i64.wrap (c+1)) a b)
end
def y6r:LSh:=⟨[(2,dB)],[],0,125,[]⟩
noncomputable def zpr:FI dat:=FI.of dat 92 125 0 [dT 8] [] [dB] [] true y6r (R:=Bool) Prod.fst (·,()) (λn=>u1 (z7f n)) (λn=>[(0,⟨⟨[(1,(.ptr 0 0)),(3,dB)],[(.st 8)],0,125,[]⟩,u2 (z1b n)⟩),(1,⟨⟨[(1,(.ptr 0 0)),(3,dB),(4,dU),(22,dB)],[(.st 8)],0,125,[]⟩,u4 (z1f n)⟩),(2,⟨⟨[(1,(.ptr 0 0)),(3,dB),(4,dU)],[(.st 8)],0,125,[]⟩,u3 (z1h n)⟩),(3,⟨⟨[(1,(.ptr 0 0)),(3,dB),(23,dB)],[(.st 8)],0,125,[]⟩,u3 (z08 n)⟩),(4,⟨⟨[(1,(.ptr 0 0)),(3,dB),(38,dB)],[(.st 8)],0,125,[]⟩,u3 (z0b n)⟩),(5,⟨⟨[(1,(.ptr 0 0)),(53,dB)],[(.st 8)],0,125,[]⟩,u2 (yzu n)⟩),(6,⟨⟨[(93,dI),(91,dL 7),(92,dI)],[],0,125,[]⟩,u3 (z0e n)⟩),(7,⟨⟨[(91,dL 7),(92,dI),(93,dI),(123,dB)],[],0,125,[]⟩,u4 (yzp n)⟩)]) (anb [(4,0),(9,1),(12,2),(16,3),(22,4),(28,5),(43,6),(56,7)] f92)
def y4f:FOk prog zpr:=okF (bs:=[zm0,zx3,zh3,y1w]) ⟨zpo,y53,zi6,y8x,trivial⟩ func92 ntmps92 call92 (λ_ _=>tr (z7f.eq_2 ..)) (λn=>⟨λ_=>tr (z1b.eq_2 ..),λ_=>tr (z1f.eq_2 ..),λ_=>tr (z1h.eq_2 ..),λ_=>tr (z08.eq_2 ..),λ_=>tr (z0b.eq_2 ..),λ_=>tr (yzu.eq_2 ..),λ_=>tr (z0e.eq_2 ..),λ_=>tr (yzp.eq_2 ..),trivial⟩)
mutual
def zca:Nat->yz2->Ot Bool|0,_=>none|n+1,a=>z32 n 0 a.attrs (a.attrs.length:Int) a
def z32:Nat->Int->z2f->Int->yz2->Ot Bool|0,_,_,_,_=>none|n+1,a,b,c,d=>pIf (decide (a<c)) ((ix b a).bind λe=>(z4i n e.name).bind λh=>pIf (!h) (z4t n b c a true d) ((z0y n e.value.re).bind λg=>z4t n b c a (g != 0) d)) (z2y n 0 d.rules (d.rules.length:Int))
def z4t:Nat->z2f->Int->Int->Bool->yz2->Ot Bool|0,_,_,_,_,_=>none|n+1,a,b,c,d,e=>pIf d (some false) (z32 n (IntKind.i64.wrap (c+1)) a b e)
def z2y:Nat->Int->zzl->Int->Ot Bool|0,_,_,_=>none|n+1,a,b,c=>pIf (decide (a<c)) ((ix b a).bind λd=>(z4i n d.name).bind λg=>pIf (!g) (z4w n b c a true d) ((zzm n d.params).bind λe=>z4w n b c a e d)) (some true)
def z4w:Nat->zzl->Int->Int->Bool->yz7->Ot Bool|0,_,_,_,_,_=>none|n+1,a,b,c,d,e=>pIf d (some false) (z3a n 0 e.cases a b c (e.cases.length:Int))
def z3a:Nat->Int->z4m->zzl->Int->Int->Int->Ot Bool|0,_,_,_,_,_,_=>none|n+1,a,b,c,d,e,f=>pIf (decide (a<f)) ((ix b a).bind λg=>pIf (decide (g.weight<1)) (z2t n b c d e f a true g.re) (pIf (decide (g.weight>1000000)) (z2t n b c d e f a true g.re) ((z0y n g.when_.re).bind λh=>z2t n b c d e f a (h != 0) g.re))) (z2y n (IntKind.i64.wrap (e+1)) c d)
def z2t:Nat->z4m->zzl->Int->Int->Int->Int->Bool->kz7->Ot Bool|0,_,_,_,_,_,_,_,_=>none|n+1,a,b,c,d,e,f,g,h=>pIf g (some false) (z2x n 0 h.do_ a b c d e f (h.do_.length:Int))
def z2x:Nat->Int->z9z->z4m->zzl->Int->Int->Int->Int->Int->Ot Bool|0,_,_,_,_,_,_,_,_,_=>none|n+1,a,b,c,d,e,f,g,h,i=>pIf (decide (a<i)) ((ix b a).bind λk=>(z7f n k).bind λj=>pIf (!j) (some false) (z2x n (IntKind.i64.wrap (a+1)) b c d e f g h i)) (z3a n (IntKind.i64.wrap (h+1)) c d e f g)
end
def yko:LSh:=⟨[(2,dB)],[],0,79,[]⟩
noncomputable def zyc:FI dat:=FI.of dat 33 79 0 [dT 11] [] [dB] [] true yko (R:=Bool) Prod.fst (·,()) (λn=>u1 (zca n)) (λn=>[(0,⟨⟨[(14,dI),(12,dL 6),(1,(.ptr 0 0)),(13,dI)],[(.st 11)],0,79,[]⟩,u4 (z32 n)⟩),(1,⟨⟨[(12,dL 6),(1,(.ptr 0 0)),(13,dI),(14,dI),(27,dB)],[(.st 11)],0,79,[]⟩,u5 (z4t n)⟩),(2,⟨⟨[(32,dI),(30,dL 10),(31,dI)],[],0,79,[]⟩,u3 (z2y n)⟩),(3,⟨⟨[(30,dL 10),(31,dI),(32,dI),(6,(.ptr 0 0)),(44,dB)],[(.st 10)],0,79,[]⟩,u5 (z4w n)⟩),(4,⟨⟨[(48,dI),(46,dL 9),(30,dL 10),(31,dI),(32,dI),(47,dI)],[],0,79,[]⟩,u6 (z3a n)⟩),(5,⟨⟨[(46,dL 9),(30,dL 10),(31,dI),(32,dI),(47,dI),(48,dI),(8,(.ptr 0 0)),(65,dB)],[(.st 9)],0,79,[]⟩,u8 (z2t n)⟩),(6,⟨⟨[(69,dI),(67,dL 8),(46,dL 9),(30,dL 10),(31,dI),(32,dI),(47,dI),(48,dI),(68,dI)],[],0,79,[]⟩,u9 (z2x n)⟩)]) (anb [(6,0),(19,1),(29,2),(43,3),(51,4),(65,5),(73,6)] f33)
def ydz:FOk prog zyc:=okF (bs:=[zm0,zh3,zb5,zpr]) ⟨zpo,zi6,zhl,y4f,trivial⟩ func33 ntmps33 call33 (λ_ _=>tr (zca.eq_2 ..)) (λn=>⟨λ_=>tr (z32.eq_2 ..),λ_=>tr (z4t.eq_2 ..),λ_=>tr (z2y.eq_2 ..),λ_=>tr (z4w.eq_2 ..),λ_=>tr (z3a.eq_2 ..),λ_=>tr (z2t.eq_2 ..),λ_=>tr (z2x.eq_2 ..),trivial⟩)
mutual
def zzs:Nat->B8->(List B8)->Ot (Int×(List B8))|0,_,_=>none|n+1,a,b=>kzi n 0 a (b.length:Int) b
def kzi:Nat->Int->B8->Int->(List B8)->Ot (Int×(List B8))|0,_,_,_,_=>none|n+1,a,b,c,d=>pIf (decide (a<c)) ((ix d a).bind λe=>pIf (b==e) (some (a,d)) (kzi n (IntKind.i64.wrap (a+1)) b c d)) (some ((-1),d))
end
def zl0:LSh:=⟨[(4,dI)],[(.acc 9 .str true)],1,19,[]⟩
noncomputable def zdh:FI dat:=FI.of dat 35 19 1 [(.own 0),dS] [(.acc 9 .str true)] [dI] [(.acc 9 .str true)] false zl0 (R:=Int×(List B8)) (λx=>(x.1,x.2.1)) (λr=>(r.1,r.2,())) (λn=>u2 (zzs n)) (λn=>[(0,⟨⟨[(8,dI),(0,(.own 0)),(1,dS),(7,dI)],[(.acc 9 .str true)],1,19,[]⟩,u4 (kzi n)⟩)]) (anb [(6,0)] f35)
def zkt:FOk prog zdh:=okF (bs:=[]) trivial func35 ntmps35 call35 (λ_ _=>tr (zzs.eq_2 ..)) (λn=>⟨λ_=>tr (kzi.eq_2 ..),trivial⟩)
def kzn:Nat->B8->(List B8)->Ot (Bool×(List B8))|0,_,_=>none|n+1,a,b=>(zzs n a b).bind λd=>some ((decide (d.1>=0)),d.2)
def zij:LSh:=⟨[(4,dB)],[(.acc 9 .str true)],1,9,[]⟩
noncomputable def z4x:FI dat:=FI.of dat 149 9 1 [(.own 0),dS] [(.acc 9 .str true)] [dB] [(.acc 9 .str true)] false zij (R:=Bool×(List B8)) (λx=>(x.1,x.2.1)) (λr=>(r.1,r.2,())) (λn=>u2 (kzn n)) (λn=>[]) (anb [] f149)
def zhy:FOk prog z4x:=okF (bs:=[zdh]) ⟨zkt,trivial⟩ func149 ntmps149 call149 (λ_ _=>tr (kzn.eq_2 ..)) (λn=>trivial)
mutual
def zda:Nat->zz2->(List B8)->Ot (List B8)|0,_,_=>none|n+1,a,b=>pIf (a.op==2) ((kzn n a.name b).bind λd=>zbg n (!d.1) d.2 a.re) (zbg n false b a.re)
def zbg:Nat->Bool->(List B8)->zz2->Ot (List B8)|0,_,_,_=>none|n+1,a,b,c=>pIf a ((ext b [c.name]).bind λd=>z7t n d c.re) (z7t n b c.re)
def z7t:Nat->(List B8)->zz2->Ot (List B8)|0,_,_=>none|n+1,a,b=>z7w n 0 b.args (b.args.length:Int) a
def z7w:Nat->Int->kz9->Int->(List B8)->Ot (List B8)|0,_,_,_,_=>none|n+1,a,b,c,d=>pIf (decide (a<c)) ((ix b a).bind λg=>(zda n g.re d).bind λe=>z7w n (IntKind.i64.wrap (a+1)) b c e) (some d)
end
def yre:LSh:=⟨[],[(.cells [(.own 1)]),(.acc 9 .str true)],1,38,[]⟩
noncomputable def zk8:FI dat:=FI.of dat 153 38 1 [dT 5,(.ptr 0 0)] [(.cells [(.own 1)]),(.acc 9 .str true)] [] [(.cells [(.own 1)]),(.acc 9 .str true)] false yre (R:=List B8) Prod.fst (·,()) (λn=>u2 (zda n)) (λn=>[(0,⟨⟨[(1,(.ptr 0 0)),(2,(.ptr 2 0)),(17,dB)],[(.cells [(.own 1)]),(.acc 9 .str true),(.st 5)],1,38,[]⟩,u3 (zbg n)⟩),(1,⟨⟨[(1,(.ptr 0 0)),(2,(.ptr 2 0))],[(.cells [(.own 1)]),(.acc 9 .str true),(.st 5)],1,38,[]⟩,u2 (z7t n)⟩),(2,⟨⟨[(30,dI),(1,(.ptr 0 0)),(28,dL 5),(29,dI)],[(.cells [(.own 1)]),(.acc 9 .str true)],1,38,[]⟩,u4 (z7w n)⟩)]) (anb [(5,0),(8,1),(11,2)] f153)
noncomputable def ytl:List (FI dat):=[zk8]++[z4x]
def yrd:(zk8).Good prog dat (tb ytl):=FI.z2i (hD:=kzd _) func153 ntmps153 call153 (by kernel_rfl) (Qac (by kernel_rfl)) (by kernel_rfl) (λn=>by kernel_rfl) (λx=>by kernel_rfl) (λ_=>rfl) ⟨λ_=>rfl,λ_=>rfl,λ_=>rfl,trivial⟩ (λ_ _=>tr (zda.eq_2 ..)) (λn=>⟨λ_=>tr (zbg.eq_2 ..),λ_=>tr (z7t.eq_2 ..),λ_=>tr (z7w.eq_2 ..),trivial⟩) (λx=>.inr (by kernel_rfl))
def yrs:OkL prog [zk8]:=z98 (kzd _) (bs:=[z4x]) ⟨zhy,trivial⟩ ⟨yrd,trivial⟩
def yoc:FOk prog zk8:=yrs.1
def zfi:Nat->zz2->Ot ((List B8)×Int)|0,_=>none|n+1,a=>(z0y n a.re).bind λb=>pIf (b != 0) (some ([],b)) ((zda n a.re []).bind λe=>(zzn n e).bind λd=>some (d,0))
def yrk:LSh:=⟨[(2,dA),(3,dI)],[],0,16,[]⟩
noncomputable def y8k:FI dat:=FI.of dat 93 16 0 [dT 5] [] [dA,dI] [] true yrk (R:=(List B8)×Int) (λx=>(x.1,x.2.1)) (λr=>(r.1,r.2,())) (λn=>u1 (zfi n)) (λn=>[]) (anb [] f93)
def yo7:FOk prog y8k:=okF (bs:=[zk8,z2j,zh3]) ⟨yoc,zao,zi6,trivial⟩ func93 ntmps93 call93 (λ_ _=>tr (zfi.eq_2 ..)) (λn=>trivial)
def zc4:Nat->B8->(List B8)->(List Bool)->Ot (Bool×(List B8)×(List Bool))|0,_,_,_=>none|n+1,a,b,c=>some ((!(Option.getD (zau (List.zip b c) a) false)),(mks (List.zip b c)),(mvs (List.zip b c)))
def ykk:LSh:=⟨[(3,dB)],[(.cells [(.map 1)]),(.mp 76 .bool)],2,8,[]⟩
noncomputable def zyn:FI dat:=FI.of dat 94 8 2 [dS,(.ptr 0 0)] [(.cells [(.map 1)]),(.mp 76 .bool)] [dB] [(.cells [(.map 1)]),(.mp 76 .bool)] false ykk (R:=Bool×(List B8)×(List Bool)) (λx=>(x.1,x.2.1,x.2.2.1)) (λr=>(r.1,r.2.1,r.2.2,())) (λn=>u3 (zc4 n)) (λn=>[]) (anb [] f94)
def yf4:FOk prog zyn:=okF (bs:=[]) trivial func94 ntmps94 call94 (λn=>λ_=>tr (zc4.eq_2 _ _ _ n)) (λn=>trivial)
mutual
def zzt:Nat->(List B8)->(List B8)->(List Bool)->Ot (Int×(List B8)×(List Bool))|0,_,_,_=>none|n+1,a,b,c=>kzc n 0 a (a.length:Int) (mks (List.zip b c)) (mvs (List.zip b c))
def kzc:Nat->Int->(List B8)->Int->(List B8)->(List Bool)->Ot (Int×(List B8)×(List Bool))|0,_,_,_,_,_=>none|n+1,a,b,c,d,e=>pIf (decide (a<c)) ((ix b a).bind λh=>(zc4 n h (mks (List.zip d e)) (mvs (List.zip d e))).bind λg=>pIf g.1 (some (a,(mks (List.zip g.2.1 g.2.2)),(mvs (List.zip g.2.1 g.2.2)))) (kzc n (IntKind.i64.wrap (a+1)) b c (mks (List.zip g.2.1 g.2.2)) (mvs (List.zip g.2.1 g.2.2)))) (some ((-1),(mks (List.zip d e)),(mvs (List.zip d e))))
end
def zib:LSh:=⟨[(4,dI)],[(.cells [(.map 1)]),(.mp 76 .bool)],2,19,[]⟩
noncomputable def zb4:FI dat:=FI.of dat 152 19 2 [dA,(.fn 94 [] [(.ptr 0 0)])] [(.cells [(.map 1)]),(.mp 76 .bool)] [dI] [(.cells [(.map 1)]),(.mp 76 .bool)] false zib (R:=Int×(List B8)×(List Bool)) (λx=>(x.1,x.2.1,x.2.2.1)) (λr=>(r.1,r.2.1,r.2.2,())) (λn=>u3 (zzt n)) (λn=>[(0,⟨⟨[(8,dI),(0,dA),(1,(.fn 94 [] [(.ptr 0 0)])),(7,dI)],[(.cells [(.map 1)]),(.mp 76 .bool)],2,19,[]⟩,u5 (kzc n)⟩)]) (anb [(6,0)] f152)
def zhk:FOk prog zb4:=okF (bs:=[zyn]) ⟨yf4,trivial⟩ func152 ntmps152 call152 (λ_ _=>tr (zzt.eq_2 ..)) (λn=>⟨λ_=>tr (kzc.eq_2 ..),trivial⟩)
def zzj:Nat->(List B8)->(List B8)->(List Bool)->Ot (Bool×(List B8)×(List Bool))|0,_,_,_=>none|n+1,a,b,c=>(zzt n a (mks (List.zip b c)) (mvs (List.zip b c))).bind λd=>some ((decide (d.1>=0)),(mks (List.zip d.2.1 d.2.2)),(mvs (List.zip d.2.1 d.2.2)))
def zgf:LSh:=⟨[(4,dB)],[(.cells [(.map 1)]),(.mp 76 .bool)],2,9,[]⟩
noncomputable def z9i:FI dat:=FI.of dat 90 9 2 [dA,(.fn 94 [] [(.ptr 0 0)])] [(.cells [(.map 1)]),(.mp 76 .bool)] [dB] [(.cells [(.map 1)]),(.mp 76 .bool)] false zgf (R:=Bool×(List B8)×(List Bool)) (λx=>(x.1,x.2.1,x.2.2.1)) (λr=>(r.1,r.2.1,r.2.2,())) (λn=>u3 (zzj n)) (λn=>[]) (anb [] f90)
def zgb:FOk prog z9i:=okF (bs:=[zb4]) ⟨zhk,trivial⟩ func90 ntmps90 call90 (λ_ _=>tr (zzj.eq_2 ..)) (λn=>trivial)
def zd3:Nat->zz2->(List B8)->(List Bool)->Ot (Bool×(List B8)×(List Bool))|0,_,_,_=>none|n+1,a,b,c=>(zfi n a.re).bind λe=>(zzj n e.1 (mks (List.zip b c)) (mvs (List.zip b c))).bind λd=>some (d.1,(mks (List.zip d.2.1 d.2.2)),(mvs (List.zip d.2.1 d.2.2)))
def yrh:LSh:=⟨[(4,dB)],[(.mp 76 .bool)],1,15,[]⟩
noncomputable def zwz:FI dat:=FI.of dat 34 15 1 [dT 5,(.map 0)] [(.mp 76 .bool)] [dB] [(.mp 76 .bool)] false yrh (R:=Bool×(List B8)×(List Bool)) (λx=>(x.1,x.2.1,x.2.2.1)) (λr=>(r.1,r.2.1,r.2.2,())) (λn=>u3 (zd3 n)) (λn=>[]) (anb [] f34)
def y5a:FOk prog zwz:=okF (bs:=[z9i,y8k]) ⟨zgb,yo7,trivial⟩ func34 ntmps34 call34 (λ_ _=>tr (zd3.eq_2 ..)) (λn=>trivial)
mutual
def ze7:Nat->yz7->Ot kz9|0,_=>none|n+1,a=>z6n n 0 a.cases (a.cases.length:Int) []
def z6n:Nat->Int->z4m->Int->kz9->Ot kz9|0,_,_,_,_=>none|n+1,a,b,c,d=>pIf (decide (a<c)) ((ix b a).bind λe=>(ext d [e.when_.re]).bind λg=>z6b n 0 e.do_ b c a (e.do_.length:Int) g) (some d)
def z6b:Nat->Int->z9z->z4m->Int->Int->Int->kz9->Ot kz9|0,_,_,_,_,_,_,_=>none|n+1,a,b,c,d,e,f,g=>pIf (decide (a<f)) ((ix b a).bind λh=>(ext g h.args).bind λi=>z6e n 0 h.items b c d e f a (h.items.length:Int) i) (z6n n (IntKind.i64.wrap (e+1)) c d g)
def z6e:Nat->Int->zm8->z9z->z4m->Int->Int->Int->Int->Int->kz9->Ot kz9|0,_,_,_,_,_,_,_,_,_,_=>none|n+1,a,b,c,d,e,f,g,h,i,j=>pIf (decide (a<i)) ((ix b a).bind λl=>(ext j l.args).bind λk=>z6e n (IntKind.i64.wrap (a+1)) b c d e f g h i k) (z6b n (IntKind.i64.wrap (h+1)) c d e f g j)
end
def ynt:LSh:=⟨[(2,dL 5)],[],0,48,[]⟩
noncomputable def y5x:FI dat:=FI.of dat 37 48 0 [dT 10] [] [dL 5] [] true ynt (R:=kz9) Prod.fst (·,()) (λn=>u1 (ze7 n)) (λn=>[(0,⟨⟨[(13,dI),(3,(.own 0)),(11,dL 9),(12,dI)],[(.acc 29 (.st 5) true)],0,48,[]⟩,u4 (z6n n)⟩),(1,⟨⟨[(25,dI),(3,(.own 0)),(23,dL 8),(11,dL 9),(12,dI),(13,dI),(24,dI)],[(.acc 29 (.st 5) true)],0,48,[]⟩,u7 (z6b n)⟩),(2,⟨⟨[(36,dI),(3,(.own 0)),(34,dL 7),(23,dL 8),(11,dL 9),(12,dI),(13,dI),(24,dI),(25,dI),(35,dI)],[(.acc 29 (.st 5) true)],0,48,[]⟩,u10 (z6e n)⟩)]) (anb [(8,0),(24,1),(40,2)] f37)
def yjh:FOk prog y5x:=okF (bs:=[]) trivial func37 ntmps37 call37 (λ_ _=>tr (ze7.eq_2 ..)) (λn=>⟨λ_=>tr (z6n.eq_2 ..),λ_=>tr (z6b.eq_2 ..),λ_=>tr (z6e.eq_2 ..),trivial⟩)
def zbc:Nat->zz2->(List B8)->(List Bool)->Ot (Bool×(List B8)×(List Bool))|0,_,_,_=>none|n+1,a,b,c=>(zd3 n a.re (mks (List.zip b c)) (mvs (List.zip b c))).bind λd=>some (d.1,(mks (List.zip d.2.1 d.2.2)),(mvs (List.zip d.2.1 d.2.2)))
def ye3:LSh:=⟨[(3,dB)],[(.cells [(.map 1)]),(.mp 76 .bool)],2,7,[]⟩
noncomputable def zxl:FI dat:=FI.of dat 38 7 2 [dT 5,(.ptr 0 0)] [(.cells [(.map 1)]),(.mp 76 .bool)] [dB] [(.cells [(.map 1)]),(.mp 76 .bool)] false ye3 (R:=Bool×(List B8)×(List Bool)) (λx=>(x.1,x.2.1,x.2.2.1)) (λr=>(r.1,r.2.1,r.2.2,())) (λn=>u3 (zbc n)) (λn=>[]) (anb [] f38)
def yba:FOk prog zxl:=okF (bs:=[zwz]) ⟨y5a,trivial⟩ func38 ntmps38 call38 (λ_ _=>tr (zbc.eq_2 ..)) (λn=>trivial)
mutual
def yzr:Nat->kz9->(List B8)->(List Bool)->Ot (Int×(List B8)×(List Bool))|0,_,_,_=>none|n+1,a,b,c=>zzc n 0 a (a.length:Int) (mks (List.zip b c)) (mvs (List.zip b c))
def zzc:Nat->Int->kz9->Int->(List B8)->(List Bool)->Ot (Int×(List B8)×(List Bool))|0,_,_,_,_,_=>none|n+1,a,b,c,d,e=>pIf (decide (a<c)) ((ix b a).bind λh=>(zbc n h.re (mks (List.zip d e)) (mvs (List.zip d e))).bind λg=>pIf g.1 (some (a,(mks (List.zip g.2.1 g.2.2)),(mvs (List.zip g.2.1 g.2.2)))) (zzc n (IntKind.i64.wrap (a+1)) b c (mks (List.zip g.2.1 g.2.2)) (mvs (List.zip g.2.1 g.2.2)))) (some ((-1),(mks (List.zip d e)),(mvs (List.zip d e))))
end
def zhr:LSh:=⟨[(4,dI)],[(.cells [(.map 1)]),(.mp 76 .bool)],2,19,[]⟩
noncomputable def zaw:FI dat:=FI.of dat 95 19 2 [dL 5,(.fn 38 [] [(.ptr 0 0)])] [(.cells [(.map 1)]),(.mp 76 .bool)] [dI] [(.cells [(.map 1)]),(.mp 76 .bool)] false zhr (R:=Int×(List B8)×(List Bool)) (λx=>(x.1,x.2.1,x.2.2.1)) (λr=>(r.1,r.2.1,r.2.2,())) (λn=>u3 (yzr n)) (λn=>[(0,⟨⟨[(8,dI),(0,dL 5),(1,(.fn 38 [] [(.ptr 0 0)])),(7,dI)],[(.cells [(.map 1)]),(.mp 76 .bool)],2,19,[]⟩,u5 (zzc n)⟩)]) (anb [(6,0)] f95)
def zhb:FOk prog zaw:=okF (bs:=[zxl]) ⟨yba,trivial⟩ func95 ntmps95 call95 (λ_ _=>tr (yzr.eq_2 ..)) (λn=>⟨λ_=>tr (zzc.eq_2 ..),trivial⟩)
def yzg:Nat->kz9->(List B8)->(List Bool)->Ot (Bool×(List B8)×(List Bool))|0,_,_,_=>none|n+1,a,b,c=>(yzr n a (mks (List.zip b c)) (mvs (List.zip b c))).bind λd=>some ((decide (d.1>=0)),(mks (List.zip d.2.1 d.2.2)),(mvs (List.zip d.2.1 d.2.2)))
def zgc:LSh:=⟨[(4,dB)],[(.cells [(.map 1)]),(.mp 76 .bool)],2,9,[]⟩
noncomputable def z8z:FI dat:=FI.of dat 36 9 2 [dL 5,(.fn 38 [] [(.ptr 0 0)])] [(.cells [(.map 1)]),(.mp 76 .bool)] [dB] [(.cells [(.map 1)]),(.mp 76 .bool)] false zgc (R:=Bool×(List B8)×(List Bool)) (λx=>(x.1,x.2.1,x.2.2.1)) (λr=>(r.1,r.2.1,r.2.2,())) (λn=>u3 (yzg n)) (λn=>[]) (anb [] f36)
def zfu:FOk prog z8z:=okF (bs:=[zaw]) ⟨zhb,trivial⟩ func36 ntmps36 call36 (λ_ _=>tr (yzg.eq_2 ..)) (λn=>trivial)
mutual
def z9p:Nat->yz7->Ot z9d|0,_=>none|n+1,a=>z74 n 0 a.cases (a.cases.length:Int) []
def z74:Nat->Int->z4m->Int->z9d->Ot z9d|0,_,_,_,_=>none|n+1,a,b,c,d=>pIf (decide (a<c)) ((ix b a).bind λe=>z4c n 0 e.do_ b c a (e.do_.length:Int) d) (some d)
def z4c:Nat->Int->z9z->z4m->Int->Int->Int->z9d->Ot z9d|0,_,_,_,_,_,_,_=>none|n+1,a,b,c,d,e,f,g=>pIf (decide (a<f)) ((ix b a).bind λh=>pIf (!(h.name==[])) ((zcq n h.kind).bind λi=>(ext g [(z0j.mk h.name (IntKind.i64.wrap ((h.args.length:Int)-i)))]).bind λj=>z7b n b c d e f a j h) (z7b n b c d e f a g h)) (z74 n (IntKind.i64.wrap (e+1)) c d g)
def z7b:Nat->z9z->z4m->Int->Int->Int->Int->z9d->zz4->Ot z9d|0,_,_,_,_,_,_,_,_=>none|n+1,a,b,c,d,e,f,g,h=>z69 n 0 h.items a b c d e f (h.items.length:Int) g
def z69:Nat->Int->zm8->z9z->z4m->Int->Int->Int->Int->Int->z9d->Ot z9d|0,_,_,_,_,_,_,_,_,_,_=>none|n+1,a,b,c,d,e,f,g,h,i,j=>pIf (decide (a<i)) ((ix b a).bind λk=>(ext j [(z0j.mk k.name (IntKind.i64.wrap ((k.args.length:Int)-1)))]).bind λl=>z69 n (IntKind.i64.wrap (a+1)) b c d e f g h i l) (z4c n (IntKind.i64.wrap (h+1)) c d e f g j)
end
def ym9:LSh:=⟨[(2,dL 12)],[],0,61,[]⟩
noncomputable def zm6:FI dat:=FI.of dat 39 61 0 [dT 10] [] [dL 12] [] true ym9 (R:=z9d) Prod.fst (·,()) (λn=>u1 (z9p n)) (λn=>[(0,⟨⟨[(3,(.own 0)),(13,dI),(11,dL 9),(12,dI)],[(.acc 86 (.st 12) true)],0,61,[]⟩,u4 (z74 n)⟩),(1,⟨⟨[(20,dI),(3,(.own 0)),(18,dL 8),(11,dL 9),(12,dI),(13,dI),(19,dI)],[(.acc 86 (.st 12) true)],0,61,[]⟩,u7 (z4c n)⟩),(2,⟨⟨[(3,(.own 0)),(18,dL 8),(11,dL 9),(12,dI),(13,dI),(19,dI),(20,dI),(7,(.ptr 1 0))],[(.acc 86 (.st 12) true),(.st 8)],0,61,[]⟩,u8 (z7b n)⟩),(3,⟨⟨[(43,dI),(3,(.own 0)),(41,dL 7),(18,dL 8),(11,dL 9),(12,dI),(13,dI),(19,dI),(20,dI),(42,dI)],[(.acc 86 (.st 12) true)],0,61,[]⟩,u10 (z69 n)⟩)]) (anb [(8,0),(22,1),(39,2),(42,3)] f39)
def zpl:FOk prog zm6:=okF (bs:=[y1w]) ⟨y8x,trivial⟩ func39 ntmps39 call39 (λ_ _=>tr (z9p.eq_2 ..)) (λn=>⟨λ_=>tr (z74.eq_2 ..),λ_=>tr (z4c.eq_2 ..),λ_=>tr (z7b.eq_2 ..),λ_=>tr (z69.eq_2 ..),trivial⟩)
mutual
noncomputable def z9b:Nat->yz2->Ot Int
 |0,_=>none
 |n+1,a=>
  (zfm n a).bind λd=>
  pIf d
   (some 4)
   ((zca n a).bind λb=>
   pIf (!b)
    (some 8)
    (z6v n 0 false a.attrs (a.attrs.length:Int) [] [] [] [] a))
noncomputable def z6v:Nat->Int->Bool->z2f->Int->(List B8)->(List Bool)->(List B8)->(List Int)->yz2->Ot Int
 |0,_,_,_,_,_,_,_,_,_=>none
 |n+1,a,b,c,d,e,f,g,h,i=>
  pIf (decide (a<d))
   ((ix c a).bind λk=>
   pIf b
    (z65 n true c d a (mks (List.zip e f)) (mvs (List.zip e f)) (mks (List.zip g h)) (mvs (List.zip g h)) i k.re)
    ((zd3 n k.value.re (mks (List.zip e f)) (mvs (List.zip e f))).bind λj=>
    z65 n j.1 c d a (mks (List.zip j.2.1 j.2.2)) (mvs (List.zip j.2.1 j.2.2)) (mks (List.zip g h)) (mvs (List.zip g h)) i k.re))
   (z5z n 0 i.rules b (i.rules.length:Int) (mks (List.zip e f)) (mvs (List.zip e f)) (mks (List.zip g h)) (mvs (List.zip g h)) i)
noncomputable def z65:Nat->Bool->z2f->Int->Int->(List B8)->(List Bool)->(List B8)->(List Int)->yz2->yzl->Ot Int
 |0,_,_,_,_,_,_,_,_,_,_=>none
 |n+1,a,b,c,d,e,f,g,h,i,j=>
  pIf (Option.getD (zau (List.zip e f) j.name) false)
   (some 14)
   (z6v n (IntKind.i64.wrap (d+1)) a b c (mks (ze4 (List.zip e f) j.name true)) (mvs (ze4 (List.zip e f) j.name true)) (mks (List.zip g h)) (mvs (List.zip g h)) i)
noncomputable def z5z:Nat->Int->zzl->Bool->Int->(List B8)->(List Bool)->(List B8)->(List Int)->yz2->Ot Int
 |0,_,_,_,_,_,_,_,_,_=>none
 |n+1,a,b,c,d,e,f,g,h,i=>
  pIf (decide (a<d))
   ((ix b a).bind λj=>
   pIf (Option.isSome (zau (List.zip g h) j.name))
    (some 14)
    (z62 n 0 j.params b c d a (j.params.length:Int) j (mks (List.zip e f)) (mvs (List.zip e f)) (mks (ze4 (List.zip g h) j.name a)) (mvs (ze4 (List.zip g h) j.name a)) i))
   (z3z n false 0 c (mks (List.zip e f)) (mvs (List.zip e f)) i.rules (i.rules.length:Int) i (mks (List.zip g h)) (mvs (List.zip g h)))
noncomputable def z62:Nat->Int->(List B8)->zzl->Bool->Int->Int->Int->yz7->(List B8)->(List Bool)->(List B8)->(List Int)->yz2->Ot Int
 |0,_,_,_,_,_,_,_,_,_,_,_,_,_=>none
 |n+1,a,b,c,d,e,f,g,h,i,j,k,l,m=>
  pIf (decide (a<g))
   ((ix b a).bind λo=>
   pIf (Option.getD (zau (List.zip i j) o) false)
    (z6z n b c d e f g a true h (mks (List.zip i j)) (mvs (List.zip i j)) (mks (List.zip k l)) (mvs (List.zip k l)) m)
    ((yz5 n h.params o).bind λp=>
    z6z n b c d e f g a (decide (p<a)) h (mks (List.zip i j)) (mvs (List.zip i j)) (mks (List.zip k l)) (mvs (List.zip k l)) m))
   (z5z n (IntKind.i64.wrap (f+1)) c d e (mks (List.zip i j)) (mvs (List.zip i j)) (mks (List.zip k l)) (mvs (List.zip k l)) m)
noncomputable def z6z:Nat->(List B8)->zzl->Bool->Int->Int->Int->Int->Bool->yz7->(List B8)->(List Bool)->(List B8)->(List Int)->yz2->Ot Int
 |0,_,_,_,_,_,_,_,_,_,_,_,_,_,_=>none
 |n+1,a,b,c,d,e,f,g,h,i,j,k,l,m,o=>
  pIf h
   (some 14)
   (z62 n (IntKind.i64.wrap (g+1)) a b c d e f i (mks (List.zip j k)) (mvs (List.zip j k)) (mks (List.zip l m)) (mvs (List.zip l m)) o)
noncomputable def z3z:Nat->Bool->Int->Bool->(List B8)->(List Bool)->zzl->Int->yz2->(List B8)->(List Int)->Ot Int
 |0,_,_,_,_,_,_,_,_,_,_=>none
 |n+1,a,b,c,d,e,f,g,h,i,j=>
  pIf (decide (b<g))
   ((ix f b).bind λk=>
   z6x n a (mks (List.zip d e)) (mvs (List.zip d e)) f g b c (mks (List.zip d e)) (mvs (List.zip d e)) h (mks (List.zip i j)) (mvs (List.zip i j)) k (mks (ze4 (ze4 (ze4 [] [115,120] true) [115,121] true) [115,122] true)) (mvs (ze4 (ze4 (ze4 [] [115,120] true) [115,121] true) [115,122] true)))
   (pIf c
     (some 6)
     (pIf a
       (some 2)
       (some 0)))
noncomputable def z6x:Nat->Bool->(List B8)->(List Bool)->zzl->Int->Int->Bool->(List B8)->(List Bool)->yz2->(List B8)->(List Int)->yz7->(List B8)->(List Bool)->Ot Int
 |0,_,_,_,_,_,_,_,_,_,_,_,_,_,_,_=>none
 |n+1,a,b,c,d,e,f,g,h,i,j,k,l,m,o,p=>
  yd9 (List.zip h i) (λr s q=>
   z6x n a (mks (List.zip b c)) (mvs (List.zip b c)) d e f g (mks q) (mvs q) j (mks (List.zip k l)) (mvs (List.zip k l)) m (mks (ze4 (List.zip o p) r true)) (mvs (ze4 (List.zip o p) r true)))
   (z3u n 0 m.params a (mks (List.zip b c)) (mvs (List.zip b c)) d e f g (m.params.length:Int) j (mks (List.zip k l)) (mvs (List.zip k l)) m (mks (List.zip o p)) (mvs (List.zip o p)))
noncomputable def z3u:Nat->Int->(List B8)->Bool->(List B8)->(List Bool)->zzl->Int->Int->Bool->Int->yz2->(List B8)->(List Int)->yz7->(List B8)->(List Bool)->Ot Int
 |0,_,_,_,_,_,_,_,_,_,_,_,_,_,_,_,_=>none
 |n+1,a,b,c,d,e,f,g,h,i,j,k,l,m,o,p,q=>
  pIf (decide (a<j))
   ((ix b a).bind λr=>
   z3u n (IntKind.i64.wrap (a+1)) b c (mks (List.zip d e)) (mvs (List.zip d e)) f g h i j k (mks (List.zip l m)) (mvs (List.zip l m)) o (mks (ze4 (List.zip p q) r true)) (mvs (ze4 (List.zip p q) r true)))
   (pIf i
     (z6u n c true (mks (List.zip d e)) (mvs (List.zip d e)) f g h k (mks (List.zip l m)) (mvs (List.zip l m)) o)
     ((ze7 n o).bind λu=>
     (yzg n u (mks (List.zip p q)) (mvs (List.zip p q))).bind λs=>
     z6u n c s.1 (mks (List.zip d e)) (mvs (List.zip d e)) f g h k (mks (List.zip l m)) (mvs (List.zip l m)) o))
noncomputable def z6u:Nat->Bool->Bool->(List B8)->(List Bool)->zzl->Int->Int->yz2->(List B8)->(List Int)->yz7->Ot Int
 |0,_,_,_,_,_,_,_,_,_,_,_=>none
 |n+1,a,b,c,d,e,f,g,h,i,j,k=>
  (z9p n k).bind λl=>
  z6i n 0 a b l (mks (List.zip c d)) (mvs (List.zip c d)) e f g (l.length:Int) h (mks (List.zip i j)) (mvs (List.zip i j))
noncomputable def z6i:Nat->Int->Bool->Bool->z9d->(List B8)->(List Bool)->zzl->Int->Int->Int->yz2->(List B8)->(List Int)->Ot Int
 |0,_,_,_,_,_,_,_,_,_,_,_,_,_=>none
 |n+1,a,b,c,d,e,f,g,h,i,j,k,l,m=>
  pIf (decide (a<j))
   ((ix d a).bind λo=>
   pIf c
    (z4z n true d (mks (List.zip e f)) (mvs (List.zip e f)) g h i j a (Option.getD (zau (List.zip l m) o.name) 0) (Option.isSome (zau (List.zip l m) o.name)) b k (mks (List.zip l m)) (mvs (List.zip l m)) o)
    (z4z n (!(Option.isSome (zau (List.zip l m) o.name))) d (mks (List.zip e f)) (mvs (List.zip e f)) g h i j a (Option.getD (zau (List.zip l m) o.name) 0) (Option.isSome (zau (List.zip l m) o.name)) b k (mks (List.zip l m)) (mvs (List.zip l m)) o))
   (z3z n b (IntKind.i64.wrap (i+1)) c (mks (List.zip e f)) (mvs (List.zip e f)) g h k (mks (List.zip l m)) (mvs (List.zip l m)))
noncomputable def z4z:Nat->Bool->z9d->(List B8)->(List Bool)->zzl->Int->Int->Int->Int->Int->Bool->Bool->yz2->(List B8)->(List Int)->z0j->Ot Int
 |0,_,_,_,_,_,_,_,_,_,_,_,_,_,_,_,_=>none
 |n+1,a,b,c,d,e,f,g,h,i,j,k,l,m,o,p,q=>
  pIf l
   (z35 n true a b (mks (List.zip c d)) (mvs (List.zip c d)) e f g h i m (mks (List.zip o p)) (mvs (List.zip o p)))
   (pIf k
     ((ix m.rules j).bind λr=>
     z35 n (q.many != (r.params.length:Int)) a b (mks (List.zip c d)) (mvs (List.zip c d)) e f g h i m (mks (List.zip o p)) (mvs (List.zip o p)))
     (z35 n false a b (mks (List.zip c d)) (mvs (List.zip c d)) e f g h i m (mks (List.zip o p)) (mvs (List.zip o p))))
noncomputable def z35:Nat->Bool->Bool->z9d->(List B8)->(List Bool)->zzl->Int->Int->Int->Int->yz2->(List B8)->(List Int)->Ot Int
 |0,_,_,_,_,_,_,_,_,_,_,_,_,_=>none
 |n+1,a,b,c,d,e,f,g,h,i,j,k,l,m=>
  z6i n (IntKind.i64.wrap (j+1)) a b c (mks (List.zip d e)) (mvs (List.zip d e)) f g h i k (mks (List.zip l m)) (mvs (List.zip l m))
end
def yla:LSh:=⟨[(2,dI)],[],0,170,[]⟩
noncomputable def zm1:FI dat:=FI.of dat 10 170 0 [dT 11] [] [dI] [] true yla (R:=Int) Prod.fst (·,()) (λn=>u1 (z9b n)) (λn=>[(0,⟨⟨[(35,dI),(3,(.map 0)),(5,dB),(33,dL 6),(4,(.map 1)),(1,(.ptr 2 0)),(34,dI)],[(.mp 76 .bool),(.mp 77 (.int .i64)),(.st 11)],0,170,[]⟩,u9 (z6v n)⟩),(1,⟨⟨[(3,(.map 0)),(5,dB),(33,dL 6),(4,(.map 1)),(1,(.ptr 2 0)),(34,dI),(35,dI),(7,(.ptr 3 0))],[(.mp 76 .bool),(.mp 77 (.int .i64)),(.st 11),(.st 6)],0,170,[]⟩,u10 (z65 n)⟩),(2,⟨⟨[(3,(.map 0)),(57,dI),(4,(.map 1)),(55,dL 10),(1,(.ptr 2 0)),(5,dB),(56,dI)],[(.mp 76 .bool),(.mp 77 (.int .i64)),(.st 11)],0,170,[]⟩,u9 (z5z n)⟩),(3,⟨⟨[(77,dI),(9,(.ptr 0 0)),(3,(.map 1)),(75,dA),(4,(.map 2)),(55,dL 10),(1,(.ptr 3 0)),(5,dB),(56,dI),(57,dI),(76,dI)],[(.st 10),(.mp 76 .bool),(.mp 77 (.int .i64)),(.st 11)],0,170,[]⟩,λx=>z62 n x.1 x.2.1 x.2.2.1 x.2.2.2.1 x.2.2.2.2.1 x.2.2.2.2.2.1 x.2.2.2.2.2.2.1 x.2.2.2.2.2.2.2.1 x.2.2.2.2.2.2.2.2.1 x.2.2.2.2.2.2.2.2.2.1 x.2.2.2.2.2.2.2.2.2.2.1 x.2.2.2.2.2.2.2.2.2.2.2.1 x.2.2.2.2.2.2.2.2.2.2.2.2.1⟩),(4,⟨⟨[(9,(.ptr 0 0)),(3,(.map 1)),(75,dA),(4,(.map 2)),(55,dL 10),(1,(.ptr 3 0)),(5,dB),(56,dI),(57,dI),(76,dI),(77,dI),(92,dB)],[(.st 10),(.mp 76 .bool),(.mp 77 (.int .i64)),(.st 11)],0,170,[]⟩,λx=>z6z n x.1 x.2.1 x.2.2.1 x.2.2.2.1 x.2.2.2.2.1 x.2.2.2.2.2.1 x.2.2.2.2.2.2.1 x.2.2.2.2.2.2.2.1 x.2.2.2.2.2.2.2.2.1 x.2.2.2.2.2.2.2.2.2.1 x.2.2.2.2.2.2.2.2.2.2.1 x.2.2.2.2.2.2.2.2.2.2.2.1 x.2.2.2.2.2.2.2.2.2.2.2.2.1 x.2.2.2.2.2.2.2.2.2.2.2.2.2.1⟩),(5,⟨⟨[(1,(.ptr 0 0)),(14,dB),(4,(.map 1)),(98,dI),(5,dB),(3,(.mc .bool)),(96,dL 10),(97,dI)],[(.st 11),(.mp 77 (.int .i64))],0,170,[]⟩,u10 (z3z n)⟩),(6,⟨⟨[(17,(.ptr 0 0)),(105,(.ptr 1 0)),(1,(.ptr 2 0)),(14,dB),(4,(.map 3)),(3,(.mc .bool)),(96,dL 10),(97,dI),(98,dI),(16,(.ptr 4 0)),(5,dB)],[(.cells [(.map 5)]),(.mit .bool),(.st 11),(.mp 77 (.int .i64)),(.st 10),(.mp 76 .bool)],0,170,[]⟩,λx=>z6x n x.1 x.2.1 x.2.2.1 x.2.2.2.1 x.2.2.2.2.1 x.2.2.2.2.2.1 x.2.2.2.2.2.2.1 x.2.2.2.2.2.2.2.1 x.2.2.2.2.2.2.2.2.1 x.2.2.2.2.2.2.2.2.2.1 x.2.2.2.2.2.2.2.2.2.2.1 x.2.2.2.2.2.2.2.2.2.2.2.1 x.2.2.2.2.2.2.2.2.2.2.2.2.1 x.2.2.2.2.2.2.2.2.2.2.2.2.2.1 x.2.2.2.2.2.2.2.2.2.2.2.2.2.2.1⟩),(7,⟨⟨[(115,dI),(17,(.ptr 0 0)),(113,dA),(1,(.ptr 1 0)),(14,dB),(4,(.map 2)),(3,(.mc .bool)),(96,dL 10),(97,dI),(98,dI),(16,(.ptr 3 0)),(5,dB),(114,dI)],[(.cells [(.map 4)]),(.st 11),(.mp 77 (.int .i64)),(.st 10),(.mp 76 .bool)],0,170,[]⟩,λx=>z3u n x.1 x.2.1 x.2.2.1 x.2.2.2.1 x.2.2.2.2.1 x.2.2.2.2.2.1 x.2.2.2.2.2.2.1 x.2.2.2.2.2.2.2.1 x.2.2.2.2.2.2.2.2.1 x.2.2.2.2.2.2.2.2.2.1 x.2.2.2.2.2.2.2.2.2.2.1 x.2.2.2.2.2.2.2.2.2.2.2.1 x.2.2.2.2.2.2.2.2.2.2.2.2.1 x.2.2.2.2.2.2.2.2.2.2.2.2.2.1 x.2.2.2.2.2.2.2.2.2.2.2.2.2.2.1 x.2.2.2.2.2.2.2.2.2.2.2.2.2.2.2.1⟩),(8,⟨⟨[(1,(.ptr 0 0)),(14,dB),(5,dB),(4,(.map 1)),(3,(.mc .bool)),(96,dL 10),(97,dI),(98,dI),(16,(.ptr 2 0))],[(.st 11),(.mp 77 (.int .i64)),(.st 10)],0,170,[]⟩,u11 (z6u n)⟩),(9,⟨⟨[(132,dI),(1,(.ptr 0 0)),(14,dB),(5,dB),(4,(.map 1)),(130,dL 12),(3,(.mc .bool)),(96,dL 10),(97,dI),(98,dI),(131,dI)],[(.st 11),(.mp 77 (.int .i64))],0,170,[]⟩,λx=>z6i n x.1 x.2.1 x.2.2.1 x.2.2.2.1 x.2.2.2.2.1 x.2.2.2.2.2.1 x.2.2.2.2.2.2.1 x.2.2.2.2.2.2.2.1 x.2.2.2.2.2.2.2.2.1 x.2.2.2.2.2.2.2.2.2.1 x.2.2.2.2.2.2.2.2.2.2.1 x.2.2.2.2.2.2.2.2.2.2.2.1 x.2.2.2.2.2.2.2.2.2.2.2.2.1⟩),(10,⟨⟨[(1,(.ptr 0 0)),(5,dB),(4,(.map 1)),(130,dL 12),(3,(.mc .bool)),(96,dL 10),(97,dI),(98,dI),(131,dI),(132,dI),(23,dI),(22,(.ptr 2 0)),(24,dB),(14,dB)],[(.st 11),(.mp 77 (.int .i64)),(.st 12)],0,170,[]⟩,λx=>z4z n x.1 x.2.1 x.2.2.1 x.2.2.2.1 x.2.2.2.2.1 x.2.2.2.2.2.1 x.2.2.2.2.2.2.1 x.2.2.2.2.2.2.2.1 x.2.2.2.2.2.2.2.2.1 x.2.2.2.2.2.2.2.2.2.1 x.2.2.2.2.2.2.2.2.2.2.1 x.2.2.2.2.2.2.2.2.2.2.2.1 x.2.2.2.2.2.2.2.2.2.2.2.2.1 x.2.2.2.2.2.2.2.2.2.2.2.2.2.1 x.2.2.2.2.2.2.2.2.2.2.2.2.2.2.1 x.2.2.2.2.2.2.2.2.2.2.2.2.2.2.2.1⟩),(11,⟨⟨[(1,(.ptr 0 0)),(14,dB),(5,dB),(4,(.map 1)),(130,dL 12),(3,(.mc .bool)),(96,dL 10),(97,dI),(98,dI),(131,dI),(132,dI)],[(.st 11),(.mp 77 (.int .i64))],0,170,[]⟩,λx=>z35 n x.1 x.2.1 x.2.2.1 x.2.2.2.1 x.2.2.2.2.1 x.2.2.2.2.2.1 x.2.2.2.2.2.2.1 x.2.2.2.2.2.2.2.1 x.2.2.2.2.2.2.2.2.1 x.2.2.2.2.2.2.2.2.2.1 x.2.2.2.2.2.2.2.2.2.2.1 x.2.2.2.2.2.2.2.2.2.2.2.1 x.2.2.2.2.2.2.2.2.2.2.2.2.1⟩)]) (anb [(26,0),(39,1),(53,2),(79,3),(92,4),(105,5),(122,6),(137,7),(152,8),(155,9),(170,10),(171,11)] f10)
def zp0:FOk prog zm1:=okF (bs:=[zwz,z8z,y8d,zyc,z04,y5x,zm6]) ⟨y5a,zfu,ymy,ydz,z3t,yjh,zpl,trivial⟩ func10 ntmps10 call10 (λn=>λ_=>tr (z9b.eq_2 _ n)) (λn=>⟨λ_=>tr (z6v.eq_2 _ _ _ _ _ _ _ _ _ n),λ_=>tr (z65.eq_2 _ _ _ _ _ _ _ _ _ _ n),λ_=>tr (z5z.eq_2 _ _ _ _ _ _ _ _ _ n),λ_=>tr (z62.eq_2 _ _ _ _ _ _ _ _ _ _ _ _ _ n),λ_=>tr (z6z.eq_2 _ _ _ _ _ _ _ _ _ _ _ _ _ _ n),λ_=>tr (z3z.eq_2 _ _ _ _ _ _ _ _ _ _ n),λ_=>tr (z6x.eq_2 _ _ _ _ _ _ _ _ _ _ _ _ _ _ _ n),λ_=>tr (z3u.eq_2 _ _ _ _ _ _ _ _ _ _ _ _ _ _ _ _ n),λ_=>tr (z6u.eq_2 _ _ _ _ _ _ _ _ _ _ _ n),λ_=>tr (z6i.eq_2 _ _ _ _ _ _ _ _ _ _ _ _ _ n),λ_=>tr (z4z.eq_2 _ _ _ _ _ _ _ _ _ _ _ _ _ _ _ _ n),λ_=>tr (z35.eq_2 _ _ _ _ _ _ _ _ _ _ _ _ _ n),trivial⟩)
def yzk:Nat->B8->B8->Ot Bool|0,_,_=>none|n+1,a,b=>pIf (decide ((a.length:Int)>=(b.length:Int))) ((sub a (IntKind.i64.wrap ((a.length:Int)-(b.length:Int))) (a.length:Int)).bind λd=>some (d==b)) (some false)
def zk6:LSh:=⟨[(4,dB)],[],0,21,[]⟩
noncomputable def z67:FI dat:=FI.of dat 97 21 0 [dS,dS] [] [dB] [] true zk6 (R:=Bool) Prod.fst (·,()) (λn=>u2 (yzk n)) (λn=>[]) (anb [] f97)
def zby:FOk prog z67:=okF (bs:=[]) trivial func97 ntmps97 call97 (λn=>λ_=>tr (yzk.eq_2 _ _ n)) (λn=>trivial)
def z38:Nat->B8->B8->Ot Bool|0,_,_=>none|n+1,a,b=>(yzk n a b).bind λd=>some d
def y4r:LSh:=⟨[(4,dB)],[],0,8,[]⟩
noncomputable def zhn:FI dat:=FI.of dat 41 8 0 [dS,dS] [] [dB] [] true y4r (R:=Bool) Prod.fst (·,()) (λn=>u2 (z38 n)) (λn=>[]) (anb [] f41)
def y1l:FOk prog zhn:=okF (bs:=[z67]) ⟨zby,trivial⟩ func41 ntmps41 call41 (λ_ _=>tr (z38.eq_2 ..)) (λn=>trivial)
mutual
def zb6:Nat->yz4->Ot (B8×Int)|0,_=>none|n+1,a=>(z6p n a).bind λd=>pIf (d != 0) (some ([],d)) ((z2v n a.num 10).bind λb=>pIf (a.den != 1) ((z2v n a.den 10).bind λe=>(cat [47] e).bind λh=>(cat b h).bind λg=>zbb n g) (zbb n b))
def zbb:Nat->B8->Ot (B8×Int)|0,_=>none|n+1,a=>some (a,0)
end
def yrx:LSh:=⟨[(2,dS),(3,dI)],[],0,24,[]⟩
noncomputable def zo7:FI dat:=FI.of dat 254 24 0 [dT 3] [] [dS,dI] [] true yrx (R:=B8×Int) (λx=>(x.1,x.2.1)) (λr=>(r.1,r.2,())) (λn=>u1 (zb6 n)) (λn=>[(0,⟨⟨[(5,dS)],[],0,24,[]⟩,u1 (zbb n)⟩)]) (anb [(20,0)] f254)
def y4z:FOk prog zo7:=okF (bs:=[zi0,zno]) ⟨zp4,zyr,trivial⟩ func254 ntmps254 call254 (λ_ _=>tr (zb6.eq_2 ..)) (λn=>⟨λ_=>tr (zbb.eq_2 _ n),trivial⟩)
def kz4:Nat->B8->(List Int)->Ot (Int×(List Int))|0,_,_=>none|n+1,a,b=>(z1p n b).bind λd=>(ext d (kzk a)).bind λe=>some ((a.length:Int),e)
def zn0:LSh:=⟨[(4,dI),(5,.nili)],[(.bld 111 1),(.acc 5 (.int .u8) true)],1,19,[]⟩
noncomputable def yzw:FI dat:=FI.of dat 59 19 1 [(.bp 0),dS] [(.bld 111 1),(.acc 5 (.int .u8) true)] [dI,.nili] [(.bld 111 1),(.acc 5 (.int .u8) true)] false zn0 (R:=Int×(List Int)) (λx=>(x.1,x.2.1)) (λr=>(r.1,r.2,())) (λn=>u2 (kz4 n)) (λn=>[]) (anb [] f59)
def z8i:FOk prog yzw:=okF (bs:=[z5p]) ⟨zak,trivial⟩ func59 ntmps59 call59 (λn x=>tr (kz4.eq_2 x.1 x.2.1 n)) (λn=>trivial)
def yzb:Nat->Int->(List Int)->Ot (List Int)|0,_,_=>none|n+1,a,b=>(z1p n b).bind λd=>(ext d [a]).bind λe=>some e
def zo9:LSh:=⟨[(4,.nili)],[(.bld 111 1),(.acc 5 (.int .u8) true)],1,17,[]⟩
noncomputable def z5o:FI dat:=FI.of dat 255 17 1 [(.bp 0),dU] [(.bld 111 1),(.acc 5 (.int .u8) true)] [.nili] [(.bld 111 1),(.acc 5 (.int .u8) true)] false zo9 (R:=List Int) Prod.fst (·,()) (λn=>u2 (yzb n)) (λn=>[]) (anb [] f255)
def zf7:FOk prog z5o:=okF (bs:=[z5p]) ⟨zak,trivial⟩ func255 ntmps255 call255 (λn x=>tr (yzb.eq_2 x.1 x.2.1 n)) (λn=>trivial)
mutual
def z57:Nat->Int->(List Int)->Ot (List Int)|0,_,_=>none|n+1,a,b=>pIf (decide ((IntKind.u32.wrap a)<=2047)) ((shr .i32 a 6).bind λe=>(ext b [(bits BinOp.or .u8 192 (IntKind.u8.wrap e)),(bits BinOp.or .u8 128 (bits BinOp.and .u8 (IntKind.u8.wrap a) 63))]).bind λd=>some d) (pIf (decide ((IntKind.u32.wrap a)<55296)) (zzr n a (IntKind.u32.wrap a) true b) (pIf (decide (57343<(IntKind.u32.wrap a))) (zzr n a (IntKind.u32.wrap a) (decide ((IntKind.u32.wrap a)<=65535)) b) (zzr n a (IntKind.u32.wrap a) false b)))
def zzr:Nat->Int->Int->Bool->(List Int)->Ot (List Int)|0,_,_,_,_=>none|n+1,a,b,c,d=>pIf c ((shr .i32 a 12).bind λh=>(shr .i32 a 6).bind λg=>(ext d [(bits BinOp.or .u8 224 (IntKind.u8.wrap h)),(bits BinOp.or .u8 128 (bits BinOp.and .u8 (IntKind.u8.wrap g) 63)),(bits BinOp.or .u8 128 (bits BinOp.and .u8 (IntKind.u8.wrap a) 63))]).bind λe=>some e) (pIf (decide (b>65535)) (z0k n a (decide (b<=1114111)) d) (z0k n a false d))
def z0k:Nat->Int->Bool->(List Int)->Ot (List Int)|0,_,_,_=>none|n+1,a,b,c=>pIf b ((shr .i32 a 18).bind λi=>(shr .i32 a 12).bind λh=>(shr .i32 a 6).bind λg=>(ext c [(bits BinOp.or .u8 240 (IntKind.u8.wrap i)),(bits BinOp.or .u8 128 (bits BinOp.and .u8 (IntKind.u8.wrap h) 63)),(bits BinOp.or .u8 128 (bits BinOp.and .u8 (IntKind.u8.wrap g) 63)),(bits BinOp.or .u8 128 (bits BinOp.and .u8 (IntKind.u8.wrap a) 63))]).bind λe=>some e) ((ext c [239,191,189]).bind λd=>some d)
end
def zjb:LSh:=⟨[(4,(.own 0))],[(.acc 5 (.int .u8) true)],0,78,[]⟩
noncomputable def zbw:FI dat:=FI.of dat 289 78 0 [(.own 0),(.d (.int .i32))] [(.acc 5 (.int .u8) true)] [(.own 0)] [(.acc 5 (.int .u8) true)] false zjb (R:=List Int) Prod.fst (·,()) (λn=>u2 (z57 n)) (λn=>[(0,⟨⟨[(1,(.d (.int .i32))),(0,(.own 0)),(5,(.d (.int .u32))),(25,dB)],[(.acc 5 (.int .u8) true)],0,78,[]⟩,u4 (zzr n)⟩),(1,⟨⟨[(1,(.d (.int .i32))),(0,(.own 0)),(50,dB)],[(.acc 5 (.int .u8) true)],0,78,[]⟩,u3 (z0k n)⟩)]) (anb [(17,0),(23,1)] f289)
def ziv:FOk prog zbw:=okF (bs:=[]) trivial func289 ntmps289 call289 (λ_ _=>tr (z57.eq_2 ..)) (λn=>⟨λ_=>tr (zzr.eq_2 ..),λ_=>tr (z0k.eq_2 _ _ _ n),trivial⟩)
def z0w:Nat->Int->(List Int)->Ot (List Int)|0,_,_=>none|n+1,a,b=>pIf (decide ((IntKind.u32.wrap a)<=127)) ((ext b [(IntKind.u8.wrap a)]).bind λe=>some e) ((z57 n a b).bind λd=>some d)
def zqk:LSh:=⟨[(4,(.own 0))],[(.acc 5 (.int .u8) true)],0,16,[]⟩
noncomputable def zhe:FI dat:=FI.of dat 278 16 0 [(.own 0),(.d (.int .i32))] [(.acc 5 (.int .u8) true)] [(.own 0)] [(.acc 5 (.int .u8) true)] false zqk (R:=List Int) Prod.fst (·,()) (λn=>u2 (z0w n)) (λn=>[]) (anb [] f278)
def zoo:FOk prog zhe:=okF (bs:=[zbw]) ⟨ziv,trivial⟩ func278 ntmps278 call278 (λ_ _=>tr (z0w.eq_2 ..)) (λn=>trivial)
def z02:Nat->Int->(List Int)->Ot (Int×(List Int))|0,_,_=>none|n+1,a,b=>(z1p n b).bind λe=>(z0w n a e).bind λd=>some ((IntKind.i64.wrap ((d.length:Int)-(e.length:Int))),d)
def zob:LSh:=⟨[(4,dI),(5,.nili)],[(.bld 111 1),(.acc 5 (.int .u8) true)],1,30,[]⟩
noncomputable def zaz:FI dat:=FI.of dat 256 30 1 [(.bp 0),(.d (.int .i32))] [(.bld 111 1),(.acc 5 (.int .u8) true)] [dI,.nili] [(.bld 111 1),(.acc 5 (.int .u8) true)] false zob (R:=Int×(List Int)) (λx=>(x.1,x.2.1)) (λr=>(r.1,r.2,())) (λn=>u2 (z02 n)) (λn=>[]) (anb [] f256)
def znc:FOk prog zaz:=okF (bs:=[z5p,zhe]) ⟨zak,zoo,trivial⟩ func256 ntmps256 call256 (λ_ _=>tr (z02.eq_2 ..)) (λn=>trivial)
mutual
def zbl:Nat->kz1->(List Int)->Ot (List Int)|0,_,_=>none|n+1,a,b=>pIf (a.kind==1) ((zb6 n a.num).bind λj=>(kz4 n j.1 b).bind λi=>some i.2) (pIf (a.kind==2) (pIf a.truth ((kz4 n [116,114,117,101] b).bind λh=>some h.2) ((kz4 n [102,97,108,115,101] b).bind λg=>some g.2)) (pIf (a.kind==3) ((yzb n 34 b).bind λe=>z6y n e a.str 0) (pIf (a.kind==4) ((yzb n 91 b).bind λd=>zg7 n 0 a.list (a.list.length:Int) d) (some b))))
def z6y:Nat->(List Int)->B8->Nat->Ot (List Int)|0,_,_,_=>none|n+1,a,b,c=>pIf (decide (c<b.length)) (pIf (((zel b c).1:Int)==34) (z64 n ((zel b c).1:Int) a b (c+(zel b c).2)) (pIf (((zel b c).1:Int)==92) (z64 n ((zel b c).1:Int) a b (c+(zel b c).2)) (z6g n ((zel b c).1:Int) a b (c+(zel b c).2)))) ((yzb n 34 a).bind λd=>some d)
def z64:Nat->Int->(List Int)->B8->Nat->Ot (List Int)|0,_,_,_,_=>none|n+1,a,b,c,d=>(yzb n 92 b).bind λe=>z6g n a e c d
def z6g:Nat->Int->(List Int)->B8->Nat->Ot (List Int)|0,_,_,_,_=>none|n+1,a,b,c,d=>(z02 n a b).bind λe=>z6y n e.2 c d
def zg7:Nat->Int->z3m->Int->(List Int)->Ot (List Int)|0,_,_,_,_=>none|n+1,a,b,c,d=>pIf (decide (a<c)) ((ix b a).bind λe=>pIf (decide (a>0)) ((kz4 n [44,32] d).bind λh=>zg1 n b c a h.2 e.re) (zg1 n b c a d e.re)) ((yzb n 93 d).bind λg=>some g)
def zg1:Nat->z3m->Int->Int->(List Int)->kz1->Ot (List Int)|0,_,_,_,_,_=>none|n+1,a,b,c,d,e=>(zbl n e.re d).bind λg=>zg7 n (IntKind.i64.wrap (c+1)) a b g
end
def yoa:LSh:=⟨[],[(.bld 111 1),(.acc 5 (.int .u8) true)],1,75,[]⟩
noncomputable def zi8:FI dat:=FI.of dat 224 75 1 [(.bp 0),dT 4] [(.bld 111 1),(.acc 5 (.int .u8) true)] [] [(.bld 111 1),(.acc 5 (.int .u8) true)] false yoa (R:=List Int) Prod.fst (·,()) (λn=>u2 (zbl n)) (λn=>[(0,⟨⟨[(0,(.bp 0)),(37,(.ptr 2 0))],[(.bld 111 1),(.acc 5 (.int .u8) true),.siter],1,75,[]⟩,u3 (z6y n)⟩),(1,⟨⟨[(0,(.bp 0)),(37,(.ptr 2 0)),(7,(.d (.int .i32)))],[(.bld 111 1),(.acc 5 (.int .u8) true),.siter],1,75,[]⟩,u4 (z64 n)⟩),(2,⟨⟨[(0,(.bp 0)),(37,(.ptr 2 0)),(7,(.d (.int .i32)))],[(.bld 111 1),(.acc 5 (.int .u8) true),.siter],1,75,[]⟩,u4 (z6g n)⟩),(3,⟨⟨[(60,dI),(0,(.bp 0)),(58,dL 4),(59,dI)],[(.bld 111 1),(.acc 5 (.int .u8) true)],1,75,[]⟩,u4 (zg7 n)⟩),(4,⟨⟨[(0,(.bp 0)),(58,dL 4),(59,dI),(60,dI),(9,(.ptr 2 0))],[(.bld 111 1),(.acc 5 (.int .u8) true),(.st 4)],1,75,[]⟩,u5 (zg1 n)⟩)]) (anb [(28,0),(59,1),(60,2),(73,3),(90,4)] f224)
noncomputable def ynm:List (FI dat):=[zi8]++[yzw,z5o,zaz,zo7]
def ylq:(zi8).Good prog dat (tb ynm):=FI.z2i (hD:=kzd _) func224 ntmps224 call224 (by kernel_rfl) (Qac (by kernel_rfl)) (by kernel_rfl) (λn=>by kernel_rfl) (λx=>by kernel_rfl) (λ_=>rfl) ⟨λ_=>rfl,λ_=>rfl,λ_=>rfl,λ_=>rfl,λ_=>rfl,trivial⟩ (λ_ _=>tr (zbl.eq_2 ..)) (λn=>⟨λ_=>tr (z6y.eq_2 ..),λ_=>tr (z64.eq_2 ..),λ_=>tr (z6g.eq_2 ..),λ_=>tr (zg7.eq_2 ..),λ_=>tr (zg1.eq_2 ..),trivial⟩) (λx=>.inr (by kernel_rfl))
def yle:OkL prog [zi8]:=z98 (kzd _) (bs:=[yzw,z5o,zaz,zo7]) ⟨z8i,zf7,znc,y4z,trivial⟩ ⟨ylq,trivial⟩
def yk5:FOk prog zi8:=yle.1
def z06:Nat->(List Int)->Ot (Int×(List Int))|0,_=>none|n+1,a=>some ((a.length:Int),a)
def zy4:LSh:=⟨[(2,dI)],[(.bld 111 1),(.acc 5 (.int .u8) true)],1,8,[]⟩
noncomputable def zbu:FI dat:=FI.of dat 65 8 1 [(.bp 0)] [(.bld 111 1),(.acc 5 (.int .u8) true)] [dI] [(.bld 111 1),(.acc 5 (.int .u8) true)] false zy4 (R:=Int×(List Int)) (λx=>(x.1,x.2.1)) (λr=>(r.1,r.2,())) (λn=>u1 (z06 n)) (λn=>[]) (anb [] f65)
def zeq:FOk prog zbu:=okF (bs:=[]) trivial func65 ntmps65 call65 (λn=>λ_=>tr (z06.eq_2 _ n)) (λn=>trivial)
def zfc:Nat->kz1->Ot (B8×Int)|0,_=>none|n+1,a=>(z9f n a.re).bind λd=>pIf (d != 0) (some ([],d)) ((zbl n a.re []).bind λg=>(z06 n g).bind λb=>pIf (decide (b.1>4000)) (some ([],4)) ((z1a n b.2).bind λe=>some (e,0)))
def yrl:LSh:=⟨[(2,dS),(3,dI)],[],0,16,[]⟩
noncomputable def zx1:FI dat:=FI.of dat 181 16 0 [dT 4] [] [dS,dI] [] true yrl (R:=B8×Int) (λx=>(x.1,x.2.1)) (λr=>(r.1,r.2,())) (λn=>u1 (zfc n)) (λn=>[]) (anb [] f181)
def yob:FOk prog zx1:=okF (bs:=[zi8,zbu,z4k,zia]) ⟨yk5,zeq,z7k,zq2,trivial⟩ func181 ntmps181 call181 (λ_ _=>tr (zfc.eq_2 ..)) (λn=>trivial)
mutual
def zcn:Nat->Int->Ot B8|0,_=>none|n+1,a=>pIf (decide (a<3)) (zaq n a true) (zaq n a (decide (a>10)))
def zaq:Nat->Int->Bool->Ot B8|0,_,_=>none|n+1,a,b=>pIf b (some []) ((zzf n [43,32,45,32,42,32,47,32,60,32,61,32,97,110,100,32,111,114]).bind λd=>(ix d (IntKind.u8.wrap (a-3))).bind λe=>some e)
end
def yw8:LSh:=⟨[(2,dS)],[],0,14,[]⟩
noncomputable def zmi:FI dat:=FI.of dat 182 14 0 [dU] [] [dS] [] true yw8 (R:=B8) Prod.fst (·,()) (λn=>u1 (zcn n)) (λn=>[(0,⟨⟨[(0,dU),(8,dB)],[],0,14,[]⟩,u2 (zaq n)⟩)]) (anb [(5,0)] f182)
def y8v:FOk prog zmi:=okF (bs:=[z5i]) ⟨zcl,trivial⟩ func182 ntmps182 call182 (λ_ _=>tr (zcn.eq_2 ..)) (λn=>⟨λ_=>tr (zaq.eq_2 ..),trivial⟩)
mutual
def zcz:Nat->zz2->(List Int)->Ot (List Int)|0,_,_=>none|n+1,a,b=>pIf (a.op==1) ((zfc n a.value.re).bind λd=>pIf (d.2==0) ((kz4 n d.1 b).bind λj=>some j.2) (some b)) (pIf (a.op==2) ((kz4 n a.name b).bind λi=>some i.2) ((zcn n a.op).bind λh=>pIf (!(h==[])) ((zcn n a.op).bind λg=>(cat [32] g).bind λo=>(cat o [32]).bind λm=>z5j n m [41] [40] b a.re) (pIf (a.op != 18) ((zzf n [110,111,116,32,105,102,32,109,105,110,32,109,97,120,32,102,108,111,111,114,32,108,101,110,32,97,116]).bind λe=>(ix e (IntKind.u8.wrap (a.op-11))).bind λl=>(cat l [40]).bind λk=>z5j n [44,32] [41] k b a.re) (z5j n [44,32] [93] [91] b a.re))))
def z5j:Nat->B8->B8->B8->(List Int)->zz2->Ot (List Int)|0,_,_,_,_,_=>none|n+1,a,b,c,d,e=>(kz4 n c d).bind λg=>z84 n 0 a e.args b (e.args.length:Int) g.2
def z84:Nat->Int->B8->kz9->B8->Int->(List Int)->Ot (List Int)|0,_,_,_,_,_,_=>none|n+1,a,b,c,d,e,f=>pIf (decide (a<e)) ((ix c a).bind λg=>pIf (decide (a>0)) ((kz4 n b f).bind λi=>z8y n b c d e a i.2 g.re) (z8y n b c d e a f g.re)) ((kz4 n d f).bind λh=>some h.2)
def z8y:Nat->B8->kz9->B8->Int->Int->(List Int)->zz2->Ot (List Int)|0,_,_,_,_,_,_,_=>none|n+1,a,b,c,d,e,f,g=>(zcz n g.re f).bind λh=>z84 n (IntKind.i64.wrap (e+1)) a b c d h
end
def ysj:LSh:=⟨[],[(.bld 111 1),(.acc 5 (.int .u8) true)],1,78,[]⟩
noncomputable def zk5:FI dat:=FI.of dat 124 78 1 [(.bp 0),dT 5] [(.bld 111 1),(.acc 5 (.int .u8) true)] [] [(.bld 111 1),(.acc 5 (.int .u8) true)] false ysj (R:=List Int) Prod.fst (·,()) (λn=>u2 (zcz n)) (λn=>[(0,⟨⟨[(0,(.bp 0)),(5,dS),(6,dS),(3,(.ptr 2 0)),(4,dS)],[(.bld 111 1),(.acc 5 (.int .u8) true),(.st 5)],1,78,[]⟩,u5 (z5j n)⟩),(1,⟨⟨[(61,dI),(0,(.bp 0)),(5,dS),(59,dL 5),(6,dS),(60,dI)],[(.bld 111 1),(.acc 5 (.int .u8) true)],1,78,[]⟩,u6 (z84 n)⟩),(2,⟨⟨[(0,(.bp 0)),(5,dS),(59,dL 5),(6,dS),(60,dI),(61,dI),(10,(.ptr 2 0))],[(.bld 111 1),(.acc 5 (.int .u8) true),(.st 5)],1,78,[]⟩,u7 (z8y n)⟩)]) (anb [(33,0),(39,1),(56,2)] f124)
noncomputable def yq2:List (FI dat):=[zk5]++[yzw,zx1,zmi,z5i]
def ypw:(zk5).Good prog dat (tb yq2):=FI.z2i (hD:=kzd _) func124 ntmps124 call124 (by kernel_rfl) (Qac (by kernel_rfl)) (by kernel_rfl) (λn=>by kernel_rfl) (λx=>by kernel_rfl) (λ_=>rfl) ⟨λ_=>rfl,λ_=>rfl,λ_=>rfl,trivial⟩ (λ_ _=>tr (zcz.eq_2 ..)) (λn=>⟨λ_=>tr (z5j.eq_2 ..),λ_=>tr (z84.eq_2 ..),λ_=>tr (z8y.eq_2 ..),trivial⟩) (λx=>.inr (by kernel_rfl))
def yqs:OkL prog [zk5]:=z98 (kzd _) (bs:=[yzw,zx1,zmi,z5i]) ⟨z8i,yob,y8v,zcl,trivial⟩ ⟨ypw,trivial⟩
def yln:FOk prog zk5:=yqs.1
def zha:Nat->zz2->Ot (B8×Int)|0,_=>none|n+1,a=>(z0y n a.re).bind λd=>pIf (d != 0) (some ([],d)) ((zcz n a.re []).bind λg=>(z06 n g).bind λb=>pIf (decide (b.1>4000)) (some ([],4)) ((z1a n b.2).bind λe=>some (e,0)))
def yu5:LSh:=⟨[(2,dS),(3,dI)],[],0,16,[]⟩
noncomputable def yd5:FI dat:=FI.of dat 62 16 0 [dT 5] [] [dS,dI] [] true yu5 (R:=B8×Int) (λx=>(x.1,x.2.1)) (λr=>(r.1,r.2,())) (λn=>u1 (zha n)) (λn=>[]) (anb [] f62)
def ytr:FOk prog yd5:=okF (bs:=[zk5,zbu,z4k,zh3]) ⟨yln,zeq,z7k,zi6,trivial⟩ func62 ntmps62 call62 (λ_ _=>tr (zha.eq_2 ..)) (λn=>trivial)
mutual
def z1k:Nat->zz2->Bool->Ot (B8×Bool)|0,_,_=>none|n+1,a,b=>(zha n a.re).bind λd=>pIf b (z7r n d.1 true) (z7r n d.1 (d.2 != 0))
def z7r:Nat->B8->Bool->Ot (B8×Bool)|0,_,_=>none|n+1,a,b=>some (a,b)
end
def yia:LSh:=⟨[(3,dS)],[(.cells [dB])],1,17,[]⟩
noncomputable def zq7:FI dat:=FI.of dat 61 17 1 [dT 5,(.ptr 0 0)] [(.cells [dB])] [dS] [(.cells [dB])] false yia (R:=B8×Bool) (λx=>(x.1,x.2.1)) (λr=>(r.1,r.2,())) (λn=>u2 (z1k n)) (λn=>[(0,⟨⟨[(4,dS)],[(.cells [dB])],1,17,[]⟩,u2 (z7r n)⟩)]) (anb [(6,0)] f61)
def zxq:FOk prog zq7:=okF (bs:=[yd5]) ⟨ytr,trivial⟩ func61 ntmps61 call61 (λ_ _=>tr (z1k.eq_2 ..)) (λn=>⟨λ_=>tr (z7r.eq_2 _ _ n),trivial⟩)
def z03:Nat->(List B8)->(List Int)->Ot (List Int)|0,_,_=>none|n+1,a,b=>(zc7 n a [32]).bind λe=>(cat e [10]).bind λg=>(kz4 n g b).bind λd=>some d.2
def yjp:LSh:=⟨[],[(.bld 111 1),(.acc 5 (.int .u8) true)],1,7,[]⟩
noncomputable def zp8:FI dat:=FI.of dat 58 7 1 [dA,(.bp 0)] [(.bld 111 1),(.acc 5 (.int .u8) true)] [] [(.bld 111 1),(.acc 5 (.int .u8) true)] false yjp (R:=List Int) Prod.fst (·,()) (λn=>u2 (z03 n)) (λn=>[]) (anb [] f58)
def zxi:FOk prog zp8:=okF (bs:=[yzw,y0z]) ⟨z8i,yf2,trivial⟩ func58 ntmps58 call58 (λ_ _=>tr (z03.eq_2 ..)) (λn=>trivial)
mutual
def z5e:Nat->zz4->Bool->(List Int)->Ot (Bool×(List Int))|0,_,_,_=>none|n+1,a,b,c=>(zzf n [99,97,108,108,32,109,111,118,101,32,115,105,122,101,32,116,117,114,110,32,115,112,108,105,116,32,108,101,97,102]).bind λq=>(ix q (IntKind.u8.wrap (a.kind-1))).bind λe=>(sub [120,121,122] a.axis (IntKind.u8.wrap (a.axis+1))).bind λk=>pIf (a.kind==6) ((ix a.args 0).bind λr=>(z1k n r.re b).bind λj=>(z03 n [e,j.1] c).bind λp=>some (j.2,p)) (pIf (a.kind==5) ((z03 n [e,k] c).bind λo=>z0s n 0 a.items (a.items.length:Int) b o) (pIf (a.kind==4) ((z4h n a.args).bind λm=>(z1k n m.re b).bind λi=>(z03 n [e,k,a.name,i.1] c).bind λl=>some (i.2,l)) ((z4h n a.args).bind λh=>(z1k n h.re b).bind λd=>(z03 n [e,a.name,d.1] c).bind λg=>some (d.2,g))))
def z0s:Nat->Int->zm8->Int->Bool->(List Int)->Ot (Bool×(List Int))|0,_,_,_,_,_=>none|n+1,a,b,c,d,e=>pIf (decide (a<c)) ((ix b a).bind λg=>(zzf n [102,105,120,101,100,32,115,104,97,114,101,32,114,101,115,116]).bind λk=>(ix k (IntKind.u8.wrap (g.kind-1))).bind λl=>(z4h n g.args).bind λj=>(z1k n j.re d).bind λh=>(z03 n [l,g.name,h.1] e).bind λi=>z0s n (IntKind.i64.wrap (a+1)) b c h.2 i) (some (d,e))
end
def y3z:LSh:=⟨[],[(.bld 111 2),(.cells [dB]),(.acc 5 (.int .u8) true)],2,92,[]⟩
noncomputable def znr:FI dat:=FI.of dat 64 92 2 [(.fn 58 [] [(.bp 0)]),(.fn 61 [] [(.ptr 1 0)]),dT 8] [(.bld 111 2),(.cells [dB]),(.acc 5 (.int .u8) true)] [] [(.bld 111 2),(.cells [dB]),(.acc 5 (.int .u8) true)] false y3z (R:=Bool×(List Int)) (λx=>(x.1,x.2.1)) (λr=>(r.1,r.2,())) (λn=>u3 (z5e n)) (λn=>[(0,⟨⟨[(57,dI),(1,(.fn 61 [] [(.ptr 1 0)])),(0,(.fn 58 [] [(.bp 0)])),(55,dL 7),(56,dI)],[(.bld 111 2),(.cells [dB]),(.acc 5 (.int .u8) true)],2,92,[]⟩,u5 (z0s n)⟩)]) (anb [(21,0)] f64)
def y1d:FOk prog znr:=okF (bs:=[zq7,zp8,z5i,zx3]) ⟨zxq,zxi,zcl,y53,trivial⟩ func64 ntmps64 call64 (λ_ _=>tr (z5e.eq_2 ..)) (λn=>⟨λ_=>tr (z0s.eq_2 ..),trivial⟩)
mutual
noncomputable def zb3:Nat->yz2->Ot (B8×Int)
 |0,_=>none
 |n+1,a=>
  (z9b n a).bind λb=>
  pIf (b != 0)
   (some ([],b))
   (z8b n 0 a.attrs (a.attrs.length:Int) false a [])
noncomputable def z8b:Nat->Int->z2f->Int->Bool->yz2->(List Int)->Ot (B8×Int)
 |0,_,_,_,_,_,_=>none
 |n+1,a,b,c,d,e,f=>
  pIf (decide (a<c))
   ((ix b a).bind λh=>
   (z1k n h.value.re d).bind λg=>
   (z03 n [[97,116,116,114],h.name,g.1] f).bind λi=>
   z8b n (IntKind.i64.wrap (a+1)) b c g.2 e i)
   (z5f n 0 e.rules (e.rules.length:Int) d f)
noncomputable def z5f:Nat->Int->zzl->Int->Bool->(List Int)->Ot (B8×Int)
 |0,_,_,_,_,_=>none
 |n+1,a,b,c,d,e=>
  pIf (decide (a<c))
   ((ix b a).bind λg=>
   (ext [[114,117,108,101],g.name] g.params).bind λj=>
   (z03 n j e).bind λi=>
   z8q n 0 g.cases b c a (g.cases.length:Int) d i)
   (pIf d
     (z8p n true e)
     ((z06 n e).bind λh=>
     z8p n (decide (h.1>20000)) h.2))
noncomputable def z8q:Nat->Int->z4m->zzl->Int->Int->Int->Bool->(List Int)->Ot (B8×Int)
 |0,_,_,_,_,_,_,_,_=>none
 |n+1,a,b,c,d,e,f,g,h=>
  pIf (decide (a<f))
   ((ix b a).bind λj=>
   (zc3 n j.weight).bind λl=>
   (z1k n j.when_.re g).bind λi=>
   (z03 n [[99,97,115,101],l,i.1] h).bind λk=>
   z86 n 0 j.do_ b c d e f a (j.do_.length:Int) i.2 k)
   (z5f n (IntKind.i64.wrap (e+1)) c d g h)
noncomputable def z86:Nat->Int->z9z->z4m->zzl->Int->Int->Int->Int->Int->Bool->(List Int)->Ot (B8×Int)
 |0,_,_,_,_,_,_,_,_,_,_,_=>none
 |n+1,a,b,c,d,e,f,g,h,i,j,k=>
  pIf (decide (a<i))
   ((ix b a).bind λm=>
   (z5e n m j k).bind λl=>
   z86 n (IntKind.i64.wrap (a+1)) b c d e f g h i l.1 l.2)
   (z8q n (IntKind.i64.wrap (h+1)) c d e f g j k)
noncomputable def z8p:Nat->Bool->(List Int)->Ot (B8×Int)
 |0,_,_=>none
 |n+1,a,b=>
  pIf a
   (some ([],4))
   ((z1a n b).bind λd=>
   some (d,0))
end
def ysa:LSh:=⟨[(2,dS),(3,dI)],[],0,93,[]⟩
noncomputable def zkv:FI dat:=FI.of dat 25 93 0 [dT 11] [] [dS,dI] [] true ysa (R:=B8×Int) (λx=>(x.1,x.2.1)) (λr=>(r.1,r.2,())) (λn=>u1 (zb3 n)) (λn=>[(0,⟨⟨[(27,dI),(8,(.fn 61 [] [(.ptr 0 0)])),(6,(.fn 58 [] [(.bp 1)])),(25,dL 6),(5,(.bp 1)),(7,(.ptr 0 0)),(1,(.ptr 2 0)),(26,dI)],[(.cells [dB]),(.bld 111 3),(.st 11),(.acc 5 (.int .u8) true)],0,93,[]⟩,u6 (z8b n)⟩),(1,⟨⟨[(8,(.fn 61 [] [(.ptr 0 0)])),(6,(.fn 58 [] [(.bp 1)])),(44,dI),(42,dL 10),(5,(.bp 1)),(7,(.ptr 0 0)),(43,dI)],[(.cells [dB]),(.bld 111 2),(.acc 5 (.int .u8) true)],0,93,[]⟩,u5 (z5f n)⟩),(2,⟨⟨[(8,(.fn 61 [] [(.ptr 0 0)])),(6,(.fn 58 [] [(.bp 1)])),(59,dI),(57,dL 9),(42,dL 10),(5,(.bp 1)),(7,(.ptr 0 0)),(43,dI),(44,dI),(58,dI)],[(.cells [dB]),(.bld 111 2),(.acc 5 (.int .u8) true)],0,93,[]⟩,u8 (z8q n)⟩),(3,⟨⟨[(76,dI),(8,(.fn 61 [] [(.ptr 0 0)])),(6,(.fn 58 [] [(.bp 1)])),(74,dL 8),(57,dL 9),(42,dL 10),(5,(.bp 1)),(7,(.ptr 0 0)),(43,dI),(44,dI),(58,dI),(59,dI),(75,dI)],[(.cells [dB]),(.bld 111 2),(.acc 5 (.int .u8) true)],0,93,[]⟩,u11 (z86 n)⟩),(4,⟨⟨[(5,(.bp 0)),(91,dB)],[(.bld 111 1),(.acc 5 (.int .u8) true)],0,93,[]⟩,u2 (z8p n)⟩)]) (anb [(24,0),(41,1),(57,2),(73,3),(91,4)] f25)
def zsu:FOk prog zkv:=okF (bs:=[zq7,zp8,zbu,z4k,znr,zm1,y1r]) ⟨zxq,zxi,zeq,z7k,y1d,zp0,yef,trivial⟩ func25 ntmps25 call25 (λn=>λ_=>tr (zb3.eq_2 _ n)) (λn=>⟨λ_=>tr (z8b.eq_2 _ _ _ _ _ _ n),λ_=>tr (z5f.eq_2 _ _ _ _ _ n),λ_=>tr (z8q.eq_2 _ _ _ _ _ _ _ _ n),λ_=>tr (z86.eq_2 _ _ _ _ _ _ _ _ _ _ _ n),λ_=>tr (z8p.eq_2 _ _ n),trivial⟩)
def zzp:Nat->B8->B8->Ot B8|0,_,_=>none|n+1,a,b=>(yzk n a b).bind λd=>pIf d ((sub a 0 (IntKind.i64.wrap ((a.length:Int)-(b.length:Int)))).bind λe=>some e) (some a)
def zje:LSh:=⟨[(4,dS)],[],0,16,[]⟩
noncomputable def zbv:FI dat:=FI.of dat 105 16 0 [dS,dS] [] [dS] [] true zje (R:=B8) Prod.fst (·,()) (λn=>u2 (zzp n)) (λn=>[]) (anb [] f105)
def zik:FOk prog zbv:=okF (bs:=[z67]) ⟨zby,trivial⟩ func105 ntmps105 call105 (λ_ _=>tr (zzp.eq_2 ..)) (λn=>trivial)
def z4e:Nat->B8->B8->Ot B8|0,_,_=>none|n+1,a,b=>(zzp n a b).bind λd=>some d
def y08:LSh:=⟨[(4,dS)],[],0,8,[]⟩
noncomputable def zgo:FI dat:=FI.of dat 44 8 0 [dS,dS] [] [dS] [] true y08 (R:=B8) Prod.fst (·,()) (λn=>u2 (z4e n)) (λn=>[]) (anb [] f44)
def zy1:FOk prog zgo:=okF (bs:=[zbv]) ⟨zik,trivial⟩ func44 ntmps44 call44 (λ_ _=>tr (z4e.eq_2 ..)) (λn=>trivial)
def zzu:Nat->B8->B8->Ot (B8×B8×Bool)|0,_,_=>none|n+1,a,b=>(kzq n a b).bind λd=>pIf (decide (d>=0)) ((sub a 0 d).bind λg=>(sub a (IntKind.i64.wrap (d+(b.length:Int))) (a.length:Int)).bind λe=>some (g,e,true)) (some (a,[],false))
def zp5:LSh:=⟨[(4,dS),(5,dS),(6,dB)],[],0,23,[]⟩
noncomputable def zgg:FI dat:=FI.of dat 155 23 0 [dS,dS] [] [dS,dS,dB] [] true zp5 (R:=B8×B8×Bool) (λx=>(x.1,x.2.1,x.2.2.1)) (λr=>(r.1,r.2.1,r.2.2,())) (λn=>u2 (zzu n)) (λn=>[]) (anb [] f155)
def znx:FOk prog zgg:=okF (bs:=[zaj]) ⟨zei,trivial⟩ func155 ntmps155 call155 (λ_ _=>tr (zzu.eq_2 ..)) (λn=>trivial)
def z1l:Nat->B8->B8->Ot (B8×B8×Bool)|0,_,_=>none|n+1,a,b=>(zzu n a b).bind λd=>some (d.1,d.2.1,d.2.2)
def ynj:LSh:=⟨[(4,dS),(5,dS),(6,dB)],[],0,13,[]⟩
noncomputable def zfg:FI dat:=FI.of dat 100 13 0 [dS,dS] [] [dS,dS,dB] [] true ynj (R:=B8×B8×Bool) (λx=>(x.1,x.2.1,x.2.2.1)) (λr=>(r.1,r.2.1,r.2.2,())) (λn=>u2 (z1l n)) (λn=>[]) (anb [] f100)
def zju:FOk prog zfg:=okF (bs:=[zgg]) ⟨znx,trivial⟩ func100 ntmps100 call100 (λ_ _=>tr (z1l.eq_2 ..)) (λn=>trivial)
def z4n:Nat->Int->Ot (Res (Int×Unit) Unit)|0,_=>none|n+1,a=>pIf (a != 0) (some (Res.pan (a,()))) (some (Res.ok ()))
def yy0:LSh:=⟨[],[],0,6,[]⟩
noncomputable def z9j:FI dat:=FI.ofP dat 244 6 0 [dI] [] [] [] (.iface 31 dI) [] [] yy0 (R:=Unit) (λx=>()) (λ_=>()) (λn=>u1 (z4n n)) (λn=>[]) (anb [] f244)
noncomputable def yup:List (FI dat):=[]
def yx0:(z9j).Good prog dat (tb yup):=FI.y1u (hD:=kzd _) func244 ntmps244 call244 (by kernel_rfl) (Qac (by kernel_rfl)) (by kernel_rfl) (λn=>by kernel_rfl) trivial (λx=>by kernel_rfl) (λ_=>rfl) trivial (λn=>λ_=>tr (z4n.eq_2 _ n)) (λn=>trivial) (λx=>by kernel_rfl)
def yuf:OkL prog [z9j]:=zth (kzd _) (bs:=[]) trivial yx0
def zo0:FOk prog z9j:=yuf.1
def zzk:Nat->B8->B8->Ot Bool|0,_,_=>none|n+1,a,b=>pIf (decide ((a.length:Int)>=(b.length:Int))) ((sub a 0 (b.length:Int)).bind λd=>some (d==b)) (some false)
def zjr:LSh:=⟨[(4,dB)],[],0,18,[]⟩
noncomputable def z68:FI dat:=FI.of dat 292 18 0 [dS,dS] [] [dB] [] true zjr (R:=Bool) Prod.fst (·,()) (λn=>u2 (zzk n)) (λn=>[]) (anb [] f292)
def zbx:FOk prog z68:=okF (bs:=[]) trivial func292 ntmps292 call292 (λn=>λ_=>tr (zzk.eq_2 _ _ n)) (λn=>trivial)
def kzp:Nat->B8->B8->Ot (B8×Bool)|0,_,_=>none|n+1,a,b=>(zzk n a b).bind λd=>pIf (!d) (some (a,false)) ((sub a (b.length:Int) (a.length:Int)).bind λe=>some (e,true))
def zk9:LSh:=⟨[(4,dS),(5,dB)],[],0,15,[]⟩
noncomputable def zck:FI dat:=FI.of dat 291 15 0 [dS,dS] [] [dS,dB] [] true zk9 (R:=B8×Bool) (λx=>(x.1,x.2.1)) (λr=>(r.1,r.2,())) (λn=>u2 (kzp n)) (λn=>[]) (anb [] f291)
def zjj:FOk prog zck:=okF (bs:=[z68]) ⟨zbx,trivial⟩ func291 ntmps291 call291 (λ_ _=>tr (kzp.eq_2 ..)) (λn=>trivial)
def z14:Nat->B8->B8->Ot (B8×Bool)|0,_,_=>none|n+1,a,b=>(kzp n a b).bind λd=>some (d.1,d.2)
def y3r:LSh:=⟨[(4,dS),(5,dB)],[],0,11,[]⟩
noncomputable def zhp:FI dat:=FI.of dat 286 11 0 [dS,dS] [] [dS,dB] [] true y3r (R:=B8×Bool) (λx=>(x.1,x.2.1)) (λr=>(r.1,r.2,())) (λn=>u2 (z14 n)) (λn=>[]) (anb [] f286)
def zmd:FOk prog zhp:=okF (bs:=[zck]) ⟨zjj,trivial⟩ func286 ntmps286 call286 (λ_ _=>tr (z14.eq_2 ..)) (λn=>trivial)
def zze:Nat->B8->kz2->Ot (Bool×kz2)|0,_,_=>none|n+1,a,b=>(z14 n b.s a).bind λd=>some (d.2,(kz2.mk d.1))
def y6c:LSh:=⟨[(4,dB)],[(.st 15)],1,21,[]⟩
noncomputable def zbo:FI dat:=FI.of dat 269 21 1 [(.ptr 0 0),dS] [(.st 15)] [dB] [(.st 15)] false y6c (R:=Bool×kz2) (λx=>(x.1,x.2.1)) (λr=>(r.1,r.2,())) (λn=>u2 (zze n)) (λn=>[]) (anb [] f269)
def zns:FOk prog zbo:=okF (bs:=[zhp]) ⟨zmd,trivial⟩ func269 ntmps269 call269 (λ_ _=>tr (zze.eq_2 ..)) (λn=>trivial)
def yzx:Nat->B8->kz2->Ot (Res (Int×Unit) kz2)|0,_,_=>none|n+1,a,b=>(zze n a b).bind λd=>pIf (!d.1) ((z4n n 12).bind λe=>zp2 e (λh=>some (Res.ok d.2)) (λg=>some (Res.pan (g.1,())))) (some (Res.ok d.2))
def y74:LSh:=⟨[],[(.st 15)],1,9,[]⟩
noncomputable def zbj:FI dat:=FI.ofP dat 270 9 1 [(.ptr 0 0),dS] [(.st 15)] [] [(.st 15)] (.iface 31 dI) [(.cells [.any])] [] y74 (R:=kz2) Prod.fst (·,()) (λn=>u2 (yzx n)) (λn=>[]) (anb [] f270)
noncomputable def y7g:List (FI dat):=[zbo,z9j]
def y6q:(zbj).Good prog dat (tb y7g):=FI.y1u (hD:=kzd _) func270 ntmps270 call270 (by kernel_rfl) (Qac (by kernel_rfl)) (by kernel_rfl) (λn=>by kernel_rfl) trivial (λx=>by kernel_rfl) (λ_=>rfl) trivial (λ_ _=>tr (yzx.eq_2 ..)) (λn=>trivial) (λx=>by kernel_rfl)
def y76:OkL prog [zbj]:=zth (kzd _) (bs:=[zbo,z9j]) ⟨zns,zo0,trivial⟩ y6q
def y48:FOk prog zbj:=y76.1
def z2z:Nat->B8->B8->Ot Bool|0,_,_=>none|n+1,a,b=>(zzk n a b).bind λd=>some d
def y3y:LSh:=⟨[(4,dB)],[],0,8,[]⟩
noncomputable def zdk:FI dat:=FI.of dat 287 8 0 [dS,dS] [] [dB] [] true y3y (R:=Bool) Prod.fst (·,()) (λn=>u2 (z2z n)) (λn=>[]) (anb [] f287)
def zme:FOk prog zdk:=okF (bs:=[z68]) ⟨zbx,trivial⟩ func287 ntmps287 call287 (λ_ _=>tr (z2z.eq_2 ..)) (λn=>trivial)
def z2r:Nat->B8->Int->Ot Int|0,_,_=>none|n+1,a,b=>(z5q n a b).bind λd=>some d
def y3t:LSh:=⟨[(4,dI)],[],0,8,[]⟩
noncomputable def zar:FI dat:=FI.of dat 99 8 0 [dS,dU] [] [dI] [] true y3t (R:=Int) Prod.fst (·,()) (λn=>u2 (z2r n)) (λn=>[]) (anb [] f99)
def zmq:FOk prog zar:=okF (bs:=[zct]) ⟨zjg,trivial⟩ func99 ntmps99 call99 (λn x=>tr (z2r.eq_2 x.1 x.2.1 n)) (λn=>trivial)
def yzf:Nat->B8->zz3->Ot (Bool×zz3)|0,_,_=>none|n+1,a,b=>(sub b.s b.at_ (b.s.length:Int)).bind λe=>(z2z n e a).bind λd=>pIf (!d) (some (false,b)) (some (true,(zz3.mk b.s (IntKind.i64.wrap (b.at_+(a.length:Int))) b.ok)))
def y4o:LSh:=⟨[(4,dB)],[(.st 16)],1,26,[]⟩
noncomputable def zhq:FI dat:=FI.of dat 294 26 1 [(.ptr 0 0),dS] [(.st 16)] [dB] [(.st 16)] false y4o (R:=Bool×zz3) (λx=>(x.1,x.2.1)) (λr=>(r.1,r.2,())) (λn=>u2 (yzf n)) (λn=>[]) (anb [] f294)
def y0g:FOk prog zhq:=okF (bs:=[zdk]) ⟨zme,trivial⟩ func294 ntmps294 call294 (λ_ _=>tr (yzf.eq_2 ..)) (λn=>trivial)
mutual
def z0a:Nat->zz3->Ot (B8×zz3)|0,_=>none|n+1,a=>kza n a []
def kza:Nat->zz3->(List Int)->Ot (B8×zz3)|0,_,_=>none|n+1,a,b=>pIf (decide (a.at_<(a.s.length:Int))) ((ix a.s a.at_).bind λd=>pIf ((d.toNat:Int)==34) ((z1a n b).bind λe=>some (e,(zz3.mk a.s (IntKind.i64.wrap (a.at_+1)) a.ok))) (pIf ((d.toNat:Int)==92) (pIf ((IntKind.i64.wrap (a.at_+1))==(a.s.length:Int)) (yzs n true (zz3.mk a.s (IntKind.i64.wrap (a.at_+1)) a.ok) b) ((ix a.s (IntKind.i64.wrap (a.at_+1))).bind λh=>pIf ((h.toNat:Int) != 34) ((ix a.s (IntKind.i64.wrap (a.at_+1))).bind λg=>yzs n ((g.toNat:Int) != 92) (zz3.mk a.s (IntKind.i64.wrap (a.at_+1)) a.ok) b) (yzs n false (zz3.mk a.s (IntKind.i64.wrap (a.at_+1)) a.ok) b))) (kzy n (d.toNat:Int) (zz3.mk a.s (IntKind.i64.wrap (a.at_+1)) a.ok) b))) (z18 n a)
def yzs:Nat->Bool->zz3->(List Int)->Ot (B8×zz3)|0,_,_,_=>none|n+1,a,b,c=>pIf a (z18 n b) ((ix b.s b.at_).bind λd=>kzy n (d.toNat:Int) (zz3.mk b.s (IntKind.i64.wrap (b.at_+1)) b.ok) c)
def kzy:Nat->Int->zz3->(List Int)->Ot (B8×zz3)|0,_,_,_=>none|n+1,a,b,c=>(yzb n a c).bind λd=>kza n b d
def z18:Nat->zz3->Ot (B8×zz3)|0,_=>none|n+1,a=>some ([],(zz3.mk a.s a.at_ false))
end
def zy3:LSh:=⟨[(2,dS)],[(.st 16)],1,91,[]⟩
noncomputable def zfq:FI dat:=FI.of dat 295 91 1 [(.ptr 0 0)] [(.st 16)] [dS] [(.st 16)] false zy3 (R:=B8×zz3) (λx=>(x.1,x.2.1)) (λr=>(r.1,r.2,())) (λn=>u1 (z0a n)) (λn=>[(0,⟨⟨[(3,(.bp 1)),(0,(.ptr 0 0))],[(.st 16),(.bld 111 2),(.acc 5 (.int .u8) true)],1,91,[]⟩,u2 (kza n)⟩),(1,⟨⟨[(0,(.ptr 0 0)),(3,(.bp 1)),(69,dB)],[(.st 16),(.bld 111 2),(.acc 5 (.int .u8) true)],1,91,[]⟩,u3 (yzs n)⟩),(2,⟨⟨[(3,(.bp 1)),(0,(.ptr 0 0)),(4,dU)],[(.st 16),(.bld 111 2),(.acc 5 (.int .u8) true)],1,91,[]⟩,u3 (kzy n)⟩),(3,⟨⟨[(0,(.ptr 0 0))],[(.st 16)],1,91,[]⟩,u1 (z18 n)⟩)]) (anb [(6,0),(33,1),(40,2),(41,3)] f295)
def zx6:FOk prog zfq:=okF (bs:=[z4k,z5o]) ⟨z7k,zf7,trivial⟩ func295 ntmps295 call295 (λ_ _=>tr (z0a.eq_2 ..)) (λn=>⟨λ_=>tr (kza.eq_2 ..),λ_=>tr (yzs.eq_2 ..),λ_=>tr (kzy.eq_2 ..),λ_=>tr (z18.eq_2 _ n),trivial⟩)
mutual
def za8:Nat->B8->Ot (Int×Bool)|0,_=>none|n+1,a=>pIf ((a.length:Int)==0) (z1c n a true) (pIf (decide ((a.length:Int)>10)) (z1c n a true) ((ix a 0).bind λb=>pIf ((b.toNat:Int)==48) (z1c n a (decide ((a.length:Int)>1))) (z1c n a false)))
def z1c:Nat->B8->Bool->Ot (Int×Bool)|0,_,_=>none|n+1,a,b=>pIf b (some (0,false)) (z4v n 0 a 0)
def z4v:Nat->Int->B8->Nat->Ot (Int×Bool)|0,_,_,_=>none|n+1,a,b,c=>pIf (decide (c<b.length)) (pIf (decide (((zel b c).1:Int)<48)) (z58 n ((zel b c).1:Int) a true b (c+(zel b c).2)) (z58 n ((zel b c).1:Int) a (decide (((zel b c).1:Int)>57)) b (c+(zel b c).2))) (some (a,true))
def z58:Nat->Int->Int->Bool->B8->Nat->Ot (Int×Bool)|0,_,_,_,_,_=>none|n+1,a,b,c,d,e=>pIf c (some (0,false)) (z4v n (IntKind.i64.wrap ((IntKind.i64.wrap (10 * b))+(IntKind.i64.wrap (IntKind.i32.wrap (a-48))))) d e)
end
def yj5:LSh:=⟨[(2,dI),(3,dB)],[],0,43,[]⟩
noncomputable def y1n:FI dat:=FI.of dat 297 43 0 [dS] [] [dI,dB] [] true yj5 (R:=Int×Bool) (λx=>(x.1,x.2.1)) (λr=>(r.1,r.2,())) (λn=>u1 (za8 n)) (λn=>[(0,⟨⟨[(0,dS),(24,dB)],[],0,43,[]⟩,u2 (z1c n)⟩),(1,⟨⟨[(4,dI),(26,(.ptr 0 0))],[.siter],0,43,[]⟩,u3 (z4v n)⟩),(2,⟨⟨[(26,(.ptr 0 0)),(6,(.d (.int .i32))),(4,dI),(35,dB)],[.siter],0,43,[]⟩,u5 (z58 n)⟩)]) (anb [(5,0),(16,1),(29,2)] f297)
def yen:FOk prog y1n:=okF (bs:=[]) trivial func297 ntmps297 call297 (λ_ _=>tr (za8.eq_2 ..)) (λn=>⟨λ_=>tr (z1c.eq_2 ..),λ_=>tr (z4v.eq_2 ..),λ_=>tr (z58.eq_2 ..),trivial⟩)
mutual
def z6d:Nat->B8->Ot (Int×yz4)|0,_=>none|n+1,a=>(z14 n a [45]).bind λd=>(z1l n d.1 [47]).bind λb=>pIf (!b.2.2) (z41 n a d.2 [49] b.1 (yz4.mk 0 0)) (z41 n a d.2 b.2.1 b.1 (yz4.mk 0 0))
def z41:Nat->B8->Bool->B8->B8->yz4->Ot (Int×yz4)|0,_,_,_,_,_=>none|n+1,a,b,c,d,e=>(za8 n d).bind λh=>(za8 n c).bind λg=>pIf b (z3v n a g.2 h.2 g.1 (IntKind.i64.wrap (0-h.1)) e) (z3v n a g.2 h.2 g.1 h.1 e)
def z3v:Nat->B8->Bool->Bool->Int->Int->yz4->Ot (Int×yz4)|0,_,_,_,_,_,_=>none|n+1,a,b,c,d,e,f=>pIf (!c) (z48 n a true f (yz4.mk e d)) (pIf (!b) (z48 n a true f (yz4.mk e d)) ((z6p n (yz4.mk e d)).bind λg=>z48 n a (g != 0) f (yz4.mk e d)))
def z48:Nat->B8->Bool->yz4->yz4->Ot (Int×yz4)|0,_,_,_,_=>none|n+1,a,b,c,d=>pIf b (some (12,(yz4.mk 0 0))) ((zb6 n d).bind λe=>pIf (!(e.1==a)) (some (12,(yz4.mk 0 0))) (some (0,d)))
end
def yl6:LSh:=⟨[(2,(.ptr 0 0)),(3,dI)],[(.st 3)],0,67,[]⟩
noncomputable def zsw:FI dat:=FI.of dat 296 67 0 [dS] [] [dT 3,dI] [] true yl6 (R:=Int×yz4) (λx=>(x.1,x.2.1)) (λr=>(r.2,r.1,())) (λn=>u1 (z6d n)) (λn=>[(0,⟨⟨[(2,(.ptr 0 0)),(0,dS),(5,dB),(7,dS),(6,dS)],[(.st 3)],0,67,[]⟩,u5 (z41 n)⟩),(1,⟨⟨[(2,(.ptr 0 0)),(0,dS),(12,dB),(10,dB),(11,dI),(9,dI)],[(.st 3)],0,67,[]⟩,u6 (z3v n)⟩),(2,⟨⟨[(2,(.ptr 0 0)),(13,(.ptr 1 0)),(0,dS),(55,dB)],[(.st 3),(.st 3)],0,67,[]⟩,u4 (z48 n)⟩)]) (anb [(12,0),(22,1),(27,2)] f296)
def ygq:FOk prog zsw:=okF (bs:=[zhp,zfg,y1n,zi0,zo7]) ⟨zmd,zju,yen,zp4,y4z,trivial⟩ func296 ntmps296 call296 (λ_ _=>tr (z6d.eq_2 ..)) (λn=>⟨λ_=>tr (z41.eq_2 ..),λ_=>tr (z3v.eq_2 ..),λx=>tr (z48.eq_2 x.1 x.2.1 x.2.2.1 x.2.2.2.1 n),trivial⟩)
mutual
def z0n:Nat->Int->zz3->Ot (zz3×kz1)|0,_,_=>none|n+1,a,b=>pIf (a==0) (z1t n (zz3.mk b.s b.at_ false) 0 0 0 false [] []) ((yzf n [116,114,117,101] b).bind λi=>pIf i.1 (some (i.2,(kz1.mk 2 (yz4.mk 0 0) true [] []))) ((yzf n [102,97,108,115,101] i.2).bind λh=>pIf h.1 (some (h.2,(kz1.mk 2 (yz4.mk 0 0) false [] []))) ((yzf n [34] h.2).bind λg=>pIf g.1 ((z0a n g.2).bind λj=>some (j.2,(kz1.mk 3 (yz4.mk 0 0) false j.1 []))) ((yzf n [91,93] g.2).bind λe=>pIf e.1 (some (e.2,(kz1.mk 4 (yz4.mk 0 0) false [] []))) ((yzf n [91] e.2).bind λd=>pIf d.1 (z96 n a true d.2 4 0 0 false [] 0 0 0 false [] [] []) (z1t n d.2 0 0 0 false [] []))))))
def z96:Nat->Int->Bool->zz3->Int->Int->Int->Bool->B8->Int->Int->Int->Bool->B8->z3m->z3m->Ot (zz3×kz1)|0,_,_,_,_,_,_,_,_,_,_,_,_,_,_,_=>none|n+1,a,b,c,d,e,f,g,h,i,j,k,l,m,o,p=>pIf b (z99 n a c.ok c d e f g h i j k l m o p) (z99 n a false c d e f g h i j k l m o p)
def z99:Nat->Int->Bool->zz3->Int->Int->Int->Bool->B8->Int->Int->Int->Bool->B8->z3m->z3m->Ot (zz3×kz1)|0,_,_,_,_,_,_,_,_,_,_,_,_,_,_,_=>none|n+1,a,b,c,d,e,f,g,h,i,j,k,l,m,o,p=>pIf b ((z0n n (IntKind.i64.wrap (a-1)) c).bind λu=>(ext o [u.2.re]).bind λw=>(yzf n [44,32] u.1).bind λr=>z96 n a r.1 r.2 d e f g h i j k l m w p) ((yzf n [93] c).bind λq=>pIf q.1 (z94 n q.2 i j k l m d e f g h p o) (z94 n (zz3.mk q.2.s q.2.at_ false) i j k l m d e f g h p o))
def z94:Nat->zz3->Int->Int->Int->Bool->B8->Int->Int->Int->Bool->B8->z3m->z3m->Ot (zz3×kz1)|0,_,_,_,_,_,_,_,_,_,_,_,_,_=>none|n+1,a,b,c,d,e,f,g,h,i,j,k,l,m=>some (a,(kz1.mk g (yz4.mk h i) j k m))
def z1t:Nat->zz3->Int->Int->Int->Bool->B8->z3m->Ot (zz3×kz1)|0,_,_,_,_,_,_,_=>none|n+1,a,b,c,d,e,f,g=>z0g n a.at_ a b c d e f g
def z0g:Nat->Int->zz3->Int->Int->Int->Bool->B8->z3m->Ot (zz3×kz1)|0,_,_,_,_,_,_,_,_=>none|n+1,a,b,c,d,e,f,g,h=>pIf (decide (a<(b.s.length:Int))) ((ix b.s a).bind λj=>(z2r n [48,49,50,51,52,53,54,55,56,57,47,45] (j.toNat:Int)).bind λi=>z23 n a (decide (i>=0)) b c d e f g h) (z23 n a false b c d e f g h)
def z23:Nat->Int->Bool->zz3->Int->Int->Int->Bool->B8->z3m->Ot (zz3×kz1)|0,_,_,_,_,_,_,_,_,_=>none|n+1,a,b,c,d,e,f,g,h,i=>pIf b (z0g n (IntKind.i64.wrap (a+1)) c d e f g h i) ((sub c.s c.at_ a).bind λk=>(z6d n k).bind λj=>pIf c.ok (z1z n a (zz3.mk c.s c.at_ (j.1==0)) d e f g h j.2 i) (z1z n a (zz3.mk c.s c.at_ false) d e f g h j.2 i))
def z1z:Nat->Int->zz3->Int->Int->Int->Bool->B8->yz4->z3m->Ot (zz3×kz1)|0,_,_,_,_,_,_,_,_,_=>none|n+1,a,b,c,d,e,f,g,h,i=>some ((zz3.mk b.s a b.ok),(kz1.mk 1 h false [] []))
end
def y0h:LSh:=⟨[(4,(.ptr 1 0))],[(.st 16),(.st 4)],1,122,[]⟩
noncomputable def z9h:FI dat:=FI.of dat 293 122 1 [(.ptr 0 0),dI] [(.st 16)] [dT 4] [(.st 16),(.st 4)] false y0h (R:=zz3×kz1) (λx=>(x.1,x.2.1)) (λr=>(r.2,r.1,r.2,())) (λn=>u2 (z0n n)) (λn=>[(0,⟨⟨[(0,(.ptr 0 0)),(5,(.ptr 1 0)),(1,dI),(4,(.ptr 2 0)),(6,dB)],[(.st 16),(.cells [dU,dI,dI,dB,dS,(.own 3)]),(.cells [dU,dI,dI,dB,dS,(.own 4)]),(.acc 26 (.st 4) true),(.acc 26 (.st 4) true)],1,122,[]⟩,λx=>z96 n x.1 x.2.1 x.2.2.1 x.2.2.2.1 x.2.2.2.2.1 x.2.2.2.2.2.1 x.2.2.2.2.2.2.1 x.2.2.2.2.2.2.2.1 x.2.2.2.2.2.2.2.2.1 x.2.2.2.2.2.2.2.2.2.1 x.2.2.2.2.2.2.2.2.2.2.1 x.2.2.2.2.2.2.2.2.2.2.2.1 x.2.2.2.2.2.2.2.2.2.2.2.2.1 x.2.2.2.2.2.2.2.2.2.2.2.2.2.1 x.2.2.2.2.2.2.2.2.2.2.2.2.2.2.1⟩),(1,⟨⟨[(0,(.ptr 0 0)),(5,(.ptr 1 0)),(1,dI),(4,(.ptr 2 0)),(44,dB)],[(.st 16),(.cells [dU,dI,dI,dB,dS,(.own 3)]),(.cells [dU,dI,dI,dB,dS,(.own 4)]),(.acc 26 (.st 4) true),(.acc 26 (.st 4) true)],1,122,[]⟩,λx=>z99 n x.1 x.2.1 x.2.2.1 x.2.2.2.1 x.2.2.2.2.1 x.2.2.2.2.2.1 x.2.2.2.2.2.2.1 x.2.2.2.2.2.2.2.1 x.2.2.2.2.2.2.2.2.1 x.2.2.2.2.2.2.2.2.2.1 x.2.2.2.2.2.2.2.2.2.2.1 x.2.2.2.2.2.2.2.2.2.2.2.1 x.2.2.2.2.2.2.2.2.2.2.2.2.1 x.2.2.2.2.2.2.2.2.2.2.2.2.2.1 x.2.2.2.2.2.2.2.2.2.2.2.2.2.2.1⟩),(2,⟨⟨[(4,(.ptr 1 0)),(5,(.ptr 2 0))],[(.st 16),(.cells [dU,dI,dI,dB,dS,(.own 3)]),(.cells [dU,dI,dI,dB,dS,(.own 4)]),(.acc 26 (.st 4) true),(.acc 26 (.st 4) true)],1,122,[]⟩,λx=>z94 n x.1 x.2.1 x.2.2.1 x.2.2.2.1 x.2.2.2.2.1 x.2.2.2.2.2.1 x.2.2.2.2.2.2.1 x.2.2.2.2.2.2.2.1 x.2.2.2.2.2.2.2.2.1 x.2.2.2.2.2.2.2.2.2.1 x.2.2.2.2.2.2.2.2.2.2.1 x.2.2.2.2.2.2.2.2.2.2.2.1 x.2.2.2.2.2.2.2.2.2.2.2.2.1⟩),(3,⟨⟨[(4,(.ptr 1 0)),(0,(.ptr 0 0))],[(.st 16),(.cells [dU,dI,dI,dB,dS,(.own 2)]),(.acc 26 (.st 4) true)],1,122,[]⟩,u7 (z1t n)⟩),(4,⟨⟨[(7,dI),(4,(.ptr 1 0)),(0,(.ptr 0 0))],[(.st 16),(.cells [dU,dI,dI,dB,dS,(.own 2)]),(.acc 26 (.st 4) true)],1,122,[]⟩,u8 (z0g n)⟩),(5,⟨⟨[(4,(.ptr 1 0)),(0,(.ptr 0 0)),(7,dI),(88,dB)],[(.st 16),(.cells [dU,dI,dI,dB,dS,(.own 2)]),(.acc 26 (.st 4) true)],1,122,[]⟩,u9 (z23 n)⟩),(6,⟨⟨[(4,(.ptr 1 0)),(8,(.ptr 2 0)),(7,dI),(0,(.ptr 0 0))],[(.st 16),(.cells [dU,dI,dI,dB,dS,(.own 3)]),(.st 3),(.acc 26 (.st 4) true)],1,122,[]⟩,u9 (z1z n)⟩)]) (anb [(41,0),(45,1),(54,2),(58,3),(62,4),(66,5),(75,6)] f293)
noncomputable def y0u:List (FI dat):=[z9h]++[zhq,zfq,zar,zsw]
def y0w:(z9h).Good prog dat (tb y0u):=FI.z2i (hD:=kzd _) func293 ntmps293 call293 (by kernel_rfl) (Qac (by kernel_rfl)) (by kernel_rfl) (λn=>by kernel_rfl) (λx=>by kernel_rfl) (λ_=>rfl) ⟨λ_=>rfl,λ_=>rfl,λ_=>rfl,λ_=>rfl,λ_=>rfl,λ_=>rfl,λ_=>rfl,trivial⟩ (λ_ _=>tr (z0n.eq_2 ..)) (λn=>⟨λ_=>tr (z96.eq_2 ..),λ_=>tr (z99.eq_2 ..),λx=>tr (z94.eq_2 x.1 x.2.1 x.2.2.1 x.2.2.2.1 x.2.2.2.2.1 x.2.2.2.2.2.1 x.2.2.2.2.2.2.1 x.2.2.2.2.2.2.2.1 x.2.2.2.2.2.2.2.2.1 x.2.2.2.2.2.2.2.2.2.1 x.2.2.2.2.2.2.2.2.2.2.1 x.2.2.2.2.2.2.2.2.2.2.2.1 x.2.2.2.2.2.2.2.2.2.2.2.2.1 n),λ_=>tr (z1t.eq_2 ..),λ_=>tr (z0g.eq_2 ..),λ_=>tr (z23.eq_2 ..),λx=>tr (z1z.eq_2 x.1 x.2.1 x.2.2.1 x.2.2.2.1 x.2.2.2.2.1 x.2.2.2.2.2.1 x.2.2.2.2.2.2.1 x.2.2.2.2.2.2.2.1 x.2.2.2.2.2.2.2.2.1 n),trivial⟩) (λx=>.inr (by kernel_rfl))
def y07:OkL prog [z9h]:=z98 (kzd _) (bs:=[zhq,zfq,zar,zsw]) ⟨y0g,zx6,zmq,ygq,trivial⟩ ⟨y0w,trivial⟩
def zxu:FOk prog z9h:=y07.1
mutual
def z9k:Nat->B8->Ot (Int×kz1)|0,_=>none|n+1,a=>pIf (decide ((a.length:Int)>4000)) (some (12,(kz1.mk 0 (yz4.mk 0 0) false [] []))) ((z0n n 6 (zz3.mk a 0 true)).bind λb=>pIf (!b.1.ok) (z4b n true (kz1.mk 0 (yz4.mk 0 0) false [] []) b.2.re) (pIf (b.1.at_ != (a.length:Int)) (z4b n true (kz1.mk 0 (yz4.mk 0 0) false [] []) b.2.re) ((z9f n b.2.re).bind λd=>z4b n (d != 0) (kz1.mk 0 (yz4.mk 0 0) false [] []) b.2.re)))
def z4b:Nat->Bool->kz1->kz1->Ot (Int×kz1)|0,_,_,_=>none|n+1,a,b,c=>pIf a (some (12,(kz1.mk 0 (yz4.mk 0 0) false [] []))) (some (0,c.re))
end
def yo2:LSh:=⟨[(2,(.ptr 0 0)),(3,dI)],[(.st 4)],0,36,[]⟩
noncomputable def zte:FI dat:=FI.of dat 288 36 0 [dS] [] [dT 4,dI] [] true yo2 (R:=Int×kz1) (λx=>(x.1,x.2.1)) (λr=>(r.2,r.1,())) (λn=>u1 (z9k n)) (λn=>[(0,⟨⟨[(2,(.ptr 0 0)),(5,(.ptr 1 0)),(33,dB)],[(.st 4),(.st 4)],0,36,[]⟩,u3 (z4b n)⟩)]) (anb [(17,0)] f288)
def ykw:FOk prog zte:=okF (bs:=[z9h,zia]) ⟨zxu,zq2,trivial⟩ func288 ntmps288 call288 (λ_ _=>tr (z9k.eq_2 ..)) (λn=>⟨λx=>tr (z4b.eq_2 x.1 x.2.1 x.2.2.1 n),trivial⟩)
mutual
def z3h:Nat->kz2->Ot (Res (Int×Unit) (kz2×zz2))|0,_=>none|n+1,a=>(z2z n a.s [34]).bind λb=>pIf b (kzz n 1 a (zz2.mk 0 (kz1.mk 0 (yz4.mk 0 0) false [] []) [] [])) (yzy n 0 a (zz2.mk 0 (kz1.mk 0 (yz4.mk 0 0) false [] []) [] []))
def kzz:Nat->Int->kz2->zz2->Ot (Res (Int×Unit) (kz2×zz2))|0,_,_,_=>none|n+1,a,b,c=>pIf (decide (a<(b.s.length:Int))) ((ix b.s a).bind λd=>zzz n a ((d.toNat:Int) != 34) b c.re) (zzz n a false b c.re)
def zzz:Nat->Int->Bool->kz2->zz2->Ot (Res (Int×Unit) (kz2×zz2))|0,_,_,_,_=>none|n+1,a,b,c,d=>pIf b ((ix c.s a).bind λe=>pIf ((e.toNat:Int)==92) (z19 n (IntKind.i64.wrap (a+1)) c d.re) (z19 n a c d.re)) (yzj n (mnI (IntKind.i64.wrap (a+1)) (c.s.length:Int)) c d.re)
def z19:Nat->Int->kz2->zz2->Ot (Res (Int×Unit) (kz2×zz2))|0,_,_,_=>none|n+1,a,b,c=>kzz n (IntKind.i64.wrap (a+1)) b c.re
def yzy:Nat->Int->kz2->zz2->Ot (Res (Int×Unit) (kz2×zz2))|0,_,_,_=>none|n+1,a,b,c=>pIf (decide (a<(b.s.length:Int))) ((ix b.s a).bind λe=>(z2r n [48,49,50,51,52,53,54,55,56,57,47,45] (e.toNat:Int)).bind λd=>z16 n a (decide (d>=0)) b c.re) (z16 n a false b c.re)
def z16:Nat->Int->Bool->kz2->zz2->Ot (Res (Int×Unit) (kz2×zz2))|0,_,_,_,_=>none|n+1,a,b,c,d=>pIf b (yzy n (IntKind.i64.wrap (a+1)) c d.re) (yzj n a c d.re)
def yzj:Nat->Int->kz2->zz2->Ot (Res (Int×Unit) (kz2×zz2))|0,_,_,_=>none|n+1,a,b,c=>(sub b.s 0 a).bind λi=>(z9k n i).bind λe=>(z4n n e.1).bind λg=>zp2 g (λj=>(sub b.s a (b.s.length:Int)).bind λh=>some (Res.ok ((kz2.mk h),(zz2.mk 1 e.2.re [] [])))) (λd=>some (Res.pan (d.1,())))
end
def zxt:LSh:=⟨[(2,(.ptr 1 0))],[(.st 15),(.st 5)],1,88,[]⟩
noncomputable def z7n:FI dat:=FI.ofP dat 272 88 1 [(.ptr 0 0)] [(.st 15)] [dT 5] [(.st 15),(.st 5)] (.iface 31 dI) [(.cells [.any])] [] zxt (R:=kz2×zz2) (λx=>(x.1,x.2.1)) (λr=>(r.2,r.1,r.2,())) (λn=>u1 (z3h n)) (λn=>[(0,⟨⟨[(3,dI),(0,(.ptr 0 0)),(2,(.ptr 1 0))],[(.st 15),(.st 5)],1,88,[]⟩,u3 (kzz n)⟩),(1,⟨⟨[(0,(.ptr 0 0)),(2,(.ptr 1 0)),(3,dI),(26,dB)],[(.st 15),(.st 5)],1,88,[]⟩,u4 (zzz n)⟩),(2,⟨⟨[(0,(.ptr 0 0)),(2,(.ptr 1 0)),(3,dI)],[(.st 15),(.st 5)],1,88,[]⟩,u3 (z19 n)⟩),(3,⟨⟨[(3,dI),(2,(.ptr 1 0)),(0,(.ptr 0 0))],[(.st 15),(.st 5)],1,88,[]⟩,u3 (yzy n)⟩),(4,⟨⟨[(2,(.ptr 1 0)),(0,(.ptr 0 0)),(3,dI),(62,dB)],[(.st 15),(.st 5)],1,88,[]⟩,u4 (z16 n)⟩),(5,⟨⟨[(2,(.ptr 1 0)),(3,dI),(0,(.ptr 0 0))],[(.st 15),(.st 5)],1,88,[]⟩,u3 (yzj n)⟩)]) (anb [(12,0),(16,1),(26,2),(29,3),(33,4),(38,5)] f272)
noncomputable def zxz:List (FI dat):=[z9j,zdk,zar,zte]
def zy2:(z7n).Good prog dat (tb zxz):=FI.y1u (hD:=kzd _) func272 ntmps272 call272 (by kernel_rfl) (Qac (by kernel_rfl)) (by kernel_rfl) (λn=>by kernel_rfl) trivial (λx=>by kernel_rfl) (λ_=>rfl) ⟨λ_=>rfl,λ_=>rfl,λ_=>rfl,λ_=>rfl,λ_=>rfl,λ_=>rfl,trivial⟩ (λ_ _=>tr (z3h.eq_2 ..)) (λn=>⟨λ_=>tr (kzz.eq_2 ..),λ_=>tr (zzz.eq_2 ..),λ_=>tr (z19.eq_2 ..),λ_=>tr (yzy.eq_2 ..),λ_=>tr (z16.eq_2 ..),λx=>tr (yzj.eq_2 x.1 x.2.1 x.2.2.1 n),trivial⟩) (λx=>by kernel_rfl)
def zy0:OkL prog [z7n]:=zth (kzd _) (bs:=[z9j,zdk,zar,zte]) ⟨zo0,zme,zmq,ykw,trivial⟩ zy2
def zx7:FOk prog z7n:=zy0.1
def zfp:Nat->Bool->Ot kz1|0,_=>none|n+1,a=>some (kz1.mk 2 (yz4.mk 0 0) a [] [])
def yq6:LSh:=⟨[(2,(.ptr 0 0))],[(.st 4)],0,5,[]⟩
noncomputable def zx9:FI dat:=FI.of dat 273 5 0 [dB] [] [dT 4] [] true yq6 (R:=kz1) Prod.fst (·,()) (λn=>u1 (zfp n)) (λn=>[]) (anb [] f273)
def ym3:FOk prog zx9:=okF (bs:=[]) trivial func273 ntmps273 call273 (λn=>λ_=>tr (zfp.eq_2 _ n)) (λn=>trivial)
mutual
def zzx:Nat->Int->kz2->Ot (Res (Int×Unit) (kz2×zz2))|0,_,_=>none|n+1,a,b=>pIf (a==0) ((z4n n 12).bind λd=>zp2 d (λg=>zz8 n a b (zz2.mk 0 (kz1.mk 0 (yz4.mk 0 0) false [] []) [] [])) (λe=>some (Res.pan (e.1,())))) (zz8 n a b (zz2.mk 0 (kz1.mk 0 (yz4.mk 0 0) false [] []) [] []))
def zz8:Nat->Int->kz2->zz2->Ot (Res (Int×Unit) (kz2×zz2))|0,_,_,_=>none|n+1,a,b,c=>(zze n [40] b).bind λd=>pIf d.1 ((zzx n (IntKind.i64.wrap (a-1)) d.2).bind λh=>zp2 h (λe=>(yzx n [32] e.1).bind λg=>zp2 g (λi=>z05 n 3 a i c.re e.2.re) (λk=>some (Res.pan (k.1,())))) (λj=>some (Res.pan (j.1,())))) (z3k n a d.2 c.re)
def z05:Nat->Int->Int->kz2->zz2->zz2->Ot (Res (Int×Unit) (kz2×zz2))|0,_,_,_,_,_=>none|n+1,a,b,c,d,e=>pIf (decide (a<=10)) ((zcn n a).bind λl=>(cat l [32]).bind λm=>(zze n m c).bind λg=>pIf g.1 ((zzx n (IntKind.i64.wrap (b-1)) g.2).bind λk=>zp2 k (λh=>(yzx n [41] h.1).bind λj=>zp2 j (λo=>some (Res.ok (o,(zz2.mk a (kz1.mk 0 (yz4.mk 0 0) false [] []) [] [e.re,h.2.re])))) (λr=>some (Res.pan (r.1,())))) (λq=>some (Res.pan (q.1,())))) (z05 n (IntKind.u8.wrap (a+1)) b g.2 d.re e.re)) ((z4n n 12).bind λi=>zp2 i (λs=>z3k n b c d.re) (λp=>some (Res.pan (p.1,()))))
def z3k:Nat->Int->kz2->zz2->Ot (Res (Int×Unit) (kz2×zz2))|0,_,_,_=>none|n+1,a,b,c=>(zze n [91] b).bind λd=>pIf d.1 ((z2e n (IntKind.i64.wrap (a-1)) [93] d.2).bind λg=>zp2 g (λe=>some (Res.ok (e.2,(zz2.mk 18 (kz1.mk 0 (yz4.mk 0 0) false [] []) [] e.1)))) (λh=>some (Res.pan (h.1,())))) (kzt n 0 a d.2 c.re)
def kzt:Nat->Int->Int->kz2->zz2->Ot (Res (Int×Unit) (kz2×zz2))|0,_,_,_,_=>none|n+1,a,b,c,d=>pIf (decide (a<(c.s.length:Int))) ((ix c.s a).bind λm=>pIf (decide ((m.toNat:Int)>=97)) ((ix c.s a).bind λl=>pIf (decide ((l.toNat:Int)<=122)) (yz6 n b a true c d.re) (pIf (decide (a>0)) ((ix c.s a).bind λk=>pIf ((k.toNat:Int)==45) (yz6 n b a true c d.re) ((ix c.s a).bind λj=>pIf (decide ((j.toNat:Int)>=48)) ((ix c.s a).bind λi=>yz6 n b a (decide ((i.toNat:Int)<=57)) c d.re) (yz6 n b a false c d.re))) (yz6 n b a false c d.re))) (pIf (decide (a>0)) ((ix c.s a).bind λh=>pIf ((h.toNat:Int)==45) (yz6 n b a true c d.re) ((ix c.s a).bind λg=>pIf (decide ((g.toNat:Int)>=48)) ((ix c.s a).bind λe=>yz6 n b a (decide ((e.toNat:Int)<=57)) c d.re) (yz6 n b a false c d.re))) (yz6 n b a false c d.re))) (yz6 n b a false c d.re)
def yz6:Nat->Int->Int->Bool->kz2->zz2->Ot (Res (Int×Unit) (kz2×zz2))|0,_,_,_,_,_=>none|n+1,a,b,c,d,e=>pIf c (kzt n (IntKind.i64.wrap (b+1)) a d e.re) ((sub d.s 0 b).bind λg=>pIf (b==0) ((z3h n d).bind λi=>zp2 i (λh=>some (Res.ok (h.1,h.2.re))) (λj=>some (Res.pan (j.1,())))) (pIf (g==[116,114,117,101]) (z1d n g b a true d e.re) (z1d n g b a (g==[102,97,108,115,101]) d e.re)))
def z1d:Nat->B8->Int->Int->Bool->kz2->zz2->Ot (Res (Int×Unit) (kz2×zz2))|0,_,_,_,_,_,_=>none|n+1,a,b,c,d,e,f=>pIf d ((sub e.s b (e.s.length:Int)).bind λm=>(zfp n (a==[116,114,117,101])).bind λk=>some (Res.ok ((kz2.mk m),(zz2.mk 1 k.re [] [])))) ((sub e.s b (e.s.length:Int)).bind λl=>(zze n [40] (kz2.mk l)).bind λg=>pIf (!g.1) (some (Res.ok (g.2,(zz2.mk 2 (kz1.mk 0 (yz4.mk 0 0) false [] []) a [])))) ((zzf n [110,111,116,32,105,102,32,109,105,110,32,109,97,120,32,102,108,111,111,114,32,108,101,110,32,97,116]).bind λj=>(yz5 n j a).bind λh=>pIf (decide (h<0)) ((z4n n 12).bind λi=>zp2 i (λp=>z3l n c h g.2 f.re) (λo=>some (Res.pan (o.1,())))) (z3l n c h g.2 f.re)))
def z3l:Nat->Int->Int->kz2->zz2->Ot (Res (Int×Unit) (kz2×zz2))|0,_,_,_,_=>none|n+1,a,b,c,d=>(z2e n (IntKind.i64.wrap (a-1)) [41] c).bind λg=>zp2 g (λe=>some (Res.ok (e.2,(zz2.mk (IntKind.u8.wrap (11+(IntKind.u8.wrap b))) (kz1.mk 0 (yz4.mk 0 0) false [] []) [] e.1)))) (λh=>some (Res.pan (h.1,())))
def z2e:Nat->Int->B8->kz2->Ot (Res (Int×Unit) (kz9×kz2))|0,_,_,_=>none|n+1,a,b,c=>(zze n b c).bind λd=>pIf d.1 (some (Res.ok ([],d.2))) (z0i n b a d.2 [])
def z0i:Nat->B8->Int->kz2->kz9->Ot (Res (Int×Unit) (kz9×kz2))|0,_,_,_,_=>none|n+1,a,b,c,d=>(zzx n b c).bind λj=>zp2 j (λh=>(ext d [h.2.re]).bind λg=>(zze n a h.1).bind λe=>pIf e.1 (some (Res.ok (g,e.2))) ((yzx n [44,32] e.2).bind λi=>zp2 i (λk=>z0i n a b k g) (λm=>some (Res.pan (m.1,()))))) (λl=>some (Res.pan (l.1,())))
end
def y61:LSh:=⟨[(4,(.ptr 1 0))],[(.st 15),(.st 5)],1,167,[]⟩
noncomputable def z8s:FI dat:=FI.ofP dat 243 167 1 [(.ptr 0 0),dI] [(.st 15)] [dT 5] [(.st 15),(.st 5)] (.iface 31 dI) [(.cells [.any])] [] y61 (R:=kz2×zz2) (λx=>(x.1,x.2.1)) (λr=>(r.2,r.1,r.2,())) (λn=>u2 (zzx n)) (λn=>[(0,⟨⟨[(4,(.ptr 1 0)),(0,(.ptr 0 0)),(1,dI)],[(.st 15),(.st 5)],1,167,[]⟩,u3 (zz8 n)⟩),(1,⟨⟨[(4,(.ptr 1 0)),(5,(.ptr 2 0)),(6,dU),(0,(.ptr 0 0)),(1,dI)],[(.st 15),(.st 5),(.st 5)],1,167,[]⟩,u5 (z05 n)⟩),(2,⟨⟨[(4,(.ptr 1 0)),(1,dI),(0,(.ptr 0 0))],[(.st 15),(.st 5)],1,167,[]⟩,u3 (z3k n)⟩),(3,⟨⟨[(8,dI),(4,(.ptr 1 0)),(0,(.ptr 0 0)),(1,dI)],[(.st 15),(.st 5)],1,167,[]⟩,u4 (kzt n)⟩),(4,⟨⟨[(4,(.ptr 1 0)),(0,(.ptr 0 0)),(1,dI),(8,dI),(105,dB)],[(.st 15),(.st 5)],1,167,[]⟩,u5 (yz6 n)⟩),(5,⟨⟨[(4,(.ptr 1 0)),(9,dS),(8,dI),(0,(.ptr 0 0)),(1,dI),(119,dB)],[(.st 15),(.st 5)],1,167,[]⟩,u6 (z1d n)⟩),(6,⟨⟨[(4,(.ptr 1 0)),(1,dI),(0,(.ptr 0 0)),(10,dI)],[(.st 15),(.st 5)],1,167,[]⟩,u4 (z3l n)⟩)]) (anb [(8,0),(20,1),(43,2),(55,3),(59,4),(76,5),(101,6)] f243)
def y0j:LSh:=⟨[(6,dL 5)],[(.st 15)],1,24,[]⟩
noncomputable def zgu:FI dat:=FI.ofP dat 271 24 1 [(.ptr 0 0),dI,dS] [(.st 15)] [dL 5] [(.st 15)] (.iface 31 dI) [(.cells [.any])] [] y0j (R:=kz9×kz2) (λx=>(x.1,x.2.1)) (λr=>(r.1,r.2,())) (λn=>u3 (z2e n)) (λn=>[(0,⟨⟨[(0,(.ptr 0 0)),(2,dS),(1,dI),(7,(.own 1))],[(.st 15),(.acc 29 (.st 5) true)],1,24,[]⟩,u4 (z0i n)⟩)]) (anb [(13,0)] f271)
noncomputable def zpc:List (FI dat):=[z8s,zgu]++[z9j,zbo,zbj,z7n,zmi,zx9,z5i,z04]
def y6y:(z8s).Good prog dat (tb zpc):=FI.y1u (hD:=kzd _) func243 ntmps243 call243 (by kernel_rfl) (Qac (by kernel_rfl)) (by kernel_rfl) (λn=>by kernel_rfl) trivial (λx=>by kernel_rfl) (λ_=>rfl) ⟨λ_=>rfl,λ_=>rfl,λ_=>rfl,λ_=>rfl,λ_=>rfl,λ_=>rfl,λ_=>rfl,trivial⟩ (λ_ _=>tr (zzx.eq_2 ..)) (λn=>⟨λ_=>tr (zz8.eq_2 ..),λ_=>tr (z05.eq_2 ..),λ_=>tr (z3k.eq_2 ..),λ_=>tr (kzt.eq_2 ..),λ_=>tr (yz6.eq_2 ..),λ_=>tr (z1d.eq_2 ..),λx=>tr (z3l.eq_2 x.1 x.2.1 x.2.2.1 x.2.2.2.1 n),trivial⟩) (λx=>by kernel_rfl)
def y1k:(zgu).Good prog dat (tb zpc):=FI.y1u (hD:=kzd _) func271 ntmps271 call271 (by kernel_rfl) (Qac (by kernel_rfl)) (by kernel_rfl) (λn=>by kernel_rfl) trivial (λx=>by kernel_rfl) (λ_=>rfl) ⟨λ_=>rfl,trivial⟩ (λ_ _=>tr (z2e.eq_2 ..)) (λn=>⟨λ_=>tr (z0i.eq_2 ..),trivial⟩) (λx=>by kernel_rfl)
def y6w:OkL prog [z8s,zgu]:=z98 (kzd _) (bs:=[z9j,zbo,zbj,z7n,zmi,zx9,z5i,z04]) ⟨zo0,zns,y48,zx7,y8v,ym3,zcl,z3t,trivial⟩ ⟨y6y,y1k,trivial⟩
def y4e:FOk prog z8s:=y6w.1
def zkn(a:Int):Option Int :=
 some a
def ymk:LSh:=⟨[],[(.cells [dI])],1,10,[]⟩
noncomputable def y5s:y1i dat:={f:=242,args:=[(.ptr 0 0)],aos:=[(.cells [dI])],m:=none,ros:=[(.cells [dI])],go:=λx a=>(zkn x.1).bind λr=>some (r,())}
def yex:(y5s).Ok prog:=yxs (c:=(anb [] f242)) (args:=[(.ptr 0 0)]) (aos:=[(.cells [dI])]) (ros:=[(.cells [dI])]) (m:=none) (l:=ymk) (pack:=λx=>x.1) (un:=λr=>(r,())) (go:=λx a=>zkn x.1) (by kernel_rfl) (kzd _) func242 (by kernel_rfl) ntmps242 call242 (Nat.le_of_ble_eq_true (by kernel_rfl)) (Nat.le_of_ble_eq_true (by kernel_rfl)) (Nat.le_of_ble_eq_true (by kernel_rfl)) (by kernel_rfl) (by kernel_rfl) (by kernel_rfl) (by kernel_rfl) (λx=>by kernel_rfl) (λx a=>by kernel_rfl)
end Go.Proofs.YthphaiccgnkobaaGreatDoor
