/-
  What each function comes to, by its body, by a program of this repo.
-/
import Derived.Test.YthphaiccgnkobaaGreatDoorLib8
import Derived.Test.YthphaiccgnkobaaGreatDoorRun2
import Derived.Lib.Bytealg
import Derived.Test.YthphaiccgnkobaaGreatDoorLib9
set_option linter.defProp false
set_option linter.unusedSimpArgs false
set_option linter.unusedVariables false
namespace Go.Proofs.YthphaiccgnkobaaGreatDoor
open Go Go.Ab
def yeg{r}(a):=evS (zce · a) r (zce.eq_2 a)
def zf1{r}(a):=evS (yzn · a) r (yzn.eq_2 a)
def ze0{r}(a):=evS (zzd · a) r (zzd.eq_2 a)
def ym4{r}(a):=evS (zfm · a) r (zfm.eq_2 a)
def ztn{r}(a b):=evS (z88 · a b) r (z88.eq_2 a b)
def zvl{r}(a b c):=evS (z5a · a b c) r (z5a.eq_2 a b c)
def zu8{r}(a b c d e):=evS (z7p · a b c d e) r (z7p.eq_2 a b c d e)
def zw0{r}(a b c d e f):=evS (z5l · a b c d e f) r (z5l.eq_2 a b c d e f)
def zvb{r}(a b c d e f g):=evS (z8t · a b c d e f g) r (z8t.eq_2 a b c d e f g)
def ym1{r}(a):=evS (zde · a) r (zde.eq_2 a)
def zvx{r}(a b):=evS (zb9 · a b) r (zb9.eq_2 a b)
def zuj{r}(a b):=evS (z1v · a b) r (z1v.eq_2 a b)
def zvz{r}(a b c d e):=evS (z8c · a b c d e) r (z8c.eq_2 a b c d e)
def zua{r}(a b c):=evS (z0v · a b c) r (z0v.eq_2 a b c)
def z9q{r}(a b):=evS (yz5 · a b) r (yz5.eq_2 a b)
def zch{r}(a b c d):=evS (zz7 · a b c d) r (zz7.eq_2 a b c d)
def zjt{r}(a b):=evS (kzr · a b) r (kzr.eq_2 a b)
def yhb{r}(a):=evS (z4i · a) r (z4i.eq_2 a)
def yet{r}(a):=evS (za5 · a) r (za5.eq_2 a)
def zqb{r}(a b c d e):=evS (z4s · a b c d e) r (z4s.eq_2 a b c d e)
def y59{r}(a):=evS (zfk · a) r (zfk.eq_2 a)
def zve{r}(a b c):=evS (z01 · a b c) r (z01.eq_2 a b c)
def zvu{r}(a b c):=evS (z7u · a b c) r (z7u.eq_2 a b c)
def zv0{r}(a b c):=evS (z8e · a b c) r (z8e.eq_2 a b c)
def zuo{r}(a b c):=evS (zbf · a b c) r (zbf.eq_2 a b c)
def ybz{r}:=evS (zbd ·) r (zbd.eq_2)
def zuu{r}(a):=evS (z22 · a) r (z22.eq_2 a)
def yap{r}(a):=evS (z7y · a) r (z7y.eq_2 a)
def znv{r}(a b c d e):=evS (z3q · a b c d e) r (z3q.eq_2 a b c d e)
def y4m{r}(a b):=evS (z3r · a b) r (z3r.eq_2 a b)
def ymp{r}(a):=evS (zd5 · a) r (zd5.eq_2 a)
def ysn{r}(a b):=evS (zh4 · a b) r (zh4.eq_2 a b)
def yeq{r}(a b):=evS (zae · a b) r (zae.eq_2 a b)
def yj3{r}(a):=evS (z6p · a) r (z6p.eq_2 a)
def y9g{r}(a):=evS (z2h · a) r (z2h.eq_2 a)
def ylw{r}(a):=evS (zd8 · a) r (zd8.eq_2 a)
def zu7{r}(a b c):=evS (z7q · a b c) r (z7q.eq_2 a b c)
def ztt{r}(a b c d):=evS (z8n · a b c d) r (z8n.eq_2 a b c d)
def zv8{r}(a b c d):=evS (z8f · a b c d) r (z8f.eq_2 a b c d)
def yc6{r}(a):=evS (z3e · a) r (z3e.eq_2 a)
def ygf{r}(a):=evS (z9f · a) r (z9f.eq_2 a)
def y90{r}(a b):=evS (z6l · a b) r (z6l.eq_2 a b)
def ync{r}(a):=evS (zfd · a) r (zfd.eq_2 a)
def ylg{r}(a b):=evS (z4f · a b) r (z4f.eq_2 a b)
def zvq{r}(a b c):=evS (z1s · a b c) r (z1s.eq_2 a b c)
def zud{r}(a b c d):=evS (z7z · a b c d) r (z7z.eq_2 a b c d)
def yqw{r}(a):=evS (zem · a) r (zem.eq_2 a)
def ydr{r}(a b):=evS (z7h · a b) r (z7h.eq_2 a b)
def yep{r}(a b):=evS (z7i · a b) r (z7i.eq_2 a b)
def yea{r}(a b):=evS (zap · a b) r (zap.eq_2 a b)
def yez{r}(a b):=evS (zan · a b) r (zan.eq_2 a b)
def yel{r}(a):=evS (z7g · a) r (z7g.eq_2 a)
def zee{r}(a):=evS (kze · a) r (kze.eq_2 a)
def zfs{r}(a):=evS (kzg · a) r (kzg.eq_2 a)
def z11{r}(a b c):=evS (zza · a b c) r (zza.eq_2 a b c)
def yj7{r}(a):=evS (zdp · a) r (zdp.eq_2 a)
def ylt{r}(a):=evS (z0y · a) r (z0y.eq_2 a)
def yau{r}(a b):=evS (z8m · a b) r (z8m.eq_2 a b)
def y7p{r}(a):=evS (za0 · a) r (za0.eq_2 a)
def zjh{r}(a):=evS (kzx · a) r (kzx.eq_2 a)
def zhj{r}(a):=evS (zzm · a) r (zzm.eq_2 a)
def y5j{r}(a):=evS (z4h · a) r (z4h.eq_2 a)
def yqo{r}(a):=evS (zcq · a) r (zcq.eq_2 a)
def yfm{r}(a b):=evS (zal · a b) r (zal.eq_2 a b)
def yeo{r}(a):=evS (zag · a) r (zag.eq_2 a)
def y45{r}(a):=evS (z7f · a) r (z7f.eq_2 a)
def zwc{r}(a b):=evS (z1b · a b) r (z1b.eq_2 a b)
def zx0{r}(a b c d):=evS (z1f · a b c d) r (z1f.eq_2 a b c d)
def zxc{r}(a b c):=evS (z1h · a b c) r (z1h.eq_2 a b c)
def zki{r}(a b c):=evS (z08 · a b c) r (z08.eq_2 a b c)
def zkb{r}(a b c):=evS (z0b · a b c) r (z0b.eq_2 a b c)
def zjn{r}(a b):=evS (yzu · a b) r (yzu.eq_2 a b)
def zku{r}(a b c):=evS (z0e · a b c) r (z0e.eq_2 a b c)
def zkj{r}(a b c d):=evS (yzp · a b c d) r (yzp.eq_2 a b c d)
def ye0{r}(a):=evS (zca · a) r (zca.eq_2 a)
def zoy{r}(a b c d):=evS (z32 · a b c d) r (z32.eq_2 a b c d)
def zor{r}(a b c d e):=evS (z4t · a b c d e) r (z4t.eq_2 a b c d e)
def zp7{r}(a b c):=evS (z2y · a b c) r (z2y.eq_2 a b c)
def zpq{r}(a b c d e):=evS (z4w · a b c d e) r (z4w.eq_2 a b c d e)
def zpx{r}(a b c d e f):=evS (z3a · a b c d e f) r (z3a.eq_2 a b c d e f)
def zpi{r}(a b c d e f g h):=evS (z2t · a b c d e f g h) r (z2t.eq_2 a b c d e f g h)
def zpw{r}(a b c d e f g h i):=evS (z2x · a b c d e f g h i) r (z2x.eq_2 a b c d e f g h i)
def zk7{r}(a b):=evS (zzs · a b) r (zzs.eq_2 a b)
def z4g{r}(a b c d):=evS (kzi · a b c d) r (kzi.eq_2 a b c d)
def zi2{r}(a b):=evS (kzn · a b) r (kzn.eq_2 a b)
def ynf{r}(a b):=evS (zda · a b) r (zda.eq_2 a b)
def ztu{r}(a b c):=evS (zbg · a b c) r (zbg.eq_2 a b c)
def ybn{r}(a b):=evS (z7t · a b) r (z7t.eq_2 a b)
def zub{r}(a b c d):=evS (z7w · a b c d) r (z7w.eq_2 a b c d)
def ylh{r}(a):=evS (zfi · a) r (zfi.eq_2 a)
def yf3{r}(a b c):=evS (zc4 · a b c) r (zc4.eq_2 a b c)
def zhs{r}(a b c):=evS (zzt · a b c) r (zzt.eq_2 a b c)
def z2n{r}(a b c d e):=evS (kzc · a b c d e) r (kzc.eq_2 a b c d e)
def zgd{r}(a b c):=evS (zzj · a b c) r (zzj.eq_2 a b c)
def ymb{r}(a b c):=evS (zd3 · a b c) r (zd3.eq_2 a b c)
def yjz{r}(a):=evS (ze7 · a) r (ze7.eq_2 a)
def zrf{r}(a b c d):=evS (z6n · a b c d) r (z6n.eq_2 a b c d)
def zsm{r}(a b c d e f g):=evS (z6b · a b c d e f g) r (z6b.eq_2 a b c d e f g)
def zrq{r}(a b c d e f g h i j):=evS (z6e · a b c d e f g h i j) r (z6e.eq_2 a b c d e f g h i j)
def yb5{r}(a b c):=evS (zbc · a b c) r (zbc.eq_2 a b c)
def zh0{r}(a b c):=evS (yzr · a b c) r (yzr.eq_2 a b c)
def z2d{r}(a b c d e):=evS (zzc · a b c d e) r (zzc.eq_2 a b c d e)
def zfr{r}(a b c):=evS (yzg · a b c) r (yzg.eq_2 a b c)
def ygg{r}(a):=evS (z9p · a) r (z9p.eq_2 a)
def zro{r}(a b c d):=evS (z74 · a b c d) r (z74.eq_2 a b c d)
def zrg{r}(a b c d e f g):=evS (z4c · a b c d e f g) r (z4c.eq_2 a b c d e f g)
def y93{r}(a b c d e f g h):=evS (z7b · a b c d e f g h) r (z7b.eq_2 a b c d e f g h)
def zr9{r}(a b c d e f g h i j):=evS (z69 · a b c d e f g h i j) r (z69.eq_2 a b c d e f g h i j)
def yg8{r}(a):=evS (z9b · a) r (z9b.eq_2 a)
def zr7{r}(a b c d e f g h i):=evS (z6v · a b c d e f g h i) r (z6v.eq_2 a b c d e f g h i)
def y7w{r}(a b c d e f g h i j):=evS (z65 · a b c d e f g h i j) r (z65.eq_2 a b c d e f g h i j)
def zsa{r}(a b c d e f g h i):=evS (z5z · a b c d e f g h i) r (z5z.eq_2 a b c d e f g h i)
def zrt{r}(a b c d e f g h i j k l m):=evS (z62 · a b c d e f g h i j k l m) r (z62.eq_2 a b c d e f g h i j k l m)
def zsp{r}(a b c d e f g h i j k l m o):=evS (z6z · a b c d e f g h i j k l m o) r (z6z.eq_2 a b c d e f g h i j k l m o)
def zr3{r}(a b c d e f g h i j):=evS (z3z · a b c d e f g h i j) r (z3z.eq_2 a b c d e f g h i j)
def zsj{r}(a b c d e f g h i j k l m o p):=evS (z6x · a b c d e f g h i j k l m o p) r (z6x.eq_2 a b c d e f g h i j k l m o p)
def zs5{r}(a b c d e f g h i j k l m o p q):=evS (z3u · a b c d e f g h i j k l m o p q) r (z3u.eq_2 a b c d e f g h i j k l m o p q)
def y8i{r}(a b c d e f g h i j k):=evS (z6u · a b c d e f g h i j k) r (z6u.eq_2 a b c d e f g h i j k)
def zrr{r}(a b c d e f g h i j k l m):=evS (z6i · a b c d e f g h i j k l m) r (z6i.eq_2 a b c d e f g h i j k l m)
def y6n{r}(a b c d e f g h i j k l m o p q):=evS (z4z · a b c d e f g h i j k l m o p q) r (z4z.eq_2 a b c d e f g h i j k l m o p q)
def y62{r}(a b c d e f g h i j k l m):=evS (z35 · a b c d e f g h i j k l m) r (z35.eq_2 a b c d e f g h i j k l m)
def zjc{r}(a b):=evS (yzk · a b) r (yzk.eq_2 a b)
def y0r{r}(a b):=evS (z38 · a b) r (z38.eq_2 a b)
def ynw{r}(a):=evS (zb6 · a) r (zb6.eq_2 a)
def zuc{r}(a):=evS (zbb · a) r (zbb.eq_2 a)
def zlu{r}(a b):=evS (kz4 · a b) r (kz4.eq_2 a b)
def zne{r}(a b):=evS (yzb · a b) r (yzb.eq_2 a b)
def zpb{r}(a b):=evS (z0w · a b) r (z0w.eq_2 a b)
def zn4{r}(a b):=evS (z02 · a b) r (z02.eq_2 a b)
def yh8{r}(a b):=evS (zbl · a b) r (zbl.eq_2 a b)
def zqt{r}(a b c):=evS (z6y · a b c) r (z6y.eq_2 a b c)
def y7s{r}(a b c d):=evS (z64 · a b c d) r (z64.eq_2 a b c d)
def y98{r}(a b c d):=evS (z6g · a b c d) r (z6g.eq_2 a b c d)
def zwo{r}(a):=evS (z06 · a) r (z06.eq_2 a)
def yn9{r}(a):=evS (zfc · a) r (zfc.eq_2 a)
def yri{r}(a):=evS (zcn · a) r (zcn.eq_2 a)
def yf1{r}(a b):=evS (zaq · a b) r (zaq.eq_2 a b)
def ym5{r}(a b):=evS (zcz · a b) r (zcz.eq_2 a b)
def yb4{r}(a b c d e):=evS (z5j · a b c d e) r (z5j.eq_2 a b c d e)
def zu6{r}(a b c d e f):=evS (z84 · a b c d e f) r (z84.eq_2 a b c d e f)
def yat{r}(a b c d e f g):=evS (z8y · a b c d e f g) r (z8y.eq_2 a b c d e f g)
def yrg{r}(a):=evS (zha · a) r (zha.eq_2 a)
def yec{r}(a b):=evS (z1k · a b) r (z1k.eq_2 a b)
def zq3{r}(a b):=evS (z7r · a b) r (z7r.eq_2 a b)
def yf9{r}(a b):=evS (z03 · a b) r (z03.eq_2 a b)
def y0k{r}(a b c):=evS (z5e · a b c) r (z5e.eq_2 a b c)
def ziy{r}(a b c d e):=evS (z0s · a b c d e) r (z0s.eq_2 a b c d e)
def ynd{r}(a):=evS (zb3 · a) r (zb3.eq_2 a)
def zvw{r}(a b c d e f):=evS (z8b · a b c d e f) r (z8b.eq_2 a b c d e f)
def zu2{r}(a b c d e):=evS (z5f · a b c d e) r (z5f.eq_2 a b c d e)
def zv1{r}(a b c d e f g h):=evS (z8q · a b c d e f g h) r (z8q.eq_2 a b c d e f g h)
def zvd{r}(a b c d e f g h i j k):=evS (z86 · a b c d e f g h i j k) r (z86.eq_2 a b c d e f g h i j k)
def ybi{r}(a b):=evS (z8p · a b) r (z8p.eq_2 a b)
def zis{r}(a b):=evS (zzp · a b) r (zzp.eq_2 a b)
def zxv{r}(a b):=evS (z4e · a b) r (z4e.eq_2 a b)
def zg6{r}(a b):=evS (zzu · a b) r (zzu.eq_2 a b)
def y1c{r}(a b):=evS (z1l · a b) r (z1l.eq_2 a b)
def y8z{r}(a):=evS (z4n · a) r (z4n.eq_2 a)
def zji{r}(a b):=evS (zzk · a b) r (zzk.eq_2 a b)
def zjd{r}(a b):=evS (kzp · a b) r (kzp.eq_2 a b)
def zyu{r}(a b):=evS (z14 · a b) r (z14.eq_2 a b)
def y4i{r}(a b):=evS (zze · a b) r (zze.eq_2 a b)
def y46{r}(a b):=evS (yzx · a b) r (yzx.eq_2 a b)
def y25{r}(a b):=evS (z2z · a b) r (z2z.eq_2 a b)
def y2d{r}(a b):=evS (z2r · a b) r (z2r.eq_2 a b)
def zym{r}(a b):=evS (yzf · a b) r (yzf.eq_2 a b)
def zkz{r}(a):=evS (z0a · a) r (z0a.eq_2 a)
def zzy{r}(a b):=evS (kza · a b) r (kza.eq_2 a b)
def zc0{r}(a b c):=evS (yzs · a b c) r (yzs.eq_2 a b c)
def zqh{r}(a b c):=evS (kzy · a b c) r (kzy.eq_2 a b c)
def z7l{r}(a):=evS (z18 · a) r (z18.eq_2 a)
def yfl{r}(a):=evS (za8 · a) r (za8.eq_2 a)
def y6z{r}(a b):=evS (z1c · a b) r (z1c.eq_2 a b)
def zq1{r}(a b c):=evS (z4v · a b c) r (z4v.eq_2 a b c)
def zpf{r}(a b c d e):=evS (z58 · a b c d e) r (z58.eq_2 a b c d e)
def zpu{r}(a):=evS (z6d · a) r (z6d.eq_2 a)
def zkd{r}(a b c d e):=evS (z41 · a b c d e) r (z41.eq_2 a b c d e)
def zg2{r}(a b c d e f):=evS (z3v · a b c d e f) r (z3v.eq_2 a b c d e f)
def zfy{r}(a b c d):=evS (z48 · a b c d) r (z48.eq_2 a b c d)
def zlb{r}(a b):=evS (z0n · a b) r (z0n.eq_2 a b)
def zt9{r}(a b c d e f g):=evS (z1t · a b c d e f g) r (z1t.eq_2 a b c d e f g)
def zi3{r}(a b c d e f g h):=evS (z0g · a b c d e f g h) r (z0g.eq_2 a b c d e f g h)
def zi1{r}(a b c d e f g h i):=evS (z23 · a b c d e f g h i) r (z23.eq_2 a b c d e f g h i)
def zt1{r}(a b c d e f g h i):=evS (z1z · a b c d e f g h i) r (z1z.eq_2 a b c d e f g h i)
def y1q{r}(a):=evS (z9k · a) r (z9k.eq_2 a)
def zg5{r}(a b c):=evS (z4b · a b c) r (z4b.eq_2 a b c)
def zwv{r}(a):=evS (z3h · a) r (z3h.eq_2 a)
def zbz{r}(a b c):=evS (kzz · a b c) r (kzz.eq_2 a b c)
def zhg{r}(a b c d):=evS (zzz · a b c d) r (zzz.eq_2 a b c d)
def zhf{r}(a b c):=evS (z19 · a b c) r (z19.eq_2 a b c)
def zhh{r}(a b c):=evS (yzy · a b c) r (yzy.eq_2 a b c)
def zhi{r}(a b c d):=evS (z16 · a b c d) r (z16.eq_2 a b c d)
def zql{r}(a b c):=evS (yzj · a b c) r (yzj.eq_2 a b c)
def yna{r}(a):=evS (zfp · a) r (zfp.eq_2 a)
def y4n{r}(a b):=evS (zzx · a b) r (zzx.eq_2 a b)
def zes{r}(a b c):=evS (zz8 · a b c) r (zz8.eq_2 a b c)
def zkg{r}(a b c d e):=evS (z05 · a b c d e) r (z05.eq_2 a b c d e)
def zjp{r}(a b c):=evS (z3k · a b c) r (z3k.eq_2 a b c)
def zev{r}(a b c d):=evS (kzt · a b c d) r (kzt.eq_2 a b c d)
def zay{r}(a b c d e):=evS (yz6 · a b c d e) r (yz6.eq_2 a b c d e)
def zb0{r}(a b c d e f):=evS (z1d · a b c d e f) r (z1d.eq_2 a b c d e f)
def zxg{r}(a b c d):=evS (z3l · a b c d) r (z3l.eq_2 a b c d)
def zl9{r}(a b c):=evS (z2e · a b c) r (z2e.eq_2 a b c)
def zi5{r}(a b c d):=evS (z0i · a b c d) r (z0i.eq_2 a b c d)
def zxa{r}(a):=evS (zcj · a) r (zcj.eq_2 a)
def zsy{r}(a):=evS (zb8 · a) r (zb8.eq_2 a)
def zvv{r}(a b c):=evS (z5d · a b c) r (z5d.eq_2 a b c)
def y27{r}(a b):=evS (kzu · a b) r (kzu.eq_2 a b)
def zja{r}(a b c):=evS (z2o · a b c) r (z2o.eq_2 a b c)
def y2f{r}(a b):=evS (z0f · a b) r (z0f.eq_2 a b)
def zj6{r}(a b c):=evS (z2p · a b c) r (z2p.eq_2 a b c)
def ya4{r}(a b):=evS (zbi · a b) r (zbi.eq_2 a b)
def zyt{r}(a b):=evS (z13 · a b) r (z13.eq_2 a b)
def zj4{r}(a b):=evS (z0x · a b) r (z0x.eq_2 a b)
def zkl{r}(a b c d e f g h):=evS (z0c · a b c d e f g h) r (z0c.eq_2 a b c d e f g h)
def zqj{r}(a b c d e f g h i j k):=evS (z17 · a b c d e f g h i j k) r (z17.eq_2 a b c d e f g h i j k)
def zqi{r}(a b c d e f g h i j k):=evS (kzj · a b c d e f g h i j k) r (kzj.eq_2 a b c d e f g h i j k)
def zci{r}(a b c d):=evS (zzq · a b c d) r (zzq.eq_2 a b c d)
def z9w{r}(a b c d e f g):=evS (z2q · a b c d e f g) r (z2q.eq_2 a b c d e f g)
def zum{r}(a b c d e f):=evS (kzw · a b c d e f) r (kzw.eq_2 a b c d e f)
def yku{r}(a):=evS (zbk · a) r (zbk.eq_2 a)
def zru{r}(a b c d e f g h):=evS (z09 · a b c d e f g h) r (z09.eq_2 a b c d e f g h)
def yh9{r}(a b):=evS (zbn · a b) r (zbn.eq_2 a b)
def zsi{r}(a b c):=evS (z42 · a b c) r (z42.eq_2 a b c)
def zs6{r}(a b c):=evS (z6c · a b c) r (z6c.eq_2 a b c)
def yjo{r}(a):=evS (z9g · a) r (z9g.eq_2 a)
def zjx{r}(a b c):=evS (z77 · a b c) r (z77.eq_2 a b c)
def zk3{r}(a b c d):=evS (z6o · a b c d) r (z6o.eq_2 a b c d)
def y2n{r}(a):=evS (zdw · a) r (zdw.eq_2 a)
def yh4{r}(a b):=evS (zbr · a b) r (zbr.eq_2 a b)
def zqy{r}(a b c):=evS (z2l · a b c) r (z2l.eq_2 a b c)
def zry{r}(a b c):=evS (z6w · a b c) r (z6w.eq_2 a b c)
def yix{r}(a):=evS (z9c · a) r (z9c.eq_2 a)
def zqu{r}(a b c):=evS (z6s · a b c) r (z6s.eq_2 a b c)
def zyz{r}(a):=evS (z7c · a) r (z7c.eq_2 a)
def y58{r}(a):=evS (z5w · a) r (z5w.eq_2 a)
def y6o{r}(a):=evS (z8a · a) r (z8a.eq_2 a)
def zla{r}(a b):=evS (z2a · a b) r (z2a.eq_2 a b)
def zl6{r}(a b):=evS (z2c · a b) r (z2c.eq_2 a b)
def zl7{r}(a b c):=evS (z0o · a b c) r (z0o.eq_2 a b c)
def zl3{r}(a b c):=evS (z29 · a b c) r (z29.eq_2 a b c)
def zlc{r}(a b c d):=evS (z2b · a b c d) r (z2b.eq_2 a b c d)
def yjy{r}(a):=evS (zdq · a) r (zdq.eq_2 a)
def zse{r}(a b):=evS (z6r · a b) r (z6r.eq_2 a b)
def zrz{r}(a b):=evS (z3w · a b) r (z3w.eq_2 a b)
def zsk{r}(a b c):=evS (z6m · a b c) r (z6m.eq_2 a b c)
def zri{r}(a b):=evS (z73 · a b) r (z73.eq_2 a b)
def zr5{r}(a b c d):=evS (z43 · a b c d) r (z43.eq_2 a b c d)
def zs8{r}(a b c d):=evS (z3x · a b c d) r (z3x.eq_2 a b c d)
def zsn{r}(a b c d):=evS (z7a · a b c d) r (z7a.eq_2 a b c d)
def ymj{r}(a):=evS (zfb · a) r (zfb.eq_2 a)
def zvr{r}(a b):=evS (z7o · a b) r (z7o.eq_2 a b)
def zux{r}(a b):=evS (z5k · a b) r (z5k.eq_2 a b)
def ztr{r}(a b c d):=evS (z81 · a b c d) r (z81.eq_2 a b c d)
def zul{r}(a b c d):=evS (z5n · a b c d) r (z5n.eq_2 a b c d)
def zvg{r}(a b c d e):=evS (z5g · a b c d e) r (z5g.eq_2 a b c d e)
def yej{r}(a):=evS (zcf · a) r (zcf.eq_2 a)
def yiw{r}(a):=evS (ze6 · a) r (ze6.eq_2 a)
def ym8{r}(a):=evS (zd0 · a) r (zd0.eq_2 a)
def zup{r}(a b):=evS (z0u · a b) r (z0u.eq_2 a b)
def zv5{r}(a b c):=evS (z1x · a b c) r (z1x.eq_2 a b c)
def yfc{r}(a):=evS (zc8 · a) r (zc8.eq_2 a)
def yo1{r}(a):=evS (z5x · a) r (z5x.eq_2 a)
def ylz{r}(a):=evS (zd1 · a) r (zd1.eq_2 a)
def zv3{r}(a b c):=evS (z82 · a b c) r (z82.eq_2 a b c)
def y5m{r}(a):=evS (zfn · a) r (zfn.eq_2 a)
def zuq{r}(a b):=evS (zbe · a b) r (zbe.eq_2 a b)
def zuv{r}(a b):=evS (z00 · a b) r (z00.eq_2 a b)
def zvh{r}(a b):=evS (z8o · a b) r (z8o.eq_2 a b)
def ymu{r}(a):=evS (zdf · a) r (zdf.eq_2 a)
def zlj{r}(a b c):=evS (z8k · a b c) r (z8k.eq_2 a b c)
def zlg{r}(a b c d):=evS (z8w · a b c d) r (z8w.eq_2 a b c d)
def yey{r}(a b):=evS (zcb · a b) r (zcb.eq_2 a b)
def y7f{r}(a b):=evS (z4r · a b) r (z4r.eq_2 a b)
def yim{r}(a):=evS (zdu · a) r (zdu.eq_2 a)
def y9a{r}(a):=evS (z0z · a) r (z0z.eq_2 a)
def yli{r}(a):=evS (zd4 · a) r (zd4.eq_2 a)
def zuf{r}(a b):=evS (z25 · a b) r (z25.eq_2 a b)
def ztv{r}(a b):=evS (z8j · a b) r (z8j.eq_2 a b)
def zty{r}(a b c):=evS (z7x · a b c) r (z7x.eq_2 a b c)
def zu4{r}(a b):=evS (z3i · a b) r (z3i.eq_2 a b)
def zun{r}(a b):=evS (z89 · a b) r (z89.eq_2 a b)
def yh0{r}(a):=evS (zds · a) r (zds.eq_2 a)
def y8l{r}(a b):=evS (z61 · a b) r (z61.eq_2 a b)
def ynz{r}(a b):=evS (z5v · a b) r (z5v.eq_2 a b)
def ztp{r}(a b c):=evS (z1w · a b c) r (z1w.eq_2 a b c)
def zvt{r}(a b c):=evS (z8r · a b c) r (z8r.eq_2 a b c)
def yh2{r}(a):=evS (zdt · a) r (zdt.eq_2 a)
def yo6{r}(a):=evS (zdc · a) r (zdc.eq_2 a)
def yai{r}(a b):=evS (z5h · a b) r (z5h.eq_2 a b)
def yay{r}(a b):=evS (z0t · a b) r (z0t.eq_2 a b)
def ybe{r}(a b):=evS (z1y · a b) r (z1y.eq_2 a b)
def zue{r}(a b):=evS (z8u · a b) r (z8u.eq_2 a b)
def yie{r}(a):=evS (z2u · a) r (z2u.eq_2 a)
def y8q{r}(a b):=evS (z6t · a b) r (z6t.eq_2 a b)
def yt3{r}(a):=evS (zey · a) r (zey.eq_2 a)
def yer{r}(a b):=evS (zah · a b) r (zah.eq_2 a b)
def yfe{r}(a):=evS (zac · a) r (zac.eq_2 a)
def ydw{r}(a):=evS (zc6 · a) r (zc6.eq_2 a)
def zph{r}(a b):=evS (z1g · a b) r (z1g.eq_2 a b)
def y7h{r}(a b):=evS (z4q · a b) r (z4q.eq_2 a b)
def y6e{r}(a):=evS (z4y · a) r (z4y.eq_2 a)
def zim{r}(a b):=evS (z83 · a b) r (z83.eq_2 a b)
def zp6{r}(a b):=evS (kzv · a b) r (kzv.eq_2 a b)
def y65{r}(a):=evS (z4u · a) r (z4u.eq_2 a)
def zos{r}(a b):=evS (z3b · a b) r (z3b.eq_2 a b)
def zpa{r}(a b c):=evS (z0h · a b c) r (z0h.eq_2 a b c)
def yeu{r}(a):=evS (zcd · a) r (zcd.eq_2 a)
def zq4{r}(a b):=evS (z3c · a b) r (z3c.eq_2 a b)
def zp1{r}(a b c):=evS (z54 · a b c) r (z54.eq_2 a b c)
def zpp{r}(a b):=evS (z36 · a b) r (z36.eq_2 a b)
def zpj{r}(a b c d):=evS (z39 · a b c d) r (z39.eq_2 a b c d)
def zpm{r}(a b c d):=evS (z2s · a b c d) r (z2s.eq_2 a b c d)
def zoz{r}(a b c d e f):=evS (z33 · a b c d e f) r (z33.eq_2 a b c d e f)
def zou{r}(a b c d e f):=evS (z2w · a b c d e f) r (z2w.eq_2 a b c d e f)
def yjt{r}(a):=evS (z9m · a) r (z9m.eq_2 a)
def zsq{r}(a b c):=evS (z6h · a b c) r (z6h.eq_2 a b c)
def yw2{r}(a b):=evS (zcu · a b) r (zcu.eq_2 a b)
def yk7{r}(a):=evS (zbs · a) r (zbs.eq_2 a)
def zsc{r}(a b):=evS (z63 · a b) r (z63.eq_2 a b)
def ykq{r}(a):=evS (z9o · a) r (z9o.eq_2 a)
def zrn{r}(a b c):=evS (z7d · a b c) r (z7d.eq_2 a b c)
def yga{r}(a b):=evS (zed · a b) r (zed.eq_2 a b)
def y8h{r}(a):=evS (z9x · a) r (z9x.eq_2 a)
def zmt{r}(a b):=evS (z30 · a b) r (z30.eq_2 a b)
def yac{r}(a):=evS (zba · a) r (zba.eq_2 a)
def znw{r}(a b):=evS (z3s · a b) r (z3s.eq_2 a b)
def znk{r}(a b):=evS (z26 · a b) r (z26.eq_2 a b)
def ymz{r}(a b):=evS (zd2 · a b) r (zd2.eq_2 a b)
def zvf{r}(a b c):=evS (z5b · a b c) r (z5b.eq_2 a b c)
def zto{r}(a b c d):=evS (z8v · a b c d) r (z8v.eq_2 a b c d)
def zuh{r}(a b c d):=evS (z8x · a b c d) r (z8x.eq_2 a b c d)
def yav{r}(a b):=evS (z5m · a b) r (z5m.eq_2 a b)
def zuk{r}(a b c):=evS (z8l · a b c) r (z8l.eq_2 a b c)
def yiq{r}(a):=evS (ze1 · a) r (ze1.eq_2 a)
def yf5{r}(a b):=evS (za6 · a b) r (za6.eq_2 a b)
def zop{r}(a b c):=evS (z52 · a b c) r (z52.eq_2 a b c)
def yhw{r}(a):=evS (zec · a) r (zec.eq_2 a)
def zrx{r}(a b c):=evS (z60 · a b c) r (z60.eq_2 a b c)
def zsd{r}(a b c d):=evS (z6q · a b c d) r (z6q.eq_2 a b c d)
def yl5{r}(a):=evS (zdb · a) r (zdb.eq_2 a)
def zut{r}(a b c):=evS (z7v · a b c) r (z7v.eq_2 a b c)
def zv9{r}(a b c d):=evS (z5c · a b c d) r (z5c.eq_2 a b c d)
def zvs{r}(a b c d e f):=evS (z8d · a b c d e f) r (z8d.eq_2 a b c d e f)
def ya2{r}(a b c d e):=evS (z8h · a b c d e) r (z8h.eq_2 a b c d e)
def zv7{r}(a b c d e f):=evS (z7s · a b c d e f) r (z7s.eq_2 a b c d e f)
def ygr{r}(a):=evS (zdz · a) r (zdz.eq_2 a)
def zr4{r}(a b c):=evS (z6f · a b c) r (z6f.eq_2 a b c)
def zs4{r}(a b c):=evS (z47 · a b c) r (z47.eq_2 a b c)
def zr2{r}(a b c d e f):=evS (z3y · a b c d e f) r (z3y.eq_2 a b c d e f)
def zsb{r}(a b c d e f g h):=evS (z71 · a b c d e f g h) r (z71.eq_2 a b c d e f g h)
def zso{r}(a b c d e):=evS (z44 · a b c d e) r (z44.eq_2 a b c d e)
def ygm{r}(a):=evS (zdo · a) r (zdo.eq_2 a)
def zre{r}(a b):=evS (z78 · a b) r (z78.eq_2 a b)
def zqv{r}(a b c d):=evS (z79 · a b c d) r (z79.eq_2 a b c d)
def zl4{r}(a):=evS (z4d · a) r (z4d.eq_2 a)
def ysc{r}(a b):=evS (z5y · a b) r (z5y.eq_2 a b)
def ydu{r}(a b):=evS (zai · a b) r (zai.eq_2 a b)
def y8a{r}(a b):=evS (z6a · a b) r (z6a.eq_2 a b)
def y75{r}(a b):=evS (z56 · a b) r (z56.eq_2 a b)
def y0y{r}(a b):=evS (z34 · a b) r (z34.eq_2 a b)
def y6b{r}(a b):=evS (z55 · a b) r (z55.eq_2 a b)
def yf7{r}(a b):=evS (za3 · a b) r (za3.eq_2 a b)
def yn6{r}(a b):=evS (zfl · a b) r (zfl.eq_2 a b)
def zqg{r}(a):=evS (kzs · a) r (kzs.eq_2 a)
def z45{α}{x y:List α}(h:x.length+y.length<=268435456):ext x y=some (x++y):=by simp_all[ext,zi7]
def I64(x:Int):Prop := -9223372036854775808<=x∧x<=9223372036854775807
def yit{x}(h:I64 x):Ev (λn=>zd5 n x) (x.natAbs:Int):=by
 unfold I64 at h;rw[ymp];simp[Ev.pif,Ev.yz0,Qar]
 grind[wUn,wU]
def z02b:∀(b a:Nat),Ev (λn=>zae n (b:Int) (a:Int)) (Nat.gcd a b:Int):=by
 intro b
 induction b using Nat.strongRecOn with
 |ind b h=>
  intro a;rw[yeq];by_cases g:b=0
  simp_all[Ev.pif,Ev.yz0]
  have d:rem .u64 (a:Int) (b:Int)=some ((a % b:Nat):Int):=by
   simp_all[rem,Int.tmod_eq_emod_of_nonneg]
  rw[Ev.zz1 (by simpa using g),Ev.yz1 d]
  grind[Nat.mod_lt,Nat.gcd_comm,Nat.gcd_rec]
def z04c{a b:Nat}:Ev (λn=>zh4 n (a:Int) (b:Int)) (Nat.gcd a b:Int):=by
 rw[ysn];exact z02b b a
def rok(r:yz4):Bool:=decide (1<=r.den)&&decide (r.den<=1000000000)&&decide (r.num.natAbs<=1000000000)&&(Nat.gcd r.num.natAbs r.den.natAbs==1)
def zkh{r}:rok r=true↔1<=r.den∧r.den<=1000000000∧r.num.natAbs<=1000000000∧Nat.gcd r.num.natAbs r.den.natAbs=1:=by
 simp[rok,and_assoc]
def zra{r}(h:I64 r.num):Ev (λn=>z6p n r) (if rok r then 0 else 8):=by
 have d:∀b,Ev (λn=>z2h n b) (if b then 8 else 0):=λb=>by
  simp_all[y9g,Ev.pif,Ev.yz0]
 rw[yj3];simp[Ev.pif,Qar];split;refine(d _).to ?_;rw[Qbq rfl,Qbr];rw[zkh];omega;split;refine(d _).to ?_;rw[Qbq rfl,Qbr];rw[zkh];omega;rw[Ev.zz0 (yit h)];simp[Ev.pif,Qar];split;refine(d _).to ?_;rw[Qbq rfl,Qbr];rw[zkh];omega;rw[Ev.zz0 (yit h),wU (by omega)];have g:r.den=(r.den.natAbs:Int):=by omega
 rw[g,Ev.zz0 z04c];refine(d _).to ?_
 have:((((Nat.gcd r.num.natAbs r.den.natAbs:Nat):Int) != 1)=true)↔¬rok r=true:=by
  rw[zkh]
  grind
 by_cases i:rok r=true
 grind
 grind
def z077(a b:Int):Nat.gcd a.natAbs b.natAbs=Nat.gcd b.natAbs (a.tmod b).natAbs:=by
 grind[Int.natAbs_tmod,Nat.gcd_comm,Nat.gcd_rec]
def ymf:∀(m) (b a),b.natAbs=m->I64 a->I64 b->¬a = -9223372036854775808->¬b = -9223372036854775808->Ev (λn=>z4r n b a) (Nat.gcd a.natAbs b.natAbs:Int):=by
 intro m
 induction m using Nat.strongRecOn with
 |ind m i=>
  intro b a k l h q g;unfold I64 at l h;rw[y7f];by_cases d:b=0;subst d;simp only[Ev.pif,Ev.yz0,Qar];rw[Qbr (by simp)]
  grind[wI]
  have j:rem .i64 a b=some (a.tmod b):=by unfold rem;rw[Qbr d]
  have o:(a.tmod b).natAbs<b.natAbs:=by rw[Int.natAbs_tmod];exact Nat.mod_lt _ (by omega)
  rw[Ev.zz1 (by simpa using d),Ev.yz1 j];have:=i _ (by rw[<-k];exact o) (a.tmod b) b rfl h (by unfold I64;omega) g (by omega);rw[z077 a b];exact this
def yte{a b}(i:I64 a)(h:I64 b)(g:¬a = -9223372036854775808)(d:¬b = -9223372036854775808):Ev (λn=>zcb n a b) (Nat.gcd a.natAbs b.natAbs:Int):=by
 rw[yey];exact ymf _ b a rfl i h g d
def yv6{r}:Ev (λn=>zdu n r) (if rok r then 0 else 8):=by
 have d:∀b,Ev (λn=>z0z n b) (if b then 8 else 0):=λb=>by
  simp_all[y9a,Ev.pif,Ev.yz0]
 rw[yim];simp[Ev.pif,Qar];split;refine(d _).to ?_;rw[Qbq rfl,Qbr];rw[zkh];omega;split;refine(d _).to ?_;rw[Qbq rfl,Qbr];rw[zkh];omega;split;refine(d _).to ?_;rw[Qbq rfl,Qbr];rw[zkh];omega;split;refine(d _).to ?_;rw[Qbq rfl,Qbr];rw[zkh];omega;rw[Ev.zz0 (yte (by unfold I64;omega) (by unfold I64;omega) (by omega) (by omega))];refine(d _).to ?_
 have:((((Nat.gcd r.num.natAbs r.den.natAbs:Nat):Int) != 1)=true)↔¬rok r=true:=by
  rw[zkh]
  grind
 by_cases g:rok r=true
 grind
 grind
def wfR(r:yz4):Prop:=I64 r.num∧I64 r.den
def fdiv(a b:yz4):Int×Int:=(a.num * b.den,a.den * b.num)
def yxe{r}(h:rok r=true):(-1000000000<=r.num∧r.num<=1000000000)∧(-1000000000<=r.den∧r.den<=1000000000)∧1<=r.den:=by
 rw[zkh]at h;omega
def ya3{P:kz1->Prop}(h:∀v:kz1,(∀x,x∈v.list->P x)->P v)(v):P v:=h v λx b=>ya3 h x
termination_by v
decreasing_by exact kz1.y9k b
mutual
def zfv:kz1->Nat
 |⟨k,_,_,_,l⟩=>if k=4 then 1+z97 l else 1
def z97:z3m->Nat
 |[]=>0
 |x::l=>zfv x+z97 l
end
mutual
def zhz:kz1->Nat
 |⟨k,_,_,_,l⟩=>if k=4 then max 1 (zni l)else 1
def zni:z3m->Nat
 |[]=>0
 |x::l=>max (1+zhz x) (zni l)
end
theorem zlp(v):zfv v=if v.kind=4 then 1+z97 v.list else 1:=by cases v;rw[zfv]
theorem y1p(v):zhz v=if v.kind=4 then max 1 (zni v.list)else 1:=by cases v;rw[zhz]
def z0bd{l:z3m}{x}(h:x∈l):x.size<=(l.map kz1.size).sum:=by
 induction l with
 |nil=>cases h
 |cons y l b=>
  rcases Qbf.1 h with rfl|h
  simp
  grind
theorem zdr(v:kz1):(v.list.map kz1.size).sum+v.str.length+4<=v.size:=by rw[kz1.size_eq];omega
def zrb{v x:kz1}(h:x∈v.list):x.size<=v.size:=by have:=z0bd h;have:=zdr v;omega
def zmw(l:z3m):l.length<=(l.map kz1.size).sum:=by
 induction l with
 |nil=>simp
 |cons x l b=>have:=zdr x;simp;omega
theorem y2r:∀v:kz1,zfv v<=v.size:=ya3 λv d=>by
 have:∀l:z3m,(∀x,x∈l->x∈v.list)->z97 l<=(l.map kz1.size).sum:=λl=>by
  induction l with
  |nil=>intro _;simp[z97]
  |cons x l b=>
   grind[z97]
 grind[zdr,zlp]
def yy7:∀v:kz1,zhz v<=zfv v:=ya3 λv d=>by
 have:∀l:z3m,(∀x,x∈l->x∈v.list)->zni l<=1+z97 l:=λl=>by
  induction l with
  |nil=>intro _;simp[zni]
  |cons x l b=>
   grind[z97,zni]
 grind[zlp,y1p]
def yk0(l):z97 l<=(l.map kz1.size).sum:=by
 induction l with
 |nil=>simp[z97]
 |cons x l b=>grind[y2r,z97]
def ymw:∀v:kz1,v.size<=8388608->Ev (λn=>z7y n v) ((zfv v:Int),(zhz v:Int)):=ya3 λv l C=>by
 have A:∀d p,Ev (λn=>z3r n d p) (p,d):=λd p=>by rw[y4m,Ev.yz0]
 have w:=zdr v;have hlen:=zmw v.list
 have loop:∀k,k<=v.list.length->∀d p:Nat,p+z97 (v.list.drop k)<=8388609->d<=8388609->Ev (λn=>z3q n (k:Int) (d:Int) (p:Int) v.list (v.list.length:Int)) (((p+z97 (v.list.drop k):Nat):Int),((max d (zni (v.list.drop k)):Nat):Int)) :=
  down (λd p g m=>by
   simp_all[znv,Ev.kz0,z97,zni]) λk b i d p g m=>by
   have j:=Qad b;have u:=zrb j;rw[<-Qah (h:=b)]at g ⊢;simp[z97,zni]at g ⊢;have y:=y2r v.list[k];have z:=yy7 v.list[k];rw[znv,Ev.zz1 (by simpa using b),Ev.yz1 (zz5 b),kz1.kz3,Ev.zz0 (l _ j (by omega)),wI (x:=_+1) (by omega),wI (x:=(zhz _:Int)+1) (by omega),wI (x:=(p:Int)+_) (by omega)];have s:(k:Int)+1=((k+1:Nat):Int):=by omega
   have q:(zhz v.list[k]:Int)+1=((1+zhz v.list[k]:Nat):Int):=by omega
   have o:(p:Int)+(zfv v.list[k]:Int)=((p+zfv v.list[k]:Nat):Int):=by omega
   rw[s,q,o,yg5];refine(i (max d (1+zhz v.list[k])) (p+zfv v.list[k]) (by omega) (by omega)).to ?_
   congr 2 <;> omega
 rw[yap];by_cases b:v.kind=4;rw[Ev.zz1 (by simpa using b)];have B:=yk0 v.list;have:=loop 0 (Qbo _) 1 1 (by simp;omega) (by omega)
 simp_all[zlp,y1p]
 simp_all[Ev.kz0,zlp,y1p]
def ych:∀v:kz1,v.size<=8388608->Ev (λn=>z9g n v) (zfv v:Int):=ya3 λv m z=>by
 have u:=zdr v;have hlen:=zmw v.list;rw[yjo,kz1.kz3,zlp];by_cases b:v.kind=4;rw[Qbq b];have d:=by simpa using b
 have loop:∀k,k<=v.list.length->∀p:Nat,p+z97 (v.list.drop k)<=8388609->Ev (λn=>z77 n (k:Int) (p:Int) v) ((p+z97 (v.list.drop k):Nat):Int) :=
  down (λp g=>by
   simp_all[zjx,Ev.kz0,zk3,Ev.yz0,z97]) λk b i p g=>by
   have j:=Qad b;have s:=zrb j;rw[<-Qah (h:=b)]at g ⊢;simp[z97]at g ⊢;have w:=y2r v.list[k];rw[zjx,Ev.zz1 (by simpa using b),d,kz1.kz3,zk3,Ev.zz1 (by rfl),Ev.yz1 (zz5 b),kz1.kz3,Ev.zz0 (m _ j (by omega)),wI (x:=_+1) (by omega),wI (x:=(p:Int)+_) (by omega)];have q:(k:Int)+1=((k+1:Nat):Int):=by omega
   have o:(p:Int)+(zfv v.list[k]:Int)=((p+zfv v.list[k]:Nat):Int):=by omega
   rw[q,o,kz1.kz3];refine(i (p+zfv v.list[k]) (by omega)).to ?_
   congr 1;omega
 have y:=yk0 v.list;exact loop 0 (Qbo _) 1 (by simp;omega);have d:(v.kind==4)=false:=by simpa using b
 have l:Ev (λn=>z6o n 0 1 false v) 1:=by rw[zk3,Ev.kz0 (by rfl),Ev.yz0]
 rw[zjx,d,kz1.kz3,Ev.pif];split <;> exact l
def z01e:∀v:kz1,v.size<=8388608->Ev (λn=>zdf n v) (zhz v:Int):=ya3 λv l z=>by
 have u:=zdr v;have hlen:=zmw v.list;rw[ymu,kz1.kz3,y1p];by_cases b:v.kind=4;rw[Qbq b];have d:=by simpa using b
 have loop:∀k,k<=v.list.length->∀p:Nat,p<=8388609->Ev (λn=>z8k n (k:Int) (p:Int) v) ((max p (zni (v.list.drop k)):Nat):Int) :=
  down (λp m=>by
   simp_all[zlj,Ev.kz0,zlg,Ev.yz0,zni]) λk b g p m=>by
   have i:=Qad b;have s:=zrb i;rw[<-Qah (h:=b)];simp[zni];have w:=y2r v.list[k];have y:=yy7 v.list[k];rw[zlj,Ev.zz1 (by simpa using b),d,kz1.kz3,zlg,Ev.zz1 (by rfl),Ev.yz1 (zz5 b),kz1.kz3,Ev.zz0 (l _ i (by omega)),wI (x:=_+1) (by omega),wI (x:=1+_) (by omega)];have q:(k:Int)+1=((k+1:Nat):Int):=by omega
   have o:1+(zhz v.list[k]:Int)=((1+zhz v.list[k]:Nat):Int):=by omega
   rw[q,o,kz1.kz3,yg5];refine(g (max p (1+zhz v.list[k])) (by omega)).to ?_
   congr 1;omega
 exact loop 0 (Qbo _) 1 (by omega);have d:(v.kind==4)=false:=by simpa using b
 have j:Ev (λn=>z8w n 0 1 false v) 1:=by rw[zlg,Ev.kz0 (by rfl),Ev.yz0]
 rw[zlj,d,kz1.kz3,Ev.pif];split <;> exact j
def v0:kz1:=⟨0,⟨0,0⟩,false,[],[]⟩
def zvm(c:UInt8):Bool:=decide (32<=c.toNat)&&decide (c.toNat<=126)
def nul(v:yz4):Bool:=v.num==0&&v.den==0
mutual
def zeg:kz1->Bool
 |⟨k,q,t,s,l⟩ =>
  if k=1 then rok q&&(!t&&(s.isEmpty&&l.isEmpty))
  else if k=2 then nul q&&(s.isEmpty&&l.isEmpty)
  else if k=3 then nul q&&(!t&&(l.isEmpty&&(decide (s.length<=60)&&s.all zvm)))
  else if k=4 then nul q&&(!t&&(s.isEmpty&&zna l))
  else false
def zna:z3m->Bool
 |[]=>true
 |x::l=>zeg x&&zna l
end
def ze8(v):zeg v =
 if v.kind=1 then rok v.num&&(!v.truth&&(v.str.isEmpty&&v.list.isEmpty))
 else if v.kind=2 then nul v.num&&(v.str.isEmpty&&v.list.isEmpty)
 else if v.kind=3 then nul v.num&&(!v.truth&&(v.list.isEmpty&&(decide (v.str.length<=60)&&v.str.all zvm)))
 else if v.kind=4 then nul v.num&&(!v.truth&&(v.str.isEmpty&&zna v.list))
 else false:=by cases v;rw[zeg]
def z02c(l):zna l=l.all zeg:=by
 induction l with
 |nil=>rfl
 |cons x l b=>simp[zna,b]
def zbt(v:kz1):Int:=if 100<zfv v∨6<zhz v then 4 else if zeg v then 0 else 8
def z0fk{v:kz1}(h:v.wf):wfR v.num:=by
 grind[kz1.z5s,yz4.z5s,wfR,I64,IntKind.min,IntKind.max,IntKind.signed,IntKind.bits]
def z0cy{v:kz1}(h:v.wf):∀x∈v.list,x.wf:=by
 rw[kz1.z5s]at h;exact h.2.2.2.2
def zly{v}:Ev (λn=>z3e n v) (nul v.num&&(!v.truth&&(v.str.isEmpty&&v.list.isEmpty))):=by
 rw[yc6];have⟨k,⟨p,q⟩,t,s,l⟩:=v;simp only[Ev.pif,Ev.yz0,nul,Bool.and_true];cases p==0 <;> cases q==0 <;> cases t <;> cases s <;> cases l <;> simp <;> omega
def z00f:∀v:kz1,v.wf->v.size<=8388608->Ev (λn=>zd8 n v) (zeg v):=ya3 λv q m z=>by
 have y:=zdr v;have hlen:=zmw v.list;rw[ylw,ze8];by_cases j:v.kind=1;rw[Qbq j,Ev.zz1 (by simpa using j),Ev.zz0 (zra (z0fk m).1)];cases A:rok v.num
 simp_all[Ev.zz1,Ev.yz0]
 rw[Ev.kz0 (by rfl)];exact zly;rw[Qbr j,Ev.kz0 (by simpa using j)];by_cases i:v.kind=2;rw[Qbq i,Ev.zz1 (by simpa using i)];exact zly;rw[Qbr i,Ev.kz0 (by simpa using i)];by_cases g:v.kind=3;rw[Qbq g,Ev.zz1 (by simpa using g)];by_cases s:v.str.length<=60;rw[Ev.kz0 (by simp;omega),kz1.kz3]
 have loop:∀w:kz1,∀k,k<=v.str.length->Ev (λn=>z7q n (k:Int) v w) ((v.str.drop k).all zvm&&(nul w.num&&(!w.truth&&(w.str.isEmpty&&w.list.isEmpty)))):=λw=>
  down (by
   simp_all[zu7,Ev.kz0,zly]) λk b d=>by
   have bad:Ev (λn=>z8n n (k:Int) true v w) false:=by rw[ztt,Ev.zz1 (by rfl),Ev.yz0]
   rw[<-Qah (h:=b),List.all_cons];rw[zu7,Ev.zz1 (by simpa using b),Ev.yz1 (zz5 b),kz1.kz3,kz1.kz3];by_cases D:v.str[k].toNat<32;rw[Ev.zz1 (by simp;omega)]
   grind[zvm]
   rw[Ev.kz0 (by simp;omega),Ev.yz1 (zz5 b)];by_cases C:v.str[k].toNat>126
   grind[zvm]
   rw[show decide ((v.str[k].toNat:Int)>126)=false by simp;omega,ztt,Ev.kz0 (by rfl),wrk (by omega),kz1.kz3,kz1.kz3]
   simp_all[zvm]
 refine(loop ⟨v.kind,v.num,v.truth,[],v.list⟩ 0 (Qbo _)).to ?_;simp[List.isEmpty_nil]
 grind
 rw[Ev.zz1 (by simp;omega),Ev.yz0];simp[s];rw[Qbr g,Ev.kz0 (by simpa using g)];by_cases o:v.kind=4;rw[Qbq o,Ev.zz1 (by simpa using o)]
 have loop:∀w:kz1,∀k,k<=v.list.length->Ev (λn=>z8f n (k:Int) v.list (v.list.length:Int) w) (zna (v.list.drop k)&&(nul w.num&&(!w.truth&&(w.str.isEmpty&&w.list.isEmpty)))):=λw=>
  down (by
   simp_all[zv8,Ev.kz0,zna,zly]) λk b d=>by
   have l:=Qad b;have u:=zrb l;rw[<-Qah (h:=b),zna];rw[zv8,Ev.zz1 (by simpa using b),Ev.yz1 (zz5 b),kz1.kz3,Ev.zz0 (q _ l (z0cy m _ l) (by omega))];cases B:zeg v.list[k]
   simp_all[Ev.zz1,Ev.yz0]
   rw[Ev.kz0 (by rfl),wrk (by omega),kz1.kz3,Bool.true_and];exact d
 refine(loop ⟨v.kind,v.num,v.truth,v.str,[]⟩ 0 (Qbo _)).to ?_;simp[Bool.and_true]
 grind
 simp_all[Ev.kz0,Ev.yz0]
def zrj{v}(h:v.wf)(g:v.size<=8388608):Ev (λn=>z9f n v) (zbt v):=by
 have d:∀b,Ev (λn=>z6l n b v) (if b then 4 else if zeg v then 0 else 8):=λb=>by
  rw[y90];cases b;rw[Ev.kz0 (by rfl),kz1.kz3,Ev.zz0 (z00f v h g)];cases zeg v
  simp_all[Ev.zz1,Ev.yz0]
  simp_all[Ev.kz0,Ev.yz0]
  simp_all[Ev.zz1,Ev.yz0]
 rw[ygf,kz1.kz3,Ev.zz0 (ymw v g)];unfold zbt;simp only[Ev.pif];by_cases j:100<zfv v;rw[Qbq (by simp;omega),Qbq (.inl j)];exact d true;rw[Qbr (by simp;omega)];by_cases i:6<zhz v;rw[Qbq (.inr i),show decide ((zhz v:Int)>6)=true by simp;omega];exact d true;rw[Qbr (by omega),show decide ((zhz v:Int)>6)=false by simp;omega];exact d false
def z00w:∀v:kz1,v.size<=8388608->Ev (λn=>zd4 n v) (zeg v):=ya3 λv C G=>by
 have F:=zdr v;have hlen:=zmw v.list;rw[yli,ze8];have j:((v.num.num==0)&&((v.num.den==0)&&true))=nul v.num:=by simp[nul]
 have i:((v.str.length:Int)==0)=v.str.isEmpty:=by cases v.str <;> simp;omega
 have l:((v.list.length:Int)==0)=v.list.isEmpty:=by cases v.list <;> simp;omega
 have y:decide ((v.list.length:Int)>0) = !v.list.isEmpty:=by cases v.list <;> simp
 have z:decide ((v.str.length:Int)>0) = !v.str.isEmpty:=by cases v.str <;> simp
 simp only[j,i,l,y,z];by_cases s:v.kind=1;rw[Qbq s,Ev.zz1 (by simpa using s),Ev.zz0 yv6];cases u:rok v.num <;> cases B:v.truth <;> cases w:v.str.isEmpty <;> simp[Ev.pif,Ev.yz0]
 rw[Qbr s,Ev.kz0 (by simpa using s)];by_cases q:v.kind=2;rw[Qbq q,Ev.zz1 (by simpa using q)];cases u:nul v.num <;> cases w:v.str.isEmpty <;> simp[Ev.pif,Ev.yz0]
 rw[Qbr q,Ev.kz0 (by simpa using q)];by_cases o:v.kind=3;rw[Qbq o,Ev.zz1 (by simpa using o)];have bad:Ev (λn=>z25 n true v) false:=by rw[zuf,Ev.zz1 (by rfl),Ev.yz0]
 have loop:∀k,k<=v.str.length->Ev (λn=>z8j n (k:Int) v) ((v.str.drop k).all zvm) :=
  down (by
   rw[ztv,Ev.kz0 (by simp),Ev.yz0]
   simp) λk b d=>by
   have bad:Ev (λn=>z7x n (k:Int) true v) false:=by rw[zty,Ev.zz1 (by rfl),Ev.yz0]
   rw[<-Qah (h:=b),List.all_cons];rw[ztv,Ev.zz1 (by simpa using b),Ev.yz1 (zz5 b),kz1.kz3];by_cases K:v.str[k].toNat<32;rw[Ev.zz1 (by simp;omega)];refine bad.to ?_;have:zvm v.str[k]=false:=by simp[zvm];omega
   rw[this];rfl;rw[Ev.kz0 (by simp;omega),Ev.yz1 (zz5 b)];by_cases J:v.str[k].toNat>126;rw[show decide ((v.str[k].toNat:Int)>126)=true by simp;omega];refine bad.to ?_;have:zvm v.str[k]=false:=by simp[zvm];omega
   rw[this];rfl;rw[show decide ((v.str[k].toNat:Int)>126)=false by simp;omega,zty,Ev.kz0 (by rfl),wrk (by omega),kz1.kz3];have:zvm v.str[k]=true:=by simp[zvm];omega
   rw[this,Bool.true_and];exact d
 have good:Ev (λn=>z25 n false v) (v.str.all zvm):=by
  rw[zuf,Ev.kz0 (by rfl),kz1.kz3];simpa using loop 0 (Qbo _)
 rw[kz1.kz3];cases u:nul v.num;rw[Ev.zz1 (by rfl)];exact bad;rw[Ev.kz0 (by rfl)];cases B:v.truth;rw[Ev.kz0 (by rfl)];cases D:v.list.isEmpty;rw[Ev.zz1 (by rfl)];exact bad;rw[Ev.kz0 (by rfl)];by_cases g:v.str.length<=60;rw[show decide ((v.str.length:Int)>60)=false by simp;omega];simpa[g]using good;rw[show decide ((v.str.length:Int)>60)=true by simp;omega];simpa[g]using bad;rw[Ev.zz1 (by rfl)];exact bad
 rw[Qbr o,Ev.kz0 (by simpa using o)];by_cases m:v.kind=4;rw[Qbq m,Ev.zz1 (by simpa using m)];have bad:Ev (λn=>z3i n true v) false:=by rw[zu4,Ev.zz1 (by rfl),Ev.yz0]
 have loop:∀k,k<=v.list.length->Ev (λn=>z89 n (k:Int) v) (zna (v.list.drop k)) :=
  down (by
   rw[zun,Ev.kz0 (by simp),Ev.yz0]
   simp[zna]) λk b d=>by
   have A:=Qad b;have E:=zrb A;rw[<-Qah (h:=b),zna];rw[zun,Ev.zz1 (by simpa using b),Ev.yz1 (zz5 b),kz1.kz3,Ev.zz0 (C _ A (by omega))];cases I:zeg v.list[k];rw[Ev.zz1 (by rfl),Ev.yz0];rfl;rw[Ev.kz0 (by rfl),wrk (by omega),kz1.kz3,Bool.true_and];exact d
 have good:Ev (λn=>z3i n false v) (zna v.list):=by
  rw[zu4,Ev.kz0 (by rfl),kz1.kz3];simpa using loop 0 (Qbo _)
 rw[kz1.kz3];cases u:nul v.num;rw[Ev.zz1 (by rfl)];exact bad;rw[Ev.kz0 (by rfl)];cases B:v.truth;rw[Ev.kz0 (by rfl)];cases D:v.str.isEmpty;exact bad;simpa using good;rw[Ev.zz1 (by rfl)];exact bad;rw[Qbr m,Ev.kz0 (by simpa using m),Ev.yz0]
def yv5{v}(g:v.size<=8388608):Ev (λn=>zds n v) (zbt v):=by
 have d:∀b,Ev (λn=>z61 n b v) (if b then 4 else if zeg v then 0 else 8):=λb=>by
  rw[y8l];cases b;rw[Ev.kz0 (by rfl),kz1.kz3,Ev.zz0 (z00w v g)];cases zeg v
  simp_all[Ev.zz1,Ev.yz0]
  simp_all[Ev.kz0,Ev.yz0]
  simp_all[Ev.zz1,Ev.yz0]
 rw[yh0,kz1.kz3,Ev.zz0 (ych v g)];unfold zbt;by_cases i:100<zfv v;rw[Ev.zz1 (by simp;omega),Qbq (.inl i)];exact d true;rw[Ev.kz0 (by simp;omega),Ev.zz0 (z01e v g)];by_cases h:6<zhz v;rw[Qbq (.inr h),show decide ((zhz v:Int)>6)=true by simp;omega];exact d true;rw[Qbr (by omega),show decide ((zhz v:Int)>6)=false by simp;omega];exact d false
theorem vext{a b:kz1}(z:a.kind=b.kind)(y:a.num.num=b.num.num)(w:a.num.den=b.num.den)(u:a.truth=b.truth)(o:a.str=b.str)(n:a.list=b.list):a=b:=by
 have⟨k,⟨p,q⟩,t,s,l⟩:=a;have⟨m,⟨i,h⟩,d,g,j⟩:=b
 simp_all
def yuj{α x y}{l m:List α}:eqB (x::l) (y::m)=(eqB x y&&eqB l m):=by
 cases h:(eqB x y&&eqB l m)
 grind[z7e]
 simp_all[zhu]
def yhs:∀a b:kz1,a.size<=8388608->Ev (λn=>z4f n a b) (eqB a b):=ya3 (P:=λa=>∀b:kz1,a.size<=8388608->Ev (λn=>z4f n a b) (eqB a b)) λa q b z=>by
 have y:=zdr a;have hlen:=zmw a.list;have bad:a≠b->Ev (λn=>z1s n true b a) (eqB a b):=λh=>by simp_all[zvq,Ev.zz1,Ev.yz0,z7e]
 rw[ylg,kz1.kz3,kz1.kz3];by_cases o:a.kind=b.kind
 case neg=>rw[Ev.zz1 (by simpa using o)];grind
 rw[Ev.kz0 (by simpa using o)];by_cases u:a.num.num=b.num.num∧a.num.den=b.num.den
 case neg=>rw[Ev.zz1 (by simp;omega)];grind
 rw[Ev.kz0 (by simp[u])];by_cases m:a.truth=b.truth
 case neg=>rw[Ev.zz1 (by simpa using m)];grind
 rw[Ev.kz0 (by simp[m])];by_cases l:a.str=b.str
 case neg=>rw[Ev.zz1 (by simpa using l)];grind
 rw[Ev.kz0 (by simp[l])];by_cases s:a.list.length=b.list.length
 case neg=>rw[show((a.list.length:Int) != (b.list.length:Int))=true by simp;omega];grind
 rw[show((a.list.length:Int) != (b.list.length:Int))=false by simp;omega,zvq,Ev.kz0 (by rfl),kz1.kz3,kz1.kz3]
 have loop:∀k,k<=a.list.length->Ev (λn=>z7z n (k:Int) (a.list.length:Int) b a) (eqB (a.list.drop k) (b.list.drop k)) :=
  down (by
   rw[zud,Ev.kz0 (by simp),Ev.yz0,List.drop_length,s,List.drop_length,y30]) λk g i=>by
   have d:k<b.list.length:=by omega
   have j:=Qad g;have w:=zrb j;rw[<-Qah (h:=g),<-Qah (h:=d),yuj];rw[zud,Ev.zz1 (by simpa using g),Ev.yz1 (zz5 g),Ev.yz1 (zz5 d),kz1.kz3,kz1.kz3,Ev.zz0 (q _ j _ (by omega))];cases A:eqB a.list[k] b.list[k]
   simp_all[Ev.zz1,Ev.yz0]
   rw[Ev.kz0 (by rfl),wrk (by omega),kz1.kz3,kz1.kz3,Bool.true_and];exact i
 refine(loop 0 (Qbo _)).to ?_
 grind[vext,z7e]
def z02g:∀a b:kz1,a.size<=8388608->Ev (λn=>z5v n a b) (eqB a b):=ya3 (P:=λa=>∀b:kz1,a.size<=8388608->Ev (λn=>z5v n a b) (eqB a b)) λa q b z=>by
 have y:=zdr a;have hlen:=zmw a.list;have bad:a≠b->Ev (λn=>z1w n true b a) (eqB a b):=λh=>by simp_all[ztp,Ev.zz1,Ev.yz0,z7e]
 rw[ynz,kz1.kz3,kz1.kz3];by_cases o:a.kind=b.kind
 case neg=>rw[Ev.zz1 (by simpa using o)];grind
 rw[Ev.kz0 (by simpa using o)];by_cases u:a.num.num=b.num.num∧a.num.den=b.num.den
 case neg=>rw[Ev.zz1 (by simp;omega)];grind
 rw[Ev.kz0 (by simp[u])];by_cases m:a.truth=b.truth
 case neg=>rw[Ev.zz1 (by simpa using m)];grind
 rw[Ev.kz0 (by simp[m])];by_cases l:a.str=b.str
 case neg=>rw[Ev.zz1 (by simpa using l)];grind
 rw[Ev.kz0 (by simp[l])];by_cases s:a.list.length=b.list.length
 case neg=>rw[show((a.list.length:Int) != (b.list.length:Int))=true by simp;omega];grind
 rw[show((a.list.length:Int) != (b.list.length:Int))=false by simp;omega,ztp,Ev.kz0 (by rfl),kz1.kz3,kz1.kz3]
 have loop:∀k,k<=a.list.length->Ev (λn=>z8r n (k:Int) b a) (eqB (a.list.drop k) (b.list.drop k)) :=
  down (by
   rw[zvt,Ev.kz0 (by simp),Ev.yz0,List.drop_length,s,List.drop_length,y30]) λk g i=>by
   have d:k<b.list.length:=by omega
   have j:=Qad g;have w:=zrb j;rw[<-Qah (h:=g),<-Qah (h:=d),yuj];rw[zvt,Ev.zz1 (by simpa using g),Ev.yz1 (zz5 g),Ev.yz1 (zz5 d),kz1.kz3,kz1.kz3,Ev.zz0 (q _ j _ (by omega))];cases A:eqB a.list[k] b.list[k]
   simp_all[Ev.zz1,Ev.yz0]
   rw[Ev.kz0 (by rfl),wrk (by omega),kz1.kz3,kz1.kz3,Bool.true_and];exact i
 refine(loop 0 (Qbo _)).to ?_
 grind[vext,z7e]
theorem ztl{α:Type}{l:List α}{k}(h):l.take k++[l[k]]=l.take (k+1):=by
 simp_all
def yvc:∀v:kz1,v.size<=8388608->∀d:Int,∃b,Ev (λn=>zbn n v d) b:=ya3 λv m u d=>by
 have s:=zdr v;have hlen:=zmw v.list
 have loop:∀k,k<=v.list.length->∀d:Int,∃b,Ev (λn=>z6c n (k:Int) d v) b :=
  down (λd=>⟨false,by rw[zs6,Ev.kz0 (by simp),Ev.yz0]⟩) λk h i d=>by
   have j:=Qad h;have q:=zrb j;have⟨b,o⟩:=m _ j (by omega) (IntKind.i64.wrap (d-1));have⟨c,l⟩:=i d;refine⟨if b then true else c,?_⟩;rw[zs6,Ev.zz1 (by simpa using h),Ev.yz1 (zz5 h),kz1.kz3,Ev.zz0 o,kz1.kz3,wrk (by omega)];cases b;rw[Ev.kz0 (by rfl)];exact l
   simp_all[Ev.zz1,Ev.yz0]
 have g:∀d b,∃c,Ev (λn=>z42 n d b v) c:=λd b=>by
  cases b;have⟨c,l⟩:=loop 0 (Qbo _) d;exact⟨c,by simp_all[zsi,Ev.kz0]⟩
  simp_all[zsi,Ev.zz1,Ev.yz0]
 simp only[yh9,kz1.kz3,Ev.pif];split;exact g _ _;split;exact g _ _;exact g _ _
def yv1{v}(d:v.size<=8388608):∃b,Ev (λn=>zdw n v) b:=by
 have⟨b,g⟩:=yvc v d 10;cases b;exact⟨_,by rw[y2n,kz1.kz3,Ev.zz0 g,Ev.kz0 (by rfl),Ev.zz0 (ych v d)];exact Ev.yz0.2 rfl⟩;exact⟨true,by rw[y2n,kz1.kz3,Ev.zz0 g,Ev.zz1 (by rfl),Ev.yz0]⟩
theorem zvc{v}(h:zeg v=true)(b:v.kind=1):rok v.num=true:=by
 simp_all[ze8]
theorem yiy{v}(h:zeg v=true):∀x∈v.list,zeg x=true:=by
 rw[ze8]at h;split at h
 simp_all
 split at h
 simp_all
 split at h
 simp_all
 simp_all[z02c]
theorem zj0{v}(h:zbt v=0):zeg v=true∧zfv v<=100∧zhz v<=6:=by
 grind[zbt]
theorem zov{v}(h:zeg v=true):v.kind=1∨v.kind=2∨v.kind=3∨v.kind=4:=by
 rw[ze8]at h;by_cases d:v.kind=1;exact .inl d;by_cases b:v.kind=2;exact .inr (.inl b);by_cases i:v.kind=3;omega;by_cases g:v.kind=4;omega
 simp_all
def z0fd{v}(h:zeg v=true)(b:v.kind=4):v.num.num=0∧v.num.den=0∧v.truth=false∧v.str=[]:=by
 simp_all[ze8,nul]
def ygp{s:B8}(L:s.length<=8388608):Ev (λn=>zde n s) (zbq s):=by
 have l:∀q,Ev (λn=>z0v n true s q) false:=λq=>by rw[zua,Ev.zz1 (by rfl),Ev.yz0]
 have step:∀k (j:k<s.length) (r:Bool),((if k=0 then isLet s[k]else zav s[k])=false->r=false)->((if k=0 then isLet s[k]else zav s[k])=true->Ev (λn=>z1v n s (k+1)) r)->Ev (λn=>z1v n s k) r:=λk j r z I=>by
  have o:∀b,(if k=0 then isLet s[k]else zav s[k]) = !b->(b=false->(zel s k).2=1)->Ev (λn=>z0v n b s (k+(zel s k).2)) r:=λb y A=>by
   cases b;rw[zua,Ev.kz0 (by rfl),A rfl];exact I y;exact(l _).to (z y).symm
  rw[zuj,Ev.zz1 (by simpa using j)];by_cases d:s[k].toNat<128;have C:=ykv j d;rw[C]at o;rw[C]
  have B:∀b,b=isLet s[k]->Ev (λn=>z8c n (s[k].toNat:Int) (k:Int) b s (k+1)) r:=λb y=>by
   subst y;rw[zvz];cases u:isLet s[k];rw[Ev.zz1 (by rfl)];by_cases g:k=0;rw[Ev.zz1 (by simpa using g)];exact o true (by rw[Qbq g,u];rfl) (by simp);rw[Ev.kz0 (by simpa using g)];by_cases m:s[k].toNat=45;have:s[k]=45:=UInt8.toNat_inj.1 (by simpa using m);rw[Ev.kz0 (by simp;omega)];exact o false (by rw[Qbr g,zav,this];rfl) (λ_=>rfl)
   have w:(s[k]==45)=false:=by
    simp only[beq_eq_false_iff_ne];intro h;rw[h]at m;exact m rfl
   rw[Ev.zz1 (by simp;omega)];by_cases E:s[k].toNat<48;rw[Ev.zz1 (by simp;omega)];refine o true ?_ (by simp);rw[Qbr g,zav,u,w,zdi];simp;omega;rw[Ev.kz0 (by simp;omega)];refine o _ ?_ (λ_=>rfl);rw[Qbr g,zav,u,w,zdi];have K:decide (48<=s[k].toNat)=true:=by rw[Qar];omega
   have J:decide ((s[k].toNat:Int)>57) = !decide (s[k].toNat<=57):=by
    by_cases D:s[k].toNat<=57;rw[show decide (s[k].toNat<=57)=true by rw[Qar];exact D];simp only[Bool.not_true,decide_eq_false_iff_not];omega;rw[show decide (s[k].toNat<=57)=false by rw[decide_eq_false_iff_not];exact D];simp only[Bool.not_false,Qar];omega
   rw[K,J];simp;rw[Ev.kz0 (by rfl)];refine o false ?_ (λ_=>rfl);split;exact u;rw[zav,u];rfl
  simp only;by_cases E:97<=s[k].toNat;rw[Ev.zz1 (by simp;omega)];exact B _ (by simp[isLet,E];omega);rw[Ev.kz0 (by simp;omega)];exact B _ (by simp[isLet];omega);have⟨A,M⟩:=yox j (by omega);have F:isLet s[k]=false:=by simp[isLet];omega
  have nm:zav s[k]=false:=by
   rw[zav,F,zdi];have:(s[k]==45)=false:=by simp only[beq_eq_false_iff_ne];intro h;rw[h]at d;exact d (by decide)
   rw[this];simp;omega
  have bad:(if k=0 then isLet s[k]else zav s[k])=false:=by split <;> assumption
  rw[Ev.zz1 (by simp;omega),show decide (((zel s k).1:Int)<=122)=false by simp;omega,zvz,Ev.zz1 (by rfl)];by_cases g:k=0;rw[Ev.zz1 (by simpa using g)];exact(l _).to (z bad).symm;rw[Ev.kz0 (by simpa using g),Ev.zz1 (by simp;omega),Ev.kz0 (by simp;omega),show decide (((zel s k).1:Int)>57)=true by simp;omega];exact(l _).to (z bad).symm
 have rest:∀k,k<=s.length->1<=k->Ev (λn=>z1v n s k) ((s.drop k).all zav) :=
  down (Q:=λk=>1<=k->Ev (λn=>z1v n s k) ((s.drop k).all zav)) (λ_=>by
   rw[zuj,Ev.kz0 (by simp),Ev.yz0];simp) λk j G A=>by
   rw[<-Qah (h:=j),List.all_cons];refine step k j _ (λh =>?_) λh =>?_
   rw[Qbr (by omega)]at h;rw[h];rfl;rw[Qbr (by omega)]at h;rw[h];exact G (by omega)
 rw[ym1]
 cases s with
 |nil=>rw[Ev.zz1 (by rfl),zvx,Ev.zz1 (by rfl),Ev.yz0];rfl
 |cons c t=>
  rw[Ev.kz0 (by simp;omega),zvx];by_cases i:(c::t).length<=40;rw[Ev.kz0 (by simp at i ⊢;omega)];refine step 0 (by simp) _ (λh =>?_) λh =>?_
  rw[Qbq rfl]at h;simp only[List.getElem_cons_zero]at h;simp[zbq,h];rw[Qbq rfl]at h;simp only[List.getElem_cons_zero]at h;refine(rest 1 (by simp) (Qbp _)).to ?_;simp[zbq,h];intro _;simpa using i
  rw[Ev.zz1 (by simp at i ⊢;omega),Ev.yz0];simp[zbq];intro _ _;simpa using i
def yr3{c}:Ev (λn=>zcf n (c.toNat:Int)) (isLet c):=by
 rw[yej];simp[Ev.pif,Ev.yz0,isLet,Qar]
 grind
def yxx{c}:Ev (λn=>ze6 n (c.toNat:Int)) (zdi c):=by
 rw[yiw];simp[Ev.pif,Ev.yz0,zdi,Qar]
 grind
def z0f3{c:UInt8}:(((c.toNat:Nat):Int) != 45) = !(c==45):=by
 cases h:c==45 with
 |true=>simp_all
 |false=>
  have:c.toNat≠45:=λb=>by
   have:c=45:=UInt8.toNat_inj.1 (by simpa using b);subst this;cases h
  simp;omega
def ygh{s}(z:s.length<=8388608):Ev (λn=>zd0 n s) (zbq s):=by
 have bad:∀k:Int,Ev (λn=>z1x n s k true) false:=λk=>by rw[zv5,Ev.zz1 (by rfl),Ev.yz0]
 have step:∀k (d:k<s.length) (r:Bool),((if k=0 then isLet s[k]else zav s[k])=false->r=false)->((if k=0 then isLet s[k]else zav s[k])=true->Ev (λn=>z0u n ((k+1:Nat):Int) s) r)->Ev (λn=>z0u n (k:Int) s) r:=λk d r A o=>by
  have m:∀b,(if k=0 then isLet s[k]else zav s[k]) = !b->Ev (λn=>z1x n s (k:Int) b) r:=λb w=>by
   cases b;rw[zv5,Ev.kz0 (by rfl),wrk (by omega)];exact o w
   simp_all
  rw[zup,Ev.zz1 (by simpa using d),Ev.yz1 (zz5 d),Ev.zz0 yr3];cases u:isLet s[k];rw[Ev.zz1 (by rfl)];by_cases l:k=0
  simp_all[Ev.zz1]
  rw[Ev.kz0 (by simpa using l),Ev.yz1 (zz5 d),z0f3];cases i:s[k]==45;rw[Ev.zz1 (by rfl),Ev.yz1 (zz5 d),Ev.zz0 yxx];exact m _ (by rw[Qbr l,zav,u,i];simp)
  simp_all[Ev.kz0,zav]
  simp_all[Ev.kz0,zav]
 have j:∀r:Bool,r=(decide (1<=s.length)&&decide (s.length<=40))->Ev (λn=>z0u n (s.length:Int) s) r:=λr q=>by
  rw[zup,Ev.kz0 (by simp),q];by_cases g:1<=s.length;rw[Ev.zz1 (by simp;omega),Ev.yz0];simp[g];omega
  simp_all[Ev.kz0,Ev.yz0]
 have rest:∀k,k<=s.length->1<=k->Ev (λn=>z0u n (k:Int) s) ((s.drop k).all zav&&decide (s.length<=40)) :=
  down (Q:=λk=>1<=k->Ev (λn=>z0u n (k:Int) s) ((s.drop k).all zav&&decide (s.length<=40))) (λg=>by
   grind) λk d y g=>by
   rw[<-Qah (h:=d),List.all_cons];refine step k d _ (λh =>?_) λh =>?_
   rw[Qbr (by omega)]at h;rw[h];rfl
   grind
 rw[ym8]
 cases s with
 |nil=>exact j _ rfl
 |cons c t=>
  refine step 0 (by simp) _ (λh =>?_) λh =>?_
  rw[Qbq rfl]at h;grind[zbq];rw[Qbq rfl]at h;simp only[List.getElem_cons_zero]at h;refine(rest 1 (by simp) (Qbp _)).to ?_;simp[zbq,h]
def zin(s:B8):Bool:=zbq s&&(!(s==[116,114,117,101]) && !(s==[102,97,108,115,101]))
def z01l{s}(b:s.length<=8388608):Ev (λn=>zfd n s) (zin s):=by
 rw[ync,Ev.zz0 (ygp b)]
 simp_all[zin,Ev.pif,Ev.yz0]
def yxu{s}(b:s.length<=8388608):Ev (λn=>zdt n s) (zin s):=by
 rw[yh2,Ev.zz0 (ygh b)]
 simp_all[zin,Ev.pif,Ev.yz0]
def zwf{P:zz2->Prop}(h:∀e:zz2,(∀x,x∈e.args->P x)->P e)(e):P e:=h e λx b=>zwf h x
termination_by e
decreasing_by exact zz2.y9b b
mutual
def z5r:zz2->Nat
 |⟨_,_,_,l⟩=>1+zzo l
def zzo:kz9->Nat
 |[]=>0
 |x::l=>z5r x+zzo l
end
mutual
def zgh:zz2->Nat
 |⟨_,_,_,l⟩=>max 1 (zk0 l)
def zk0:kz9->Nat
 |[]=>0
 |x::l=>max (1+zgh x) (zk0 l)
end
theorem z8g(e):z5r e=1+zzo e.args:=by cases e;rw[z5r]
theorem y7n(e):zgh e=max 1 (zk0 e.args):=by cases e;rw[zgh]
def zu9{l:kz9}{x}(h:x∈l):x.size<=(l.map zz2.size).sum:=by
 induction l with
 |nil=>cases h
 |cons y l b=>
  rcases Qbf.1 h with rfl|h
  simp
  grind
theorem zbm(e:zz2):(e.args.map zz2.size).sum+e.name.length+e.value.size+4<=e.size:=by rw[zz2.size_eq];omega
def zml{e x:zz2}(h:x∈e.args):x.size<=e.size:=by have:=zu9 h;have:=zbm e;omega
theorem zc5(l:kz9):l.length<=(l.map zz2.size).sum:=by
 induction l with
 |nil=>simp
 |cons x l b=>have:=zbm x;simp;omega
theorem ztx:∀e:zz2,z5r e<=e.size:=zwf λe d=>by
 have:∀l:kz9,(∀x,x∈l->x∈e.args)->zzo l<=(l.map zz2.size).sum:=λl=>by
  induction l with
  |nil=>intro _;simp[zzo]
  |cons x l b=>
   grind[zzo]
 grind[zbm,z8g]
def yut:∀e:zz2,zgh e<=z5r e:=zwf λe d=>by
 have:∀l:kz9,(∀x,x∈l->x∈e.args)->zk0 l<=1+zzo l:=λl=>by
  induction l with
  |nil=>intro _;simp[zk0]
  |cons x l b=>
   grind[zzo,zk0]
 have:=this e.args λ_ h=>h
 rw[z8g,y7n];omega
def yi2(l):zzo l<=(l.map zz2.size).sum:=by
 induction l with
 |nil=>simp[zzo]
 |cons x l b=>grind[ztx,zzo]
def yrw:∀e:zz2,e.size<=8388608->Ev (λn=>za5 n e) ((z5r e:Int),(zgh e:Int)):=zwf λe l B=>by
 have w:=zbm e;have hlen:=zc5 e.args
 have loop:∀k,k<=e.args.length->∀d p:Nat,p+zzo (e.args.drop k)<=8388609->d<=8388609->Ev (λn=>z4s n (k:Int) (d:Int) (p:Int) e.args (e.args.length:Int)) (((p+zzo (e.args.drop k):Nat):Int),((max d (zk0 (e.args.drop k)):Nat):Int)) :=
  down (λd p g m=>by
   simp_all[zqb,Ev.kz0,Ev.yz0,zzo,zk0]) λk b i d p g m=>by
   have j:=Qad b;have u:=zml j;rw[<-Qah (h:=b)]at g ⊢;simp[zzo,zk0]at g ⊢;have y:=ztx e.args[k];have z:=yut e.args[k];rw[zqb,Ev.zz1 (by simpa using b),Ev.yz1 (zz5 b),zz2.kz3,Ev.zz0 (l _ j (by omega)),wI (x:=_+1) (by omega),wI (x:=(zgh _:Int)+1) (by omega),wI (x:=(p:Int)+_) (by omega)];have s:(k:Int)+1=((k+1:Nat):Int):=by omega
   have q:(zgh e.args[k]:Int)+1=((1+zgh e.args[k]:Nat):Int):=by omega
   have o:(p:Int)+(z5r e.args[k]:Int)=((p+z5r e.args[k]:Nat):Int):=by omega
   rw[s,q,o,yg5];refine(i (max d (1+zgh e.args[k])) (p+z5r e.args[k]) (by omega) (by omega)).to ?_
   congr 2 <;> omega
 rw[yet];have A:=yi2 e.args;have:=loop 0 (Qbo _) 1 1 (by simp;omega) (by omega)
 grind[z8g,y7n]
def ydl:∀e:zz2,e.size<=8388608->Ev (λn=>z9c n e) (z5r e:Int):=zwf λe j w=>by
 have q:=zbm e;have hlen:=zc5 e.args;rw[yix,zz2.kz3,z8g]
 have loop:∀k,k<=e.args.length->∀p:Nat,p+zzo (e.args.drop k)<=8388609->Ev (λn=>z6s n (k:Int) (p:Int) e) ((p+zzo (e.args.drop k):Nat):Int) :=
  down (λp d=>by
   simp_all[zqu,Ev.kz0,Ev.yz0,zzo]) λk b g p d=>by
   have i:=Qad b;have o:=zml i;rw[<-Qah (h:=b)]at d ⊢;simp[zzo]at d ⊢;have s:=ztx e.args[k];rw[zqu,Ev.zz1 (by simpa using b),Ev.yz1 (zz5 b),zz2.kz3,Ev.zz0 (j _ i (by omega)),wI (x:=_+1) (by omega),wI (x:=(p:Int)+_) (by omega)];have m:(k:Int)+1=((k+1:Nat):Int):=by omega
   have l:(p:Int)+(z5r e.args[k]:Int)=((p+z5r e.args[k]:Nat):Int):=by omega
   rw[m,l,zz2.kz3];refine(g (p+z5r e.args[k]) (by omega)).to ?_
   congr 1;omega
 have u:=yi2 e.args;exact loop 0 (Qbo _) 1 (by simp;omega)
def z00d:∀e:zz2,e.size<=8388608->Ev (λn=>zd1 n e) (zgh e:Int):=zwf λe i w=>by
 have q:=zbm e;have hlen:=zc5 e.args;rw[ylz,zz2.kz3,y7n]
 have loop:∀k,k<=e.args.length->∀p:Nat,p<=8388609->Ev (λn=>z82 n (k:Int) (p:Int) e) ((max p (zk0 (e.args.drop k)):Nat):Int) :=
  down (λp j=>by
   simp_all[zv3,Ev.kz0,Ev.yz0,zk0]) λk b d p j=>by
   have g:=Qad b;have o:=zml g;rw[<-Qah (h:=b)];simp[zk0];have s:=ztx e.args[k];have u:=yut e.args[k];rw[zv3,Ev.zz1 (by simpa using b),Ev.yz1 (zz5 b),zz2.kz3,Ev.zz0 (i _ g (by omega)),wI (x:=_+1) (by omega),wI (x:=1+_) (by omega)];have m:(k:Int)+1=((k+1:Nat):Int):=by omega
   have l:1+(zgh e.args[k]:Int)=((1+zgh e.args[k]:Nat):Int):=by omega
   rw[m,l,zz2.kz3,yg5];refine(d (max p (1+zgh e.args[k])) (by omega)).to ?_
   congr 1;omega
 exact loop 0 (Qbo _) 1 (by omega)
def z7j(op:Int):Int :=
 if op=1∨op=2 then 0 else if (3<=op∧op<=10)∨op=13∨op=14∨op=17 then 2 else if op=11∨op=15∨op=16 then 1 else if op=12 then 3 else if op=18 then -1 else -2
def ops(op:Int):op=1∨op=2∨op=3∨op=4∨op=5∨op=6∨op=7∨op=8∨op=9∨op=10∨op=11∨op=12∨op=13∨op=14∨op=15∨op=16∨op=17∨op=18∨(op<1∨18<op):=by omega
def z019{op}:Ev (λn=>zfk n op) (z7j op):=by
 rcases ops op with rfl|rfl|rfl|rfl|rfl|rfl|rfl|rfl|rfl|rfl|rfl|rfl|rfl|rfl|rfl|rfl|rfl|rfl|h
 case inr.inr.inr.inr.inr.inr.inr.inr.inr.inr.inr.inr.inr.inr.inr.inr.inr.inr=>
  have e:z7j op = -2:=by unfold z7j;rw[Qbr (by omega),Qbr (by omega),Qbr (by omega),Qbr (by omega),Qbr (by omega)]
  rw[e];have n (j) (d:1<=j) (b:j<=18):(op==j)=false:=by simp;omega
  simp[y59,zve,zvu,zv0,zuo,zuu,Ev.pif,Ev.yz0,n]
 all_goals simp[y59,zve,zvu,zv0,zuo,ybz,zuu,Ev.pif,Ev.yz0,z7j]
def z01r{op}:Ev (λn=>zfn n op) (z7j op):=by
 rcases ops op with rfl|rfl|rfl|rfl|rfl|rfl|rfl|rfl|rfl|rfl|rfl|rfl|rfl|rfl|rfl|rfl|rfl|rfl|h
 case inr.inr.inr.inr.inr.inr.inr.inr.inr.inr.inr.inr.inr.inr.inr.inr.inr.inr=>
  have e:z7j op = -2:=by unfold z7j;rw[Qbr (by omega),Qbr (by omega),Qbr (by omega),Qbr (by omega),Qbr (by omega)]
  rw[e];have n (j) (i:1<=j) (g:j<=18):(op==j)=false:=by simp;omega
  rw[y5m,Ev.kz0 (n 1 (by omega) (by omega)),n 2 (by omega) (by omega),zuq,Ev.kz0 (by rfl)];have b:Ev (λm=>z00 m op false) (-2):=by simp[zuv,zvh,Ev.pif,Ev.yz0,n]
  by_cases d:op>=3;rw[Ev.zz1 (by simpa using d),Ev.kz0 (by simp;omega),Ev.kz0 (n 13 (by omega) (by omega)),Ev.kz0 (n 14 (by omega) (by omega)),n 17 (by omega) (by omega)];exact b;rw[Ev.kz0 (by simpa using d),Ev.kz0 (n 13 (by omega) (by omega)),Ev.kz0 (n 14 (by omega) (by omega)),n 17 (by omega) (by omega)];exact b
 all_goals simp[y5m,zuq,zuv,zvh,Ev.pif,Ev.yz0,z7j]
noncomputable def y3w(op:Int)(v:kz1)(nm:B8):Bool :=
 if op=1 then zbt v==0&&(v.kind != 4&&nm.isEmpty)else if op=2 then zin nm&&eqB v v0 else nm.isEmpty&&eqB v v0
def zq0(op:Int)(k:Nat):Bool:=z7j op != -2&&(decide (z7j op<0)||(k:Int)==z7j op)
mutual
noncomputable def zcy:zz2->Bool
 |⟨op,v,nm,l⟩=>zq0 op l.length&&(y3w op v nm&&zdy l)
noncomputable def zdy:kz9->Bool
 |[]=>true
 |x::l=>zcy x&&zdy l
end
def y1y(e):zcy e=(zq0 e.op e.args.length&&(y3w e.op e.value e.name&&zdy e.args)):=by cases e;rw[zcy]
def z00h(l):zdy l=l.all zcy:=by
 induction l with
 |nil=>rfl
 |cons x l b=>simp[zdy,b]
noncomputable def z50(e:zz2):Int:=if 100<z5r e∨12<zgh e then 4 else if zcy e then 0 else 8
def yoh{e:zz2}(h:e.wf):e.value.wf:=by rw[zz2.z5s]at h;exact h.2.1
def yvt{e:zz2}(h:e.wf):∀x∈e.args,x.wf:=by rw[zz2.z5s]at h;exact h.2.2.2
def ycg(s:B8):(!(s==[])) = !s.isEmpty:=by cases s <;> rfl
def z047:∀e:zz2,e.wf->e.size<=8388608->Ev (λn=>zem n e) (zcy e):=zwf λe I F M=>by
 have L:=zbm e;have hlen:=zc5 e.args
 have B:∀k,k<=e.args.length->∃i:Int,Ev (λn=>zza n (k:Int) e.args (e.args.length:Int)) i∧decide (i>=0) = !zdy (e.args.drop k) :=
  down ⟨-1,by rw[z11,Ev.kz0 (by simp),Ev.yz0],by simp[zdy]⟩ λk d A=>by
   have y:=Qad d;have K:=zml y
   have q:Ev (λn=>zdp n e.args[k]) (!zcy e.args[k]):=by
    rw[yj7,zz2.kz3,Ev.zz0 (I _ y (yvt F _ y) (by omega)),Ev.yz0]
   have⟨i,j,l⟩:=A;rw[<-Qah (h:=d),zdy];cases G:zcy e.args[k];refine⟨k,?_,by simp⟩;rw[z11,Ev.zz1 (by simpa using d),Ev.yz1 (zz5 d),zz2.kz3,Ev.zz0 q,Ev.zz1 (by rw[G];rfl),Ev.yz0];refine⟨i,?_,by rw[l];rfl⟩;rw[z11,Ev.zz1 (by simpa using d),Ev.yz1 (zz5 d),zz2.kz3,Ev.zz0 q,Ev.kz0 (by rw[G];rfl),wrk (by omega)];exact j
 have s:Ev (λn=>z7g n e) (zdy e.args):=by
  have⟨i,j,l⟩:=B 0 (Qbo _);have hi:Ev (λn=>kzg n e.args) i:=by rw[zfs];exact j
  have m:Ev (λn=>kze n e.args) (!zdy e.args):=by
   rw[zee,Ev.zz0 hi,Ev.yz0,l];rfl
  rw[yel,Ev.zz0 m,Ev.yz0,Bool.not_not]
 have u:∀b,Ev (λn=>z7i n b e) (!b&&zdy e.args):=λb=>by
  rw[yep];cases b;rw[Ev.kz0 (by rfl),zz2.kz3];exact s;rw[Ev.zz1 (by rfl),Ev.yz0];rfl
 have E:∀b,Ev (λn=>zap n b e) (!b&&zdy e.args):=λb=>by
  rw[yea];cases b;rw[Ev.kz0 (by rfl),zz2.kz3];exact s;rw[Ev.zz1 (by rfl),Ev.yz0];rfl
 have D:∀b,Ev (λn=>zan n b e) (!b&&zdy e.args):=λb=>by
  rw[yez];cases b;rw[Ev.kz0 (by rfl),zz2.kz3];exact s;rw[Ev.zz1 (by rfl),Ev.yz0];rfl
 have w:∀b,Ev (λn=>z7h n b e) (!b&&(y3w e.op e.value e.name&&zdy e.args)):=λb=>by
  rw[ydr];cases b
  case true=>rw[Ev.zz1 (by rfl),Ev.yz0];rfl
  rw[Ev.kz0 (by rfl)];have g:Ev (λn=>z4f n e.value (kz1.mk 0 (yz4.mk 0 0) false [] [])) (eqB e.value v0):=yhs e.value v0 (by omega);by_cases j:e.op=1;rw[Ev.zz1 (by simpa using j),kz1.kz3,Ev.zz0 (zrj (yoh F) (by omega)),zz2.kz3,ycg];simp only[y3w,Qbq j];by_cases m:zbt e.value=0;rw[Ev.kz0 (by simpa using m)];by_cases d:e.value.kind=4;rw[Ev.zz1 (by simpa using d)]
  refine(u true).to ?_;simp[m,d];rw[Ev.kz0 (by simpa using d)];have C:(e.value.kind != 4)=true:=by simpa using d
  refine(u _).to ?_;simp[m,C];rw[Ev.zz1 (by simpa using m)];refine(u true).to ?_;simp[m];rw[Ev.kz0 (by simpa using j)];by_cases l:e.op=2;rw[Ev.zz1 (by simpa using l),Ev.zz0 (z01l (by omega)),kz1.kz3,zz2.kz3];simp only[y3w,Qbr j,Qbq l];cases J:zin e.name;rw[Ev.zz1 (by rfl)];exact(E true).to (by simp);rw[Ev.kz0 (by rfl),Ev.zz0 g];exact(E _).to (by simp)
  rw[Ev.kz0 (by simpa using l),ycg,kz1.kz3,zz2.kz3];simp only[y3w,Qbr j,Qbr l];cases J:e.name.isEmpty;rw[Ev.zz1 (by rfl)];exact(D true).to (by simp);rw[Ev.kz0 (by rfl),Ev.zz0 g];exact(D _).to (by simp)
 rw[yqw,Ev.zz0 z019,y1y,zz2.kz3];unfold zq0;by_cases o:z7j e.op = -2;rw[Ev.zz1 (by simpa using o)];exact(w true).to (by simp[o]);rw[Ev.kz0 (by simpa using o)];by_cases z:z7j e.op>=0;rw[Ev.zz1 (by simpa using z)];refine(w _).to ?_;rw[show decide (z7j e.op<0)=false by simpa using z,show(z7j e.op != -2)=true by simpa using o];simp only[bne,Bool.not_not,Bool.true_and,Bool.false_or]
 rw[Ev.kz0 (by simpa using z)];refine(w _).to ?_;rw[show decide (z7j e.op<0)=true by simp;omega,show(z7j e.op != -2)=true by simpa using o];simp
def z02e:∀e:zz2,e.size<=8388608->Ev (λn=>zdc n e) (zcy e):=zwf λe A D=>by
 have C:=zbm e;have hlen:=zc5 e.args
 have loop:∀k,k<=e.args.length->Ev (λn=>z8u n (k:Int) e) (zdy (e.args.drop k)) :=
  down (by simp_all[zue,Ev.kz0,Ev.yz0,zdy]) λk g o=>by
   have u:=Qad g;have B:=zml u;rw[<-Qah (h:=g),zdy];rw[zue,Ev.zz1 (by simpa using g),Ev.yz1 (zz5 g),zz2.kz3,Ev.zz0 (A _ u (by omega))];cases F:zcy e.args[k]
   simp_all[Ev.zz1,Ev.yz0]
   rw[Ev.kz0 (by rfl),wrk (by omega),zz2.kz3,Bool.true_and];exact o
 have y:∀b,Ev (λn=>z1y n b e) (!b&&zdy e.args):=λb=>by
  rw[ybe];cases b;rw[Ev.kz0 (by rfl),zz2.kz3];exact loop 0 (Qbo _)
  simp_all[Ev.zz1,Ev.yz0]
 have q:decide ((e.name.length:Int)>0) = !e.name.isEmpty:=by cases e.name <;> simp
 have s:∀b,Ev (λn=>z0t n b e) (!b&&((if e.op=2 then zin e.name else e.name.isEmpty)&&zdy e.args)):=λb=>by
  rw[yay];cases b
  case true=>simp_all[Ev.zz1,Ev.yz0]
  rw[Ev.kz0 (by rfl),zz2.kz3,q];by_cases j:e.op=2;rw[Ev.zz1 (by simpa using j),Qbq j,Ev.zz0 (yxu (by omega))];cases E:zin e.name
  simp_all[Ev.zz1]
  simp_all[Ev.kz0]
  rw[Ev.kz0 (by simpa using j),Ev.zz1 (by simpa using j),Qbr j];exact(y _).to (by simp)
 have z:∀b,Ev (λn=>z5h n b e) (!b&&(y3w e.op e.value e.name&&zdy e.args)):=λb=>by
  rw[yai];cases b
  case true=>simp_all[Ev.zz1,Ev.yz0]
  rw[Ev.kz0 (by rfl),kz1.kz3,zz2.kz3];have d:Ev (λn=>z5v n e.value (kz1.mk 0 (yz4.mk 0 0) false [] [])) (eqB e.value v0):=z02g e.value v0 (by omega);by_cases i:e.op=1;rw[Ev.zz1 (by simpa using i),Ev.zz0 (yv5 (by omega))];simp[y3w,Qbq i];by_cases l:zbt e.value=0;rw[Ev.kz0 (by simpa using l)];by_cases g:e.value.kind=4
  simp_all[Ev.zz1]
  rw[Ev.kz0 (by simpa using g),Ev.kz0 (by simpa using i)]
  grind
  rw[Ev.zz1 (by simpa using l)];refine(s true).to ?_;simp[l];rw[Ev.kz0 (by simpa using i),Ev.zz1 (by simpa using i),Ev.zz0 d];refine(s _).to ?_;simp[y3w,Qbr i]
  grind
 rw[yo6,Ev.zz0 z01r,y1y,zz2.kz3];unfold zq0;by_cases w:z7j e.op = -2
 simp_all[Ev.zz1]
 rw[Ev.kz0 (by simpa using w)];by_cases m:z7j e.op>=0;rw[Ev.zz1 (by simpa using m)];refine(z _).to ?_;rw[show decide (z7j e.op<0)=false by simpa using m,show(z7j e.op != -2)=true by simpa using w]
 grind
 rw[Ev.kz0 (by simpa using m)]
 grind
def zll{e}(h:e.wf)(g:e.size<=8388608):Ev (λn=>z0y n e) (z50 e):=by
 have d:∀b,Ev (λn=>z8m n b e) (if b then 4 else if zcy e then 0 else 8):=λb=>by
  rw[yau];cases b;rw[Ev.kz0 (by rfl),zz2.kz3,Ev.zz0 (z047 e h g)];cases zcy e
  simp_all[Ev.zz1,Ev.yz0]
  simp_all[Ev.kz0,Ev.yz0]
  simp_all[Ev.zz1,Ev.yz0]
 rw[ylt,zz2.kz3,Ev.zz0 (yrw e g)];unfold z50;simp only[Ev.pif];by_cases j:100<z5r e;rw[Qbq (by simp;omega),Qbq (.inl j)];exact d true;rw[Qbr (by simp;omega)];by_cases i:12<zgh e;rw[Qbq (.inr i),show decide ((zgh e:Int)>12)=true by simp;omega];exact d true;rw[Qbr (by omega),show decide ((zgh e:Int)>12)=false by simp;omega];exact d false
def zj3{e}(g:e.size<=8388608):Ev (λn=>z2u n e) (z50 e):=by
 have d:∀b,Ev (λn=>z6t n b e) (if b then 4 else if zcy e then 0 else 8):=λb=>by
  rw[y8q];cases b;rw[Ev.kz0 (by rfl),zz2.kz3,Ev.zz0 (z02e e g)];cases zcy e
  simp_all[Ev.zz1,Ev.yz0]
  simp_all[Ev.kz0,Ev.yz0]
  simp_all[Ev.zz1,Ev.yz0]
 rw[yie,zz2.kz3,Ev.zz0 (ydl e g)];unfold z50;by_cases i:100<z5r e;rw[Ev.zz1 (by simp;omega),Qbq (.inl i)];exact d true;rw[Ev.kz0 (by simp;omega),Ev.zz0 (z00d e g)];by_cases h:12<zgh e;rw[Qbq (.inr h),show decide ((zgh e:Int)>12)=true by simp;omega];exact d true;rw[Qbr (by omega),show decide ((zgh e:Int)>12)=false by simp;omega];exact d false
theorem zmo{e}(h:z50 e=0):zcy e=true∧z5r e<=100∧zgh e<=12:=by
 grind[z50]
def yu7:∀e:zz2,e.size<=8388608->∀d:Int,∃b,Ev (λn=>zbr n e d) b:=zwf λe o y d=>by
 have w:=zbm e;have hlen:=zc5 e.args
 have loop:∀k,k<=e.args.length->∀d:Int,∃b,Ev (λn=>z6w n (k:Int) d e) b :=
  down (λd=>⟨false,by rw[zry,Ev.kz0 (by simp),Ev.yz0]⟩) λk i j d=>by
   have l:=Qad i;have u:=zml l;have⟨b,s⟩:=o _ l (by omega) (IntKind.i64.wrap (d-1));have⟨c,m⟩:=j d;refine⟨if b then true else c,?_⟩;rw[zry,Ev.zz1 (by simpa using i),Ev.yz1 (zz5 i),zz2.kz3,Ev.zz0 s,zz2.kz3,wrk (by omega)];cases b;rw[Ev.kz0 (by rfl)];exact m
   simp_all[Ev.zz1,Ev.yz0]
 have h:∀d b,∃c,Ev (λn=>z2l n d b e) c:=λd b=>by
  cases b;have⟨c,m⟩:=loop 0 (Qbo _) d;exact⟨c,by simp_all[zqy,Ev.kz0]⟩
  simp_all[zqy,Ev.zz1,Ev.yz0]
 have⟨g,q⟩:=yv1 (v:=e.value) (by omega);simp only[yh4,zz2.kz3,kz1.kz3,Ev.pif,Ev.zz0 q];split;exact h _ _;split;exact h _ _;split;exact h _ _;exact h _ _
def zs0{e}(d:e.size<=8388608):∃b,Ev (λn=>z7c n e) b:=by
 have⟨b,g⟩:=yu7 e d 16;cases b;exact⟨_,by rw[zyz,zz2.kz3,Ev.zz0 g,Ev.kz0 (by rfl),Ev.zz0 (ydl e d)];exact Ev.yz0.2 rfl⟩;exact⟨true,by rw[zyz,zz2.kz3,Ev.zz0 g,Ev.zz1 (by rfl),Ev.yz0]⟩
theorem z01w:∀v:kz1,zeg v=true->v.size<=68 * zfv v:=ya3 λv d h=>by
 have g:∀l:z3m,(∀x∈l,x∈v.list)->(l.map kz1.size).sum<=68 * z97 l:=λl=>by
  induction l with
  |nil=>intro _;simp
  |cons x l b=>
   grind[yiy,z97]
 rw[kz1.size_eq,yz4.size_eq,zlp];rw[ze8]at h;split at h
 simp_all
 split at h
 simp_all
 split at h;simp[Qar]at h;rw[Qbr (by omega),h.2.2.1]
 grind
 split at h;rename_i i;simp[List.isEmpty_iff]at h
 grind
 cases h
def ytv{r}(h:nul r=true):r.wf:=by
 simp[nul,Qbg]at h;rw[yz4.z5s,h.1,h.2];decide
def z0f0{r}(h:rok r=true):r.wf:=by
 rw[zkh]at h;rw[yz4.z5s,show IntKind.i64.min = -9223372036854775808 from by decide,show IntKind.i64.max=9223372036854775807 from by decide];omega
theorem z08g:∀v:kz1,zeg v=true->v.wf:=ya3 λv d h=>by
 have i:=λx b=>d x b (yiy h x b)
 have j:=zov h
 have g:v.num.wf:=by
  rw[ze8]at h;split at h
  simp_all[z0f0]
  split at h
  simp_all[ytv]
  split at h
  simp_all[ytv]
  simp_all[ytv]
 rw[kz1.z5s]
 grind[IntKind.min,IntKind.max,IntKind.bits]
def vok{v}(h:zbt v=0):v.wf∧v.size<=6800:=by
 grind[zj0,z01w,z08g]
def yrb(r:yz4):kz1:=⟨1,r,false,[],[]⟩
def z09b(b:Bool):kz1:=⟨2,⟨0,0⟩,b,[],[]⟩
def ydd(l):l.length<=zzo l:=by
 induction l with
 |nil=>simp
 |cons x l b=>grind[z8g,zzo]
mutual
def zt7:zz2->List B8->List B8
 |⟨op,_,nm,l⟩,b=>zen l (if op=2∧nm∉b then b++[nm]else b)
def zen:kz9->List B8->List B8
 |[],b=>b
 |x::l,b=>zen l (zt7 x b)
end
theorem yb2(e)(b):zt7 e b=zen e.args (if e.op=2∧e.name∉b then b++[e.name]else b):=by cases e;rw[zt7]
mutual
def zyb:zz2->List B8->List B8
 |⟨op,_,nm,l⟩,b=>zeu l (if op=2 then ins b nm else b)
def zeu:kz9->List B8->List B8
 |[],b=>b
 |x::l,b=>zeu l (zyb x b)
end
def yk6(e)(b):zyb e b=zeu e.args (if e.op=2 then ins b e.name else b):=by cases e;rw[zyb]
def yvf:∀(e) (a b),a.Nodup->zng b->(∀x,x∈a↔x∈b)->(zt7 e a).Nodup∧zng (zyb e b)∧(∀x,x∈zt7 e a↔x∈zyb e b)∧(zt7 e a).length<=a.length+z5r e∧(zyb e b).length<=b.length+z5r e:=zwf λe u a b n m g=>by
 have D:∀(l:kz9),(∀x∈l,x∈e.args)->∀a b:List B8,a.Nodup->zng b->(∀x,x∈a↔x∈b)->(zen l a).Nodup∧zng (zeu l b)∧(∀x,x∈zen l a↔x∈zeu l b)∧(zen l a).length<=a.length+zzo l∧(zeu l b).length<=b.length+zzo l:=λl=>by
  induction l with
  |nil=>simp_all[zen,zeu]
  |cons x l i=>
   intro k a b n m g;have⟨A,d,z,F,E⟩:=u x (k x Qak) a b n m g;have⟨s,q,o,C,B⟩:=i (λy w=>k y (Qai _ w)) _ _ A d z;simp[zen,zeu,zzo];exact⟨s,q,o,by omega,by omega⟩
 rw[yb2,yk6,z8g];by_cases d:e.op=2;rw[Qbq d];by_cases j:e.name∈a;rw[Qbr (by simp[j])]
 grind[y6h,yfz,y8w]
 rw[Qbq ⟨d,j⟩]
 grind[y6h,yfz,y8w]
 rw[Qbr d,Qbr (λh=>d h.1)]
 grind
def yvg(e):z90 (zt7 e [])=zyb e []:=by
 have⟨g,d,b,_⟩:=yvf e [] [] (by simp) (by simp[zng]) (by simp)
 grind[y4w,ypx,zqc]
def yin:∀(e) (a),(zt7 e a).length<=a.length+z5r e:=zwf λe d a=>by
 have g:∀(l:kz9),(∀x∈l,x∈e.args)->∀a:List B8,(zen l a).length<=a.length+zzo l:=λl=>by
  induction l with
  |nil=>intro _ a;simp[zen,zzo]
  |cons x l b=>
   grind[zen,zzo]
 grind[yb2,z8g]
theorem yp8:∀(e) (a),(zyb e a).length<=a.length+z5r e:=zwf λe g a=>by
 have b:∀(l:kz9),(∀x∈l,x∈e.args)->∀a:List B8,(zeu l a).length<=a.length+zzo l:=λl=>by
  induction l with
  |nil=>intro _ a;simp[zeu,zzo]
  |cons x l d=>
   grind[zeu,zzo]
 rw[yk6,z8g];have hi:=y8w e.name a;have:=b e.args (λ_ h=>h) (if e.op=2 then ins a e.name else a);split at this
 grind
 grind
def z04w{l}(m:l.length<=8388608){s}:∃i:Int,Ev (λn=>zzs n s l) (i,l)∧decide (i>=0)=decide (s∈l):=by
 have loop:∀k,k<=l.length->∃i:Int,Ev (λn=>kzi n (k:Int) s (l.length:Int) l) (i,l)∧decide (i>=0)=decide (s∈l.drop k) :=
  down ⟨-1,by rw[z4g,Ev.kz0 (by simp),Ev.yz0],by simp⟩ λk g h=>by
   have⟨i,d,b⟩:=h;by_cases j:s=l[k];refine⟨k,?_,?_⟩
   simp_all[z4g,Ev.zz1,zz5,Ev.yz0]
   grind[Qah]
   refine⟨i,?_,?_⟩;rw[z4g,Ev.zz1 (by simpa using g),Ev.yz1 (zz5 g),Ev.kz0 (by simpa using j),wrk (by omega)];exact d;rw[b]
   have:(s∈l.drop k)↔(s∈l.drop (k+1)):=by
    grind[Qah]
   grind
 have⟨i,d,b⟩:=loop 0 (Qbo _);exact⟨i,by rw[zk7];exact d,by simpa using b⟩
def z000:∀(e) (b),b.length+z5r e<=8388608->Ev (λn=>zda n e b) (zt7 e b):=zwf λe q b d=>by
 rw[z8g]at d
 have loop:∀k,k<=e.args.length->∀b:List B8,b.length+zzo (e.args.drop k)<=8388608->Ev (λn=>z7w n (k:Int) e.args (e.args.length:Int) b) (zen (e.args.drop k) b) :=
  down (λb d=>by simp_all[zub,Ev.kz0,Ev.yz0,zen]) λk j A b d=>by
   have u:=Qad j;have hlen:=ydd e.args;rw[<-Qah (h:=j)]at d ⊢;simp[zen,zzo]at d ⊢;have:=yin e.args[k] b
   have B:=by
    omega
   rw[zub,Ev.zz1 (by simpa using j),Ev.yz1 (zz5 j),zz2.kz3,Ev.zz0 (q _ u _ (by omega)),wrk (by omega)]
   grind
 have o:∀b:List B8,b.length+zzo e.args<=8388608->Ev (λn=>z7t n b e) (zen e.args b):=λb d=>by
  rw[ybn];simpa using loop 0 (Qbo _) b (by simpa using d)
 rw[ynf,yb2];by_cases m:e.op=2;have⟨i,z,y⟩:=z04w (l:=b) (by omega) (s:=e.name)
 have w:Ev (λn=>kzn n e.name b) (decide (e.name∈b),b):=by
  rw[zi2,Ev.zz0 z,Ev.yz0,y]
 rw[Ev.zz1 (by simpa using m),Ev.zz0 w,zz2.kz3,ztu];by_cases g:e.name∈b;rw[Ev.kz0 (by simpa using g),Qbr (by simp[g]),zz2.kz3]
 grind
 rw[Ev.zz1 (by simpa using g),Qbq ⟨m,g⟩,Ev.yz1 (z45 (by simp;omega)),zz2.kz3]
 grind
 rw[Ev.kz0 (by simpa using m),Qbr (λh=>m h.1),zz2.kz3,ztu,Ev.kz0 (by rfl),zz2.kz3];exact o _ (by omega)
def z01o{α:Type}{p}:∀{l:List α},(∀x∈l,p x=true)->l.takeWhile p=l∧l.dropWhile p=[]
 |[],_=>⟨rfl,rfl⟩
 |x::l,h=>by
  have b:=h x Qak;have⟨i,g⟩:=z01o (l:=l) λy d=>h y (Qai _ d)
  rw[List.takeWhile_cons_of_pos b,List.dropWhile_cons_of_pos b,i,g];exact⟨rfl,rfl⟩
def z04i{l k}(h:k<=l.length)(s:B8) :
  y60 (l++[[]]) ((k+1:Nat):Int) (k:Int)=some (l.take k++[(l++[[]])[k]'(by simp;omega)]++l.drop k)∧((l.take k++[(l++[[]])[k]'(by simp;omega)]++l.drop k).set k s=l.take k++s::l.drop k):=by
 constructor;unfold y60;rw[Qbq (by simp;omega)]
 congr 1
 have g:((k+1:Nat):Int).toNat=k+1:=by simp
 have d:((k:Nat):Int).toNat=k:=by simp
 rw[g,d];have b:min ((l++[[]]).length-k) ((l++[[]]).length-(k+1))=l.length-k:=by simp;omega
 rw[b,show k+1+(l.length-k)=l.length+1 by omega];have i:(l++[[]]).drop (l.length+1)=[]:=List.drop_of_length_le (by simp)
 grind[ztl]
 simp_all
def z01b:∀(e:zz2) (b:List B8),b.length+z5r e<=8388608->Ev (λn=>zd2 n e b) (zyb e b):=zwf λe E b l=>by
 rw[z8g]at l
 have loop:∀k,k<=e.args.length->∀b:List B8,b.length+zzo (e.args.drop k)<=8388608->Ev (λn=>z8l n (k:Int) b e) (zeu (e.args.drop k) b) :=
  down (λb l=>by rw[zuk,Ev.kz0 (by simp),Ev.yz0];simp[zeu]) λk j q b l=>by
   have z:=Qad j;have hlen:=ydd e.args;rw[<-Qah (h:=j)]at l ⊢;simp only[zeu,zzo]at l ⊢;have:=yp8 e.args[k] b;rw[zuk,Ev.zz1 (by simpa using j),Ev.yz1 (zz5 j),zz2.kz3,Ev.zz0 (E _ z _ (by omega)),wrk (by omega),zz2.kz3];exact q _ (by omega)
 have y:∀b:List B8,b.length+zzo e.args<=8388608->Ev (λn=>z5m n b e) (zeu e.args b):=λb l=>by
  rw[yav,zz2.kz3];simpa using loop 0 (Qbo _) b (by simpa using l)
 rw[ymz,zz2.kz3,yk6];by_cases w:e.op=2
 case neg=>rw[Ev.kz0 (by simpa using w),Qbr w];exact y _ (by omega)
 rw[Ev.zz1 (by simpa using w),Qbq w];have J:=y8w e.name b
 have u:∀k,k<=b.length->b.takeWhile (λx=>Op.bytesLess x e.name)=b.take k->b.dropWhile (λx=>Op.bytesLess x e.name)=b.drop k->Ev (λn=>z8v n (k:Int) false e b) (zeu e.args (ins b e.name)):=λk j F I=>by
  have g:=z08u e.name b;rw[F,I]at g
  have put:ins b e.name=b.take k++e.name::b.drop k->Ev (λn=>z8x n (k:Int) true e b) (zeu e.args (ins b e.name)):=λhi=>by
   have⟨D,C⟩:=z04i j e.name;have z:ext b [[]]=some (b++[[]]):=z45 (by simp;omega);have B:yvr (b++[[]]) ((k+1:Nat):Int)=some ():=by unfold yvr;rw[Qbq (by simp;omega)]
   have A:yvr (b++[[]]) (k:Int)=some ():=by unfold yvr;rw[Qbq (by simp;omega)]
   have G:ix (b.take k++[(b++[[]])[k]'(by simp;omega)]++b.drop k) (k:Int)=some ((b++[[]])[k]'(by simp;omega)):=by
    rw[z011,Qay,Qav (by simp;omega)];simp[Nat.min_eq_left j]
   rw[zuh,Ev.zz1 (by rfl),Ev.yz1 z,wrk (by omega),Ev.yz1 B,Ev.yz1 A,Ev.yz1 D,Ev.yz1 G,zz2.kz3,Int.toNat_natCast,C,<-hi];exact y _ (by omega)
  rw[zto,Ev.kz0 (by rfl),zz2.kz3];by_cases K:k=b.length;rw[Ev.zz1 (by simp;omega)];exact put (by rw[g,Qbr (by rw[List.drop_of_length_le (by omega)];simp)]);have s:k<b.length:=by omega
  rw[Ev.kz0 (by simp;omega),Ev.yz1 (zz5 s)];have m:(b.drop k).head?=some b[k]:=by rw[<-Qah (h:=s)];rfl
  by_cases o:b[k]=e.name;rw[show(!(b[k]==e.name))=false by simpa using o,zuh,Ev.kz0 (by rfl),zz2.kz3];have:ins b e.name=b:=by rw[g,Qbq (by rw[m,o])]
  rw[this];exact y _ (by omega);rw[show(!(b[k]==e.name))=true by simpa using o];exact put (by rw[g,Qbr (by rw[m];simpa using o)])
 have place:∀k,k<=b.length->(b.take k).all (λx=>Op.bytesLess x e.name)=true->Ev (λn=>z5b n (k:Int) e b) (zeu e.args (ins b e.name)) :=
  down (Q:=λk=>(b.take k).all (λx=>Op.bytesLess x e.name)=true->Ev (λn=>z5b n (k:Int) e b) (zeu e.args (ins b e.name))) (λd=>by
   rw[List.take_length]at d;rw[Qat]at d;rw[zvf,Ev.kz0 (by simp),zz2.kz3];refine u _ (Qbp _) ?_ ?_;rw[List.take_length];exact(z01o d).1
   rw[List.drop_length];exact(z01o d).2) λk j q d=>by
   have i:b=b.take k++b.drop k:=(List.take_append_drop k b).symm;rw[zvf,Ev.zz1 (by simpa using j),Ev.yz1 (zz5 j),zz2.kz3];cases l:Op.bytesLess b[k] e.name;rw[Qat]at d;refine u k (by omega) ?_ ?_
   conv=>lhs;rw[i]
   rw[List.takeWhile_append_of_pos d,<-Qah (h:=j),List.takeWhile_cons_of_neg (by simp[l]),List.append_nil]
   conv=>lhs;rw[i]
   rw[List.dropWhile_append_of_pos d,<-Qah (h:=j),List.dropWhile_cons_of_neg (by simp[l])];rw[zto,Ev.zz1 (by rfl),wrk (by omega),zz2.kz3];refine q ?_;rw[<-ztl j,List.all_append,d];simp[l]
 exact place 0 (Qbo _) (by simp)
noncomputable def zil(e:zz2):List B8×Int:=if z50 e≠0 then ([],z50 e)else (zyb e [],0)
def z026{e}(g:e.wf)(h:e.size<=8388608):Ev (λn=>zfi n e) (zil e):=by
 rw[ylh,zz2.kz3,Ev.zz0 (zll g h)];unfold zil;by_cases d:z50 e=0
 case neg=>simp_all[Ev.zz1,Ev.yz0]
 have⟨_,j,_⟩:=zmo d;have i:=yin e []
 have b:Ev (λn=>zzn n (zt7 e [])) (zyb e []):=by
  refine .same (λn =>?_) (.pure rfl);unfold zzn;rw[Qbq (by simp at i;omega),yxv,yvg]
 rw[Ev.kz0 (by simpa using d),Qbr (by simpa using d),Ev.zz0 (z000 e [] (by simp;omega)),Ev.zz0 b,Ev.yz0]
def yxo{e}(d:e.size<=8388608):Ev (λn=>ze1 n e) (zil e):=by
 rw[yiq,zz2.kz3,Ev.zz0 (zj3 d)];unfold zil;by_cases b:z50 e=0
 case neg=>rw[Ev.zz1 (by simpa using b),Ev.zz0 (zj3 d),Ev.yz0,Qbq b]
 have⟨_,g,_⟩:=zmo b;rw[Ev.kz0 (by simpa using b),Qbr (by simpa using b),Ev.zz0 (z01b e [] (by simp;omega)),Ev.yz0]
theorem zwq{α:Type}{f:α->Nat}:∀{l:List α}{x},x∈l->f x<=(l.map f).sum
 |y::l,x,h=>by
  simp[List.sum_cons]
  rcases Qbf.1 h with h|h
  subst h;omega;have:=zwq (f:=f) h;omega
theorem zwx{α:Type}{f}(b:∀x,1<=f x):∀l:List α,l.length<=(l.map f).sum
 |[]=>by simp
 |x::l=>by have:=zwx b l;grind
def yzv(l:kz9):zz2:=⟨18,⟨0,⟨0,0⟩,false,[],[]⟩,[],l⟩
def zew(l):(yzv l).size=(l.map zz2.size).sum+12:=by
 rw[zz2.size_eq];rw[kz1.size_eq];show 1+(1+(1+1+1)+1+(0+1)+(0+1)+1)+0+1+((l.map zz2.size).sum+1)+1=_;omega
theorem yxy{l}(h:∀x∈l,x.wf):(yzv l).wf:=by
 rw[zz2.z5s];refine⟨by show(IntKind.u8.min<=18∧18<=IntKind.u8.max);decide,?_,trivial,h⟩;rw[kz1.z5s];refine⟨by show(IntKind.u8.min<=0∧0<=IntKind.u8.max);decide,?_,trivial,trivial,by simp[yzv]⟩;exact⟨by show(IntKind.i64.min<=0∧0<=IntKind.i64.max);decide,by show(IntKind.i64.min<=0∧0<=IntKind.i64.max);decide⟩
section
variable {p:yz2}{t:yzl}{r:yz7}{c:kz7}{a:zz4}{x:yzq}{e:zz2}
def yd2(h:t∈p.attrs):t.size+2<=p.size:=by grind[zwq,yz2.size_eq]
def zuw(h:r∈p.rules):r.size+2<=p.size:=by grind[zwq,yz2.size_eq]
def ycz:t.value.size+t.name.length+2<=t.size:=by rw[yzl.size_eq];omega
def zvo(h:c∈r.cases):c.size+2<=r.size:=by grind[zwq,yz7.size_eq]
def z0e2:r.name.length+2<=r.size:=by rw[yz7.size_eq];omega
def z0dt{s}(h:s∈r.params):s.length+2<=r.size:=by grind[zwq,yz7.size_eq]
theorem yhq:c.when_.size+2<=c.size:=by rw[kz7.size_eq];omega
def zyy(h:a∈c.do_):a.size+2<=c.size:=by grind[zwq,kz7.size_eq]
def z0e7:a.name.length+2<=a.size:=by rw[zz4.size_eq];omega
theorem ycx:(a.args.map zz2.size).sum+5<=a.size:=by rw[zz4.size_eq];omega
def y9i(h:x∈a.items):x.size+2<=a.size:=by grind[zwq,zz4.size_eq]
def z0dy:x.name.length+2<=x.size:=by rw[yzq.size_eq];omega
theorem ydg:(x.args.map zz2.size).sum+4<=x.size:=by rw[yzq.size_eq];omega
def y5w:p.attrs.length<=p.size:=by grind[zwx,yzl.size_eq,yz2.size_eq]
def zv4:p.rules.length<=p.size:=by grind[zwx,yz7.size_eq,yz2.size_eq]
def y5e:r.params.length<=r.size:=by have:=zwx (f:=λs:B8=>s.length+1) (λx=>by omega) r.params;rw[yz7.size_eq];omega
def y2g:r.cases.length<=r.size:=by grind[zwx,kz7.size_eq,yz7.size_eq]
def zyv:c.do_.length<=c.size:=by grind[zwx,zz4.size_eq,kz7.size_eq]
def y82:a.items.length<=a.size:=by grind[zwx,yzq.size_eq,zz4.size_eq]
def z0e9:a.args.length<=a.size:=by grind[zc5,ycx]
def z08e:x.args.length<=x.size:=by grind[zc5,ydg]
def z02l(h:p.wf)(b:t∈p.attrs):t.value.wf:=by grind[yz2.z5s,yzl.z5s]
def ypf(h:p.wf)(b:r∈p.rules):r.wf:=by grind[yz2.z5s]
theorem yon(h:r.wf)(b:c∈r.cases):c.wf:=by exact h.2.2 c b
theorem z02u(h:c.wf):c.when_.wf:=by exact h.2.1
theorem ypp(h:c.wf)(b:a∈c.do_):a.wf:=by exact h.2.2 a b
def z03f(h:a.wf):(0<=a.kind∧a.kind<=255)∧(0<=a.axis∧a.axis<=255):=by exact⟨h.1,h.2.1⟩
def z09k(h:a.wf):(yzv a.args).wf:=by grind[zz4.z5s,yxy]
theorem z08m(h:a.wf)(b:e∈a.args):e.wf:=by grind[zz4.z5s]
def z03q(h:a.wf)(b:x∈a.items):x.wf:=by grind[zz4.z5s]
def z0bf(h:x.wf):(yzv x.args).wf:=by grind[yzq.z5s,yxy]
def wf_xe(h:x.wf)(b:e∈x.args):e.wf:=by exact h.2.2 e b
end
def z0et{α:Type}{a b:List α}(h:¬a.length=b.length):((a.length:Int) != (b.length:Int))=true:=by simp;omega
def z0fn{α:Type}{a b:List α}(h:a.length=b.length):((a.length:Int) != (b.length:Int))=false:=by simp;omega
def zj1{α}{F:Nat->List α->List α->Option Bool}{L:Nat->Int->List α->List α->Int->Option Bool}{S:Nat->α->α->Option Bool}{a b}
  (u:∀n,F (n+1) a b=pIf ((a.length:Int) != (b.length:Int)) (some false) (L n 0 b a (a.length:Int)))
  (j:∀n (k:Int),L (n+1) k b a (a.length:Int)=pIf (decide (k<(a.length:Int))) ((ix a k).bind λo=>(ix b k).bind λm=>(S n o m).bind λl=>pIf (!l) (some false) (L n (IntKind.i64.wrap (k+1)) b a (a.length:Int))) (some true))
  (w:a.length<=8388608) (s:∀x∈a,∀y,Ev (λn=>S n x y) (eqB x y)):Ev (λn=>F n a b) (eqB a b):=by
 rw[Ev.zka u];by_cases hlen:a.length=b.length
 case neg=>rw[Ev.zz1 (z0et hlen),Ev.yz0,z7e.2 (λh=>hlen (by rw[h]))]
 rw[Ev.kz0 (z0fn hlen)]
 have:=z0f1 (L:=λn k=>L n k b a (a.length:Int)) (fail:=false) (r:=true) hlen
  (by rw[Ev.zka (λn=>j n _),Ev.kz0 (by simp),Ev.yz0]) λk d g v q=>by
   rw[Ev.zka (λn=>j n _),Ev.zz1 (by simpa using d),Ev.yz1 (zz5 d),Ev.yz1 (zz5 g),Ev.zz0 (s _ (Qad d) _)];by_cases i:a[k]=b[k];rw[i,y30,Ev.kz0 (by rfl),wrk (by omega)];exact q;rw[z7e.2 i,Ev.zz1 (by rfl),Ev.yz0];rfl
 grind
def yc7{α}{L:Nat->Int->List α->Int->Option Int}{S:Nat->α->Option Bool}{l p}
  (d:∀n (k:Int),L (n+1) k l (l.length:Int)=pIf (decide (k<(l.length:Int))) ((ix l k).bind λm=>(S n m).bind λj=>pIf j (some k) (L n (IntKind.i64.wrap (k+1)) l (l.length:Int))) (some (-1)))
  (q:l.length<=8388608) (h:∀x∈l,Ev (λn=>S n x) (p x)):∃i:Int,Ev (λn=>L n 0 l (l.length:Int)) i∧decide (i>=0)=l.any p:=by
 have:∀k,k<=l.length->∃i:Int,Ev (λn=>L n (k:Int) l (l.length:Int)) i∧decide (i>=0)=(l.drop k).any p :=
  down ⟨-1,by rw[Ev.zka (λn=>d n _),Ev.kz0 (by simp),Ev.yz0],by simp⟩ λk b ⟨i,o,s⟩=>by
   cases g:p l[k]with
   |true=>
    refine⟨k,?_,?_⟩;rw[Ev.zka (λn=>d n _),Ev.zz1 (by simpa using b),Ev.yz1 (zz5 b),Ev.zz0 (h _ (Qad b)),g,Ev.zz1 rfl,Ev.yz0]
    grind[Qah]
   |false=>
    refine⟨i,?_,?_⟩;rw[Ev.zka (λn=>d n _),Ev.zz1 (by simpa using b),Ev.yz1 (zz5 b),Ev.zz0 (h _ (Qad b)),g,Ev.kz0 rfl,wrk (by omega)];exact o
    grind[Qah]
 simpa using this 0 (Qbo _)
def y3n{c d A}(h:c=true->Ev A d):Ev (λn=>pIf c (A n) (some false)) (c&&d):=by
 cases c;exact Ev.pure rfl;exact h rfl
theorem ysd{α}[BEq α][LawfulBEq α](a b:α):(a==b)=eqB a b:=by
 grind[z7e]
def y3e{α}{a b:α}{c}(h:a=b↔c=true):eqB a b=c:=by
 cases c
 grind[z7e]
 simp_all
def z0da(a b:yzl):eqB a b=(eqB a.name b.name&&eqB a.value b.value):=y3e (by
 have⟨g,d⟩:=a;have⟨b1,b2⟩:=b;simp_all[zhu])
def z0dd(a b:yzq):eqB a b=(eqB a.kind b.kind&&(eqB a.name b.name&&eqB a.args b.args)):=y3e (by
 have⟨i,h,g⟩:=a;have⟨b1,b2,d⟩:=b;simp_all[zhu])
def z05x(a b:zz4):eqB a b=(eqB a.kind b.kind&&(eqB a.axis b.axis&&(eqB a.name b.name&&(eqB a.args b.args&&eqB a.items b.items)))):=y3e (by
 have⟨m,l,k,j,i⟩:=a;have⟨b1,b2,h,g,d⟩:=b;simp_all[zhu])
def z0dk(a b:kz7):eqB a b=(eqB a.weight b.weight&&(eqB a.when_ b.when_&&eqB a.do_ b.do_)):=y3e (by
 have⟨i,h,g⟩:=a;have⟨b1,b2,d⟩:=b;simp_all[zhu])
def z0cz(a b:yz7):eqB a b=(eqB a.name b.name&&(eqB a.params b.params&&eqB a.cases b.cases)):=y3e (by
 have⟨i,h,g⟩:=a;have⟨b1,b2,d⟩:=b;simp_all[zhu])
def z0c4(a b:yz2):eqB a b=(eqB a.attrs b.attrs&&eqB a.rules b.rules):=y3e (by
 have⟨g,d⟩:=a;have⟨b1,b2⟩:=b;simp_all[zhu])
def ifB(c):(if c=true then true else false)=c:=by cases c <;> rfl
def z003{c}(D:c.size<=8000000):∃b,Ev (λn=>z8a n c) b:=by
 have:=@yhq c;have:=@zyv c;have list:∀l:kz9,Ev (λn=>z5w n l) (yzv l):=λl=>by rw[y58,Ev.yz0];rfl
 have C:=by
  refine zv2 (L:=λn k=>z2c n k c) (len:=c.do_.length) ⟨false,by rw[zl6,Ev.kz0 (by simp),Ev.yz0]⟩ λk h v y =>?_
  have z:=Qad h;have A:=zyy z;have:=@ycx c.do_[k];have:=@y82 c.do_[k]
  have B:=by
   refine zv2 (L:=λn j=>z29 n j (k:Int) c) (len:=c.do_[k].items.length) ⟨v,by rw[zl3,Ev.yz1 (zz5 h),Ev.kz0 (by simp),wrk (by omega),kz7.kz3];exact y⟩ λj m w u =>?_
   have:=y9i (Qad m);have:=@ydg c.do_[k].items[j]
   have q:∀b,∃d,Ev (λn=>z2b n (k:Int) (j:Int) b c) d:=λb=>by
    cases b;exact⟨w,by rw[zlc,Ev.kz0 (by rfl),wrk (by omega),kz7.kz3];exact u⟩
    simp_all[zlc,Ev.zz1,Ev.yz0]
   have⟨g,i⟩:=zs0 (e:=yzv c.do_[k].items[j].args) (by rw[zew];omega);simp only[zl3,Ev.yz1 (zz5 h)];simp only[Ev.zz1 (show decide ((j:Int)<(c.do_[k].items.length:Int))=true by simpa using m),Ev.yz1 (zz5 h),Ev.yz1 (zz5 m),Ev.zz0 (list _),zz2.kz3,kz7.kz3,Ev.zz0 i,Ev.pif];split <;> exact q _
  have o:∀b,∃d,Ev (λn=>z0o n (k:Int) b c) d:=λb=>by
   cases b
   simp_all[zl7,Ev.kz0]
   simp_all[zl7,Ev.zz1,Ev.yz0]
  have⟨g,i⟩:=zs0 (e:=yzv c.do_[k].args) (by rw[zew];omega);simp only[zl6,Ev.zz1 (show decide ((k:Int)<(c.do_.length:Int))=true by simpa using h),Ev.yz1 (zz5 h),Ev.zz0 (list _),zz2.kz3,kz7.kz3,Ev.zz0 i,Ev.pif];split;exact o _;split <;> exact o _
 have s:∀b,∃d,Ev (λn=>z2a n b c) d:=λb=>by
  cases b
  simp_all[zla,Ev.kz0]
  simp_all[zla,Ev.zz1,Ev.yz0]
 have⟨g,i⟩:=zs0 (e:=c.when_) (by omega);simp only[y6o,Ev.pif,kz7.kz3,zz2.kz3,Ev.zz0 i];split <;> exact s _
def great{p}(E:p.size<=8000000):∃b,Ev (λn=>zdq n p) b:=by
 have:=@y5w p;have:=@zv4 p
 have u:=by
  refine zv2 (L:=λn k=>z73 n k p) (len:=p.rules.length) ⟨false,by rw[zri,Ev.kz0 (by simp),Ev.yz0]⟩ λk h v m =>?_
  have B:=zuw (Qad h);have:=@y5e p.rules[k];have:=@y2g p.rules[k]
  have s:=by
   refine zv2 (L:=λn j=>z7a n j (k:Int) p.rules[k] p) (len:=p.rules[k].cases.length) ⟨v,by rw[zsn,Ev.kz0 (by simp),wrk (by omega)];exact m⟩ λj i w l =>?_
   have⟨g,o⟩:=z003 (c:=p.rules[k].cases[j]) (by have:=zvo (Qad i);omega);simp only[zsn (a:=(j:Int)),Ev.zz1 (show decide ((j:Int)<(p.rules[k].cases.length:Int))=true by simpa using i),Ev.yz1 (zz5 i),kz7.kz3,Ev.zz0 o];simp only[Ev.pif];split;exact⟨true,Ev.pure rfl⟩;exact⟨w,by rw[wrk (by omega)];exact l⟩
  have C:∃b,Ev (λn=>z3x n 0 (k:Int) p.rules[k] p) b:=by
   have⟨d,A⟩:=s;refine zv2 (L:=λn j=>z3x n j (k:Int) p.rules[k] p) (len:=p.rules[k].params.length) ⟨d,by simp_all[zs8,Ev.kz0]⟩ λj i w l =>?_
   simp only[zs8 (a:=(j:Int)),Ev.zz1 (show decide ((j:Int)<(p.rules[k].params.length:Int))=true by simpa using i),Ev.yz1 (zz5 i),Ev.pif];split;exact⟨true,Ev.pure rfl⟩;exact⟨w,by rw[wrk (by omega)];exact l⟩
  have q:∀b,∃d,Ev (λn=>z43 n (k:Int) b p.rules[k] p) d:=λb=>by
   cases b
   simp_all[zr5,Ev.kz0]
   simp_all[zr5,Ev.zz1,Ev.yz0]
  simp only[zri,Ev.zz1 (show decide ((k:Int)<(p.rules.length:Int))=true by simpa using h),Ev.yz1 (zz5 h),Ev.pif];split;exact q _;split <;> exact q _
 have D:∃b,Ev (λn=>z3w n 0 p) b:=by
  have⟨d,A⟩:=u;refine zv2 (L:=λn k=>z3w n k p) (len:=p.attrs.length) ⟨d,by simp_all[zrz,Ev.kz0]⟩ λk h v m =>?_
  have:=yd2 (Qad h);have:=@ycz p.attrs[k]
  have y:∀b,∃d,Ev (λn=>z6m n (k:Int) b p) d:=λb=>by
   cases b;exact⟨v,by rw[zsk,Ev.kz0 (by rfl),wrk (by omega)];exact m⟩
   simp_all[zsk,Ev.zz1,Ev.yz0]
  have⟨g,o⟩:=zs0 (e:=p.attrs[k].value) (by omega);simp only[zrz,Ev.zz1 (show decide ((k:Int)<(p.attrs.length:Int))=true by simpa using h),Ev.yz1 (zz5 h),zz2.kz3,Ev.zz0 o,Ev.pif];split <;> exact y _
 have z:∀b,∃d,Ev (λn=>z6r n b p) d:=λb=>by
  cases b
  simp_all[zse,Ev.kz0]
  simp_all[zse,Ev.zz1,Ev.yz0]
 simp only[yjy,Ev.pif];split <;> exact z _
def zlo(c:kz7):Bool:=decide (10<c.do_.length)||c.do_.any λa=>decide (10<a.items.length)
def zir(r:yz7):Bool:=decide (4<r.params.length)||(decide (6<r.cases.length)||r.cases.any zlo)
def zui(p:yz2):Bool:=decide (20<p.attrs.length)||(decide (40<p.rules.length)||p.rules.any zir)
def gt4{k:Nat}:decide ((k:Int)>4)=decide (4<k):=decide_eq_decide.2 (by omega)
def gt6{k:Nat}:decide ((k:Int)>6)=decide (6<k):=decide_eq_decide.2 (by omega)
def gt10{k:Nat}:decide ((k:Int)>10)=decide (10<k):=decide_eq_decide.2 (by omega)
def gt20{k:Nat}:decide ((k:Int)>20)=decide (20<k):=decide_eq_decide.2 (by omega)
def gt40{k:Nat}:decide ((k:Int)>40)=decide (40<k):=decide_eq_decide.2 (by omega)
def orB{c d}{γ:Type}{x y:γ}:(if (c||d)=true then x else y)=if c=true then x else if d=true then x else y:=by cases c <;> rfl
def yyy{p}(E:p.size<=8000000):Ev (λn=>zfm n p) (zui p):=by
 have:=@zv4 p
 have q:Ev (λn=>z5a n 0 p.rules (p.rules.length:Int)) (if p.rules.any zir=true then true else false):=by
  refine zqz (L:=λn k=>z5a n k p.rules (p.rules.length:Int)) (by rw[zvl,Ev.kz0 (by simp),Ev.yz0]) λk d v u =>?_
  have:=zuw (Qad d);have:=@y5e p.rules[k];have:=@y2g p.rules[k]
  have B:Ev (λn=>z5l n 0 p.rules[k].cases p.rules (p.rules.length:Int) (k:Int) (p.rules[k].cases.length:Int)) (if p.rules[k].cases.any zlo=true then true else v):=by
   refine zqz (L:=λn j=>z5l n j p.rules[k].cases p.rules (p.rules.length:Int) (k:Int) (p.rules[k].cases.length:Int)) (by rw[zw0,Ev.kz0 (by simp),wrk (by omega)];exact u) λj g w s =>?_
   have:=zvo (Qad g);have:=@zyv p.rules[k].cases[j]
   have h:∀b,Ev (λn=>z8t n p.rules[k].cases p.rules (p.rules.length:Int) (k:Int) (p.rules[k].cases.length:Int) (j:Int) b) (if b=true then true else w):=λb=>by
    cases b;rw[zvb,Ev.kz0 (by rfl),wrk (by omega)];exact s
    simp_all[zvb,Ev.zz1,Ev.yz0]
   have⟨i,A,z⟩:=yc7 (S:=λn x=>zce n x) (l:=p.rules[k].cases[j].do_) (p:=λa=>decide (10<a.items.length)) (L:=λn k l m=>yzd n k l m) (λn k=>yzd.eq_2 _ _ _ n) (by omega) λx D=>by
    rw[yeg,Ev.yz0];exact gt10
   have y:Ev (λn=>zzd n p.rules[k].cases[j].do_) (p.rules[k].cases[j].do_.any λa=>decide (10<a.items.length)):=by
    rw[ze0,Ev.zz0 (by rw[zf1];exact A),Ev.yz0,z]
   rw[zw0,Ev.zz1 (by simpa using g),Ev.yz1 (zz5 g),zlo,orB,Ev.pif,gt10];split;exact h true;rw[Ev.zz0 y];exact h _
  have o:∀b,Ev (λn=>z7p n p.rules (p.rules.length:Int) (k:Int) b p.rules[k]) (if b=true then true else if p.rules[k].cases.any zlo=true then true else v):=λb=>by
   cases b
   simp_all[zu8,Ev.kz0]
   simp_all[zu8,Ev.zz1,Ev.yz0]
  rw[zvl,Ev.zz1 (by simpa using d),Ev.yz1 (zz5 d),zir,orB,orB,Ev.pif,gt4,gt6];split;exact o true;exact o _
 have C:∀b,Ev (λn=>z88 n b p) (b||p.rules.any zir):=λb=>by
  cases b;rw[ztn,Ev.kz0 (by rfl),ifB]at *;exact q
  simp_all[ztn,Ev.zz1,Ev.yz0]
 rw[ym4,Ev.pif,gt20,gt40,zui];split
 simp_all
 grind
def z023{p}(A:p.size<=8000000):Ev (λn=>zfb n p) (zui p):=by
 have:=@zv4 p
 have m:Ev (λn=>z5k n 0 p) (if p.rules.any zir=true then true else false):=by
  refine zqz (L:=λn k=>z5k n k p) (by rw[zux,Ev.kz0 (by simp),Ev.yz0]) λk g v q =>?_
  have:=zuw (Qad g);have:=@y5e p.rules[k];have:=@y2g p.rules[k]
  have s:Ev (λn=>z5n n 0 (k:Int) p.rules[k] p) (if p.rules[k].cases.any zlo=true then true else v):=by
   refine zqz (L:=λn j=>z5n n j (k:Int) p.rules[k] p) (by rw[zul,Ev.kz0 (by simp),wrk (by omega)];exact q) λj d w o =>?_
   have:=zvo (Qad d);have:=@zyv p.rules[k].cases[j]
   have l:Ev (λn=>z5g n 0 (j:Int) (k:Int) p.rules[k] p) (if (p.rules[k].cases[j].do_.any λa=>decide (10<a.items.length))=true then true else w):=by
    refine zqz (L:=λn i=>z5g n i (j:Int) (k:Int) p.rules[k] p) (by rw[zvg,Ev.yz1 (zz5 d),Ev.kz0 (by simp),wrk (by omega)];exact o) λi hi u z =>?_
    rw[zvg,Ev.yz1 (zz5 d),Ev.zz1 (by simpa using hi),Ev.yz1 (zz5 d),Ev.yz1 (zz5 hi),Ev.pif,gt10,wrk (by omega),Ev.yz0]
    grind
   rw[zul,Ev.zz1 (by simpa using d),Ev.yz1 (zz5 d),zlo,orB,Ev.pif,gt10];split;exact Ev.pure rfl;exact l
  have h:∀b,Ev (λn=>z81 n (k:Int) b p.rules[k] p) (if b=true then true else if p.rules[k].cases.any zlo=true then true else v):=λb=>by
   cases b
   simp_all[ztr,Ev.kz0]
   simp_all[ztr,Ev.zz1,Ev.yz0]
  rw[zux,Ev.zz1 (by simpa using g),Ev.yz1 (zz5 g),zir,orB,orB,Ev.pif,gt4,gt6];split;exact h true;exact h _
 have y:∀b,Ev (λn=>z7o n b p) (b||p.rules.any zir):=λb=>by
  cases b;rw[zvr,Ev.kz0 (by rfl),ifB]at *;exact m
  simp_all[zvr,Ev.zz1,Ev.yz0]
 rw[ymj,Ev.pif,gt20,gt40,zui];split
 simp_all
 grind
def kept:List B8:=[[116,114,117,101],[102,97,108,115,101],[115,120],[115,121],[115,122]]
def zas(s:B8):Bool:=zbq s && !(kept.any λx=>s==x)
def zmv{s}(b:s.length<=8388608):Ev (λn=>z4i n s) (zas s):=by
 have⟨i,h,g⟩:=yc7 (S:=λn x=>some (s==x)) (l:=kept) (p:=λx=>s==x) (L:=λn k l m=>zz7 n k l s m) (λn k=>zz7.eq_2 _ _ _ _ n) (by decide) λx j=>Ev.pure rfl
 have d:Ev (λn=>kzr n kept s) (kept.any λx=>s==x):=by
  rw[zjt,Ev.zz0 (by rw[z9q];exact h),Ev.yz0,g]
 rw[yhb,Ev.zz0 (ygp b),zas];refine y3n λ_ =>?_
 exact(Ev.zz0 d).2 (Ev.pure rfl)
def zoq{s}(b:s.length<=8388608):Ev (λn=>z5x n s) (zas s):=by
 have d:Ev (λn=>zc8 n s) ((s==[115,120])||((s==[115,121])||(s==[115,122]))):=by
  rw[yfc,Ev.pif];split;rename_i h;rw[h];exact Ev.pure rfl;rename_i h;rw[Ev.pif];simp only[h,Bool.false_or];split;rename_i h;rw[h];exact Ev.pure rfl;rename_i h;simp[h,Bool.false_or];exact Ev.pure rfl
 have e:zas s=(zbq s&&(!(s==[116,114,117,101])&&(!(s==[102,97,108,115,101]) && !((s==[115,120])||((s==[115,121])||(s==[115,122])))))):=by
  simp_all[zas,kept]
 rw[yo1,Ev.zz0 (ygh b),e];refine y3n λ_=>y3n λ_=>y3n λ_ =>?_
 rw[Ev.zz0 d,Ev.yz0]
def ypg:zas []=false:=rfl
theorem z012{α:Type}{l:List α}:decide ((l.length:Int)>0) = !l.isEmpty:=by cases l <;> simp
def sc_t{α:Type}{k:Int}{l:List α}(h:¬(k=5↔l≠[])):(!((k==5)==decide ((l.length:Int)>0)))=true:=by
 grind[z012]
def sc_f{α:Type}{k:Int}{l:List α}(h:k=5↔l≠[]):(!((k==5)==decide ((l.length:Int)>0)))=false:=by
 rw[z012];grind
def own(k:Int):Int:=if k=2∨k=3 then 3 else if k=4∨k=6 then 1 else 0
def yca{k}:Ev (λn=>zcq n k) (own k):=by
 have d:∀b,Ev (λn=>zag n b) (if b=true then 1 else 0):=λb=>by cases b <;> rw[yeo] <;> exact Ev.pure rfl
 have g:∀b,Ev (λn=>zal n k b) (if b=true then 3 else if k=4∨k=6 then 1 else 0):=λb=>by
  rw[yfm,Ev.pif];split;exact Ev.pure rfl;rw[Ev.pif];split
  simp_all
  rename_i h;have h:=by simpa using h
  refine(d _).to ?_
  grind
 rw[yqo,Ev.pif,own];split
 simp_all
 refine(g _).to ?_
 grind
def yp2{k}:Ev (λn=>zey n k) (own k):=by
 have d:∀b,Ev (λn=>zac n b) (if b=true then 1 else 0):=λb=>by cases b <;> rw[yfe] <;> exact Ev.pure rfl
 have g:∀b,Ev (λn=>zah n k b) (if b=true then 3 else if k=4∨k=6 then 1 else 0):=λb=>by
  rw[yer,Ev.pif];split;exact Ev.pure rfl;rw[Ev.pif];split
  simp_all
  rename_i h;have h:=by simpa using h
  refine(d _).to ?_
  grind
 rw[yt3,Ev.pif,own];split
 simp_all
 refine(g _).to ?_
 grind
noncomputable def znn(x:yzq):Bool:=decide (1<=x.kind)&&(decide (x.kind<=3)&&(zas x.name&&(!x.args.isEmpty&&(z50 (yzv x.args)==0))))
def RAct(a:zz4):Prop:=(1<=a.kind∧a.kind<=6)∧(a.axis<=if a.kind=4∨a.kind=5 then 2 else 0)∧(if a.kind<=4 then zas a.name=true else a.name=[])∧z50 (yzv a.args)=0∧(own a.kind<=a.args.length)∧(4<a.kind->(a.args.length:Int)=own a.kind)∧(a.kind=5↔a.items≠[])∧a.items.all znn=true
noncomputable def z0q(a:zz4):Bool:=@decide (RAct a) (Classical.propDecidable _)
def zj9{a}:z0q a=true↔RAct a:=@decide_eq_true_iff _ (Classical.propDecidable _)
def zc9{a}(h:¬RAct a):z0q a=false:=@decide_eq_false _ (Classical.propDecidable _) h
def ypr{l}(b:(yzv l).wf)(d:(l.map zz2.size).sum<=8000000):Ev (λn=>z0y n (yzv l)) (z50 (yzv l)):=zll b (by rw[zew];omega)
def neI{k:Int}:(k != 0) = !(k==0):=rfl
def z01c{a:zz4}(G:a.wf)(hs:a.size<=8000000):Ev (λn=>z7f n a) (z0q a):=by
 have:=@ycx a;have:=@y82 a;have:=@z0e7 a;have list:∀l:kz9,Ev (λn=>z4h n l) (yzv l):=λl=>by rw[y5j,Ev.yz0];rfl
 have⟨⟨h5,P⟩,W,H⟩:=z03f G
 have Q:Ev (λn=>z0e n 0 a.items (a.items.length:Int)) (if a.items.all znn=true then true else false):=by
  refine zdl (L:=λn k=>z0e n k a.items (a.items.length:Int)) (by rw[zku,Ev.kz0 (by simp),Ev.yz0]) λk I v R =>?_
  have D:=Qad I;have:=y9i D;have:=@ydg a.items[k];have:=@z0dy a.items[k]
  have s:∀b,Ev (λn=>yzp n a.items (a.items.length:Int) (k:Int) (!b)) (if b=true then v else false):=λb=>by
   cases b;rw[zkj,Ev.zz1 (by rfl),Ev.yz0];rfl;rw[zkj,Ev.kz0 (by rfl),wrk (by omega)];exact R
  rw[zku,Ev.zz1 (by simpa using I),Ev.yz1 (zz5 I),znn];generalize a.items[k]=x at *;by_cases i:1<=x.kind
  case neg=>rw[Ev.zz1 (by simp;omega),Qbl i];exact s false
  rw[Ev.kz0 (by simp;omega),Qbm i];by_cases m:x.kind<=3
  case neg=>rw[Ev.zz1 (by simp;omega),Qbl m];exact s false
  rw[Ev.kz0 (by simp;omega),Qbm m,Ev.zz0 (zmv (by omega))];cases h3:zas x.name;exact s false;rw[Ev.kz0 (by rfl)];cases J:x.args.isEmpty
  case true=>rw[Ev.zz1 (by rw[List.isEmpty_iff.1 J];rfl)];exact s false
  have o:x.args≠[]:=by intro h;rw[h]at J;cases J
  have o:x.args.length≠0:=by intro h;exact o (List.length_eq_zero_iff.1 h)
  rw[Ev.kz0 (by simpa using o),Ev.zz0 (list _),zz2.kz3,Ev.zz0 (ypr (z0bf (z03q G D)) (by omega)),neI];exact s _
 have B:∀b,(b=false->((1<=a.kind∧a.kind<=6)∧(a.axis<=if a.kind=4∨a.kind=5 then 2 else 0)∧(if a.kind<=4 then zas a.name=true else a.name=[])∧z50 (yzv a.args)=0∧(own a.kind<=a.args.length)∧(4<a.kind->(a.args.length:Int)=own a.kind)))->(b=true->¬RAct a)->Ev (λn=>yzu n b a) (z0q a):=λb y u=>by
  cases b
  case true=>rw[zjn,Ev.zz1 (by rfl),Ev.yz0,zc9 (u rfl)]
  have⟨Z,Y,E,X,U,T⟩:=y rfl;rw[zjn,Ev.kz0 (by rfl)];by_cases h:a.kind=5↔a.items≠[]
  case neg=>
   rw[Ev.zz1 (sc_t h),Ev.yz0,zc9 (λq=>h q.2.2.2.2.2.2.1)]
  rw[Ev.kz0 (sc_f h)];refine Q.to ?_;by_cases q:a.items.all znn=true;rw[Qbq q,zj9.2 ⟨Z,Y,E,X,U,T,h,q⟩];rw[Qbr q,zc9 (λz=>q z.2.2.2.2.2.2.2)]
 have C:∀c:Bool,(c=decide (1<=a.kind∧a.kind<=4))->((1<=a.kind∧a.kind<=6)∧(a.axis<=if a.kind=4∨a.kind=5 then 2 else 0))->∀b,(b=false->(if a.kind<=4 then zas a.name=true else a.name=[]))->(b=true->¬RAct a)->Ev (λn=>z0b n c b a) (z0q a):=λc d j b y u=>by
  cases b
  case true=>rw[zkb,Ev.zz1 (by rfl),Ev.yz0,zc9 (u rfl)]
  have E:=y rfl;rw[zkb,Ev.kz0 (by rfl),Ev.zz0 (list _),zz2.kz3,Ev.zz0 (ypr (z09k G) (by omega))];by_cases i:z50 (yzv a.args)=0
  case neg=>rw[Ev.zz1 (by simpa using i)];exact B true (λh=>by cases h) λ_ q=>i q.2.2.2.1
  rw[Ev.kz0 (by simpa using i),Ev.zz0 yca];by_cases m:own a.kind<=a.args.length
  case neg=>rw[Ev.zz1 (by simp;omega)];exact B true (λh=>by cases h) λ_ q=>m q.2.2.2.2.1
  rw[Ev.kz0 (by simp;omega)];cases A:c;rw[Ev.zz1 (by rfl),Ev.zz0 yca];have g:4<a.kind:=by rw[A]at d;have:=of_decide_eq_false d.symm;omega
  refine B _ (λh=>⟨j.1,j.2,E,i,m,λ_=>by simpa using h⟩) λh q =>?_
  have:=q.2.2.2.2.2.1 g;simp[this]at h;rw[Ev.kz0 (by rfl)];have g:a.kind<=4:=by rw[A]at d;have:=Qac d.symm;omega
  exact B _ (λh=>⟨j.1,j.2,E,i,m,λh=>by omega⟩) λh=>by cases h
 have F:∀c:Bool,(c=decide (1<=a.kind∧a.kind<=4))->∀b,(b=false->((1<=a.kind∧a.kind<=6)∧(a.axis<=if a.kind=4∨a.kind=5 then 2 else 0)))->(b=true->¬RAct a)->Ev (λn=>z08 n c b a) (z0q a):=λc d b y u=>by
  cases b
  case true=>rw[zki,Ev.zz1 (by rfl),Ev.yz0,zc9 (u rfl)]
  have j:=y rfl;rw[zki,Ev.kz0 (by rfl),Ev.zz0 (zmv (by omega))];by_cases g:a.kind<=4;rw[Qbm (by omega)]at d;subst d;cases w:zas a.name;exact C true (by rw[Qbm (by omega)]) j true (λh=>by cases h) λ_ q=>by have:=q.2.2.1;rw[Qbq g,w]at this;cases this
  exact C true (by rw[Qbm (by omega)]) j false (λ_=>by rw[Qbq g,w]) λh=>by cases h
  rw[Qbl (by omega)]at d;subst d;cases w:zas a.name;rw[Ev.kz0 (by rfl),Ev.zz1 (by rfl)];refine C false (by rw[Qbl (by omega)]) j _ (λh=>by rw[Qbr g];simpa using h) λh q =>?_
  have:=q.2.2.1;rw[Qbr g]at this;rw[this]at h;cases h
  exact C false (by rw[Qbl (by omega)]) j true (λh=>by cases h) λ_ q=>by
   have:=q.2.2.1;rw[Qbr g]at this;rw[this,ypg]at w;cases w
 have K:∀c:Bool,(c=decide (1<=a.kind∧a.kind<=4))->∀x:Int,x=(if a.kind=4∨a.kind=5 then 2 else 0)->Ev (λn=>z1h n c x a) (z0q a):=λc d x D=>by
  rw[zxc];by_cases i:1<=a.kind
  case neg=>rw[Ev.zz1 (by simp;omega)];exact F c d true (λh=>by cases h) λ_ q=>i q.1.1
  rw[Ev.kz0 (by simp;omega)];by_cases m:a.kind<=6
  case neg=>rw[Ev.zz1 (by simp;omega)];exact F c d true (λh=>by cases h) λ_ q=>m q.1.2
  rw[Ev.kz0 (by simp;omega),D];refine F c d _ (λh=>⟨⟨i,m⟩,by have:=of_decide_eq_false h;omega⟩) λh q =>?_
  have:=Qac h;have:=q.2.1;omega
 have M:∀c:Bool,(c=decide (1<=a.kind∧a.kind<=4))->∀b:Bool,b=decide (a.kind=4∨a.kind=5)->Ev (λn=>z1f n c 0 b a) (z0q a):=λc d b O=>by
  rw[zx0];by_cases h:a.kind=4∨a.kind=5;rw[O,Qbm h,Ev.zz1 rfl];exact K c d _ (by rw[Qbq h]);rw[O,Qbl h,Ev.kz0 rfl];exact K c d _ (by rw[Qbr h])
 have N:∀c:Bool,(c=decide (1<=a.kind∧a.kind<=4))->Ev (λn=>z1b n c a) (z0q a):=λc d=>by
  rw[zwc];by_cases h:a.kind=4;rw[Ev.zz1 (by simpa using h)];exact M c d true (by rw[Qbm (.inl h)]);rw[Ev.kz0 (by simpa using h)];exact M c d _ (by by_cases q:a.kind=5 <;> simp[q,h])
 rw[y45];by_cases h:1<=a.kind;rw[Ev.zz1 (by simpa using h)];exact N _ (by simp[h]);rw[Ev.kz0 (by simpa using h)];exact N _ (by simp[h])
def yyt{a:zz4}(Y:a.wf)(hs:a.size<=8000000):Ev (λn=>zc6 n a) (z0q a):=by
 have:=@ycx a;have:=@y82 a;have:=@z0e7 a;have list:∀l:kz9,Ev (λn=>z5w n l) (yzv l):=λl=>by rw[y58,Ev.yz0];rfl
 have⟨⟨hc,h9⟩,h8,h7⟩:=z03f Y
 have U:Ev (λn=>z3b n 0 a) (if a.items.all znn=true then true else false):=by
  refine zdl (L:=λn k=>z3b n k a) (by rw[zos,Ev.kz0 (by simp),Ev.yz0]) λk i v Z =>?_
  have X:=Qad i;have:=y9i X;have:=@ydg a.items[k];have:=@z0dy a.items[k]
  have o:∀b,Ev (λn=>z0h n (k:Int) (!b) a) (if b=true then v else false):=λb=>by
   cases b;rw[zpa,Ev.zz1 (by rfl),Ev.yz0];rfl;rw[zpa,Ev.kz0 (by rfl),wrk (by omega)];exact Z
  rw[zos,Ev.zz1 (by simpa using i),Ev.yz1 (zz5 i),znn];generalize a.items[k]=x at *;by_cases A:1<=x.kind
  case neg=>rw[Ev.zz1 (by simp;omega),Qbl A];exact o false
  rw[Ev.kz0 (by simp;omega),Qbm A];by_cases y:x.kind<=3
  case neg=>rw[Ev.zz1 (by simp;omega),Qbl y];exact o false
  rw[Ev.kz0 (by simp;omega),Qbm y,Ev.zz0 (zoq (by omega))];cases w:zas x.name;exact o false;rw[Ev.kz0 (by rfl)];cases E:x.args.isEmpty
  case true=>rw[Ev.zz1 (by rw[List.isEmpty_iff.1 E];rfl)];exact o false
  have j:x.args≠[]:=by intro h;rw[h]at E;cases E
  have j:x.args.length≠0:=by intro h;exact j (List.length_eq_zero_iff.1 h)
  rw[Ev.kz0 (by simpa using j),Ev.zz0 (list _),zz2.kz3,Ev.zz0 (zj3 (by rw[zew];omega)),neI];exact o _
 have K:((1<=a.kind∧a.kind<=6)∧(a.axis<=if a.kind=4∨a.kind=5 then 2 else 0)∧(if a.kind<=4 then zas a.name=true else a.name=[])∧z50 (yzv a.args)=0∧(own a.kind<=a.args.length)∧(4<a.kind->(a.args.length:Int)=own a.kind))->Ev (λn=>z4u n a) (z0q a):=λ⟨J,I,P,G,F,W⟩=>by
  rw[y65];by_cases h:a.kind=5↔a.items≠[]
  case neg=>
   rw[Ev.zz1 (sc_t h),Ev.yz0,zc9 (λq=>h q.2.2.2.2.2.2.1)]
  rw[Ev.kz0 (sc_f h)];refine U.to ?_;by_cases q:a.items.all znn=true;rw[Qbq q,zj9.2 ⟨J,I,P,G,F,W,h,q⟩];rw[Qbr q,zc9 (λz=>q z.2.2.2.2.2.2.2)]
 have s:(1<=a.kind∧a.kind<=6)∧(a.axis<=if a.kind=4∨a.kind=5 then 2 else 0)∧z50 (yzv a.args)=0∧own a.kind<=a.args.length->4<a.kind->∀b:Bool,(b=true↔¬(a.name=[]∧(a.args.length:Int)=own a.kind))->Ev (λn=>kzv n b a) (z0q a):=λ⟨J,I,G,F⟩ i b u=>by
  cases b
  case true=>rw[zp6,Ev.zz1 (by rfl),Ev.yz0,zc9];exact λq=>u.1 rfl ⟨by have:=q.2.2.1;rwa[Qbr (by omega)]at this,q.2.2.2.2.2.1 i⟩
  have⟨T,R⟩:=Classical.byContradiction λq=>Bool.noConfusion (u.2 q)
  rw[zp6,Ev.kz0 (by rfl)];exact K ⟨J,I,by rw[Qbr (by omega)];exact T,G,F,λ_=>R⟩
 have M:(1<=a.kind∧a.kind<=6)∧(a.axis<=if a.kind=4∨a.kind=5 then 2 else 0)∧z50 (yzv a.args)=0∧own a.kind<=a.args.length->Ev (λn=>z4y n a) (z0q a):=λd=>by
  have nm:decide ((a.name.length:Int)>0) = !(a.name==[]):=by rw[z012];cases a.name <;> rfl
  rw[y6e];by_cases m:a.kind=5
  ·rw[Ev.zz1 (by simpa using m),zim,Ev.zz1 (by rfl),nm];have C:own a.kind=0:=by rw[m];rfl
   by_cases g:a.name=[]
   case neg=>rw[Ev.zz1 (by simpa using g)];exact s d (by omega) true (by simp[g])
   rw[Ev.kz0 (by simpa using g),Ev.zz1 (by simpa using m)];by_cases Q:(a.args.length:Int)=0;rw[Ev.kz0 (Qbl (by omega)),Ev.kz0 (by rw[m];rfl)];exact s d (by omega) false ⟨λh=>(Bool.noConfusion h),λh=>(h ⟨g,by rw[C];exact Q⟩).elim⟩;rw[Ev.zz1 (Qbm (by omega))];exact s d (by omega) true ⟨λ_ h=>Q (by rw[<-C];exact h.2),λ_=>rfl⟩
  rw[Ev.kz0 (by simpa using m)];by_cases D:a.kind=6
  ·rw[show(a.kind==6)=true by simpa using D,zim,Ev.zz1 (by rfl),nm];have C:own a.kind=1:=by rw[D];rfl
   by_cases g:a.name=[]
   case neg=>rw[Ev.zz1 (by simpa using g)];exact s d (by omega) true (by simp[g])
   rw[Ev.kz0 (by simpa using g),Ev.kz0 (by simpa using m),Ev.zz1 (by simpa using D)];have:=d.2.2.2;refine s d (by omega) _ ?_;rw[C]at this ⊢;simp only[Qar,g,true_and];omega
  rw[show(a.kind==6)=false by simpa using D,zim,Ev.kz0 (by rfl),Ev.zz0 (zoq (by omega))];have i:a.kind<=4:=by have:=d.1;omega
  cases g:zas a.name;rw[Ev.zz1 (by rfl),Ev.yz0,zc9];exact λq=>by have:=q.2.2.1;rw[Qbq i,g]at this;cases this
  rw[Ev.kz0 (by rfl)];exact K ⟨d.1,d.2.1,by rw[Qbq i,g],d.2.2.1,d.2.2.2,λh=>by omega⟩
 have N:(1<=a.kind∧a.kind<=6)∧z50 (yzv a.args)=0∧own a.kind<=a.args.length->∀b:Bool,b=decide (a.kind=4∨a.kind=5)->Ev (λn=>z4q n b a) (z0q a):=λd b u=>by
  rw[y7h];by_cases h:a.kind=4∨a.kind=5;rw[u,Qbm h,Ev.zz1 rfl];by_cases q:a.axis<=2;rw[Ev.kz0 (by simp;omega)];exact M ⟨d.1,by rw[Qbq h];exact q,d.2⟩;rw[Ev.zz1 (by simp;omega),Ev.yz0,zc9];exact λz=>q (by have:=z.2.1;rwa[Qbq h]at this)
  rw[u,Qbl h,Ev.kz0 rfl];by_cases q:a.axis<=0;rw[Ev.kz0 (by simp;omega)];exact M ⟨d.1,by rw[Qbr h];exact q,d.2⟩;rw[Ev.zz1 (by simp;omega),Ev.yz0,zc9];exact λz=>q (by have:=z.2.1;rwa[Qbr h]at this)
 have B:∀b:Bool,(b=false->(1<=a.kind∧a.kind<=6)∧z50 (yzv a.args)=0∧own a.kind<=a.args.length)->(b=true->¬RAct a)->Ev (λn=>z1g n b a) (z0q a):=λb O H=>by
  cases b
  case true=>rw[zph,Ev.zz1 (by rfl),Ev.yz0,zc9 (H rfl)]
  rw[zph,Ev.kz0 (by rfl)];by_cases h:a.kind=4;rw[Ev.zz1 (by simpa using h)];exact N (O rfl) true (by rw[Qbm (.inl h)]);rw[Ev.kz0 (by simpa using h)];exact N (O rfl) _ (by by_cases q:a.kind=5 <;> simp[q,h])
 rw[ydw];by_cases A:1<=a.kind
 case neg=>rw[Ev.zz1 (by simp;omega)];exact B true (λh=>by cases h) λ_ q=>A q.1.1
 rw[Ev.kz0 (by simp;omega)];by_cases y:a.kind<=6
 case neg=>rw[Ev.zz1 (by simp;omega)];exact B true (λh=>by cases h) λ_ q=>y q.1.2
 rw[Ev.kz0 (by simp;omega),Ev.zz0 (list _),zz2.kz3,Ev.zz0 (zj3 (by rw[zew];omega))];by_cases w:z50 (yzv a.args)=0
 case neg=>rw[Ev.zz1 (by simpa using w)];exact B true (λh=>by cases h) λ_ q=>w q.2.2.2.1
 rw[Ev.kz0 (by simpa using w),Ev.zz0 yp2];exact B _ (λh=>⟨⟨A,y⟩,w,by have:=of_decide_eq_false h;omega⟩) λh q=>by have:=Qac h;have:=q.2.2.2.2.1;omega
end Go.Proofs.YthphaiccgnkobaaGreatDoor
