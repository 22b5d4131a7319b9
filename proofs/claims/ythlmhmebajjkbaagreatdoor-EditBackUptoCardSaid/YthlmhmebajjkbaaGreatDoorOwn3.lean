/-
  What each function comes to, by its body, by a program of this repo.
-/
import Derived.Test.YthlmhmebajjkbaaGreatDoorLib8
import Derived.Test.YthlmhmebajjkbaaGreatDoorOwn2
import Derived.Lib.Bytealg
import Derived.Test.YthlmhmebajjkbaaGreatDoorLib9
import Derived.Test.YthlmhmebajjkbaaGreatDoorOwn0
set_option linter.defProp false
set_option linter.unusedSimpArgs false
set_option linter.unusedVariables false
namespace Go.Proofs.YthlmhmebajjkbaaGreatDoor
open Go Go.Ab
noncomputable section
def yik{r}(a):=evS (z2g · a) r (z2g.eq_2 a)
def zt7{r}(a b):=evS (za7 · a b) r (za7.eq_2 a b)
def zuc{r}(a b):=evS (z10 · a b) r (z10.eq_2 a b)
def ztz{r}(a b c d e):=evS (z78 · a b c d e) r (z78.eq_2 a b c d e)
def ztt{r}(a b c):=evS (z0a · a b c) r (z0a.eq_2 a b c)
def zvp{r}:=evS (z0o ·) r (z0o.eq_2)
def zwi{r}(a b):=evS (kzt · a b) r (kzt.eq_2 a b)
def zhm{r}(a b c d e f g h i j k l m o p):=evS (z17 · a b c d e f g h i j k l m o p) r (z17.eq_2 a b c d e f g h i j k l m o p)
def yah{r}(a):=evS (zbc · a) r (zbc.eq_2 a)
def ze8{r}(a):=evS (yzj · a) r (yzj.eq_2 a)
def zd0{r}(a):=evS (kzb · a) r (kzb.eq_2 a)
def yjk{r}(a):=evS (zeg · a) r (zeg.eq_2 a)
def ztw{r}(a b):=evS (z6q · a b) r (z6q.eq_2 a b)
def zti{r}(a b c):=evS (z4l · a b c) r (z4l.eq_2 a b c)
def zt9{r}(a b c d e):=evS (z7h · a b c d e) r (z7h.eq_2 a b c d e)
def zuf{r}(a b c d e f):=evS (z4b · a b c d e f) r (z4b.eq_2 a b c d e f)
def zt4{r}(a b c d e f g):=evS (z82 · a b c d e f g) r (z82.eq_2 a b c d e f g)
def zdf{r}(a b):=evS (zzm · a b) r (zzm.eq_2 a b)
def zjj{r}(a b):=evS (yzo · a b) r (yzo.eq_2 a b)
def yd8{r}(a):=evS (z3j · a) r (z3j.eq_2 a)
def y8y{r}(a):=evS (z9h · a) r (z9h.eq_2 a)
def zo4{r}(a b c d e):=evS (z3r · a b c d e) r (z3r.eq_2 a b c d e)
def y0z{r}(a):=evS (zem · a) r (zem.eq_2 a)
def zun{r}(a b c):=evS (yzw · a b c) r (yzw.eq_2 a b c)
def zsf{r}(a b c):=evS (z6x · a b c) r (z6x.eq_2 a b c)
def ztm{r}(a b c):=evS (z7e · a b c) r (z7e.eq_2 a b c)
def zu7{r}(a b c):=evS (zaa · a b c) r (zaa.eq_2 a b c)
def zuk{r}:=evS (zaf ·) r (zaf.eq_2)
def zui{r}(a):=evS (z15 · a) r (z15.eq_2 a)
def y6k{r}(a):=evS (z7p · a) r (z7p.eq_2 a)
def zmr{r}(a b c d e):=evS (z2q · a b c d e) r (z2q.eq_2 a b c d e)
def y0h{r}(a b):=evS (z2t · a b) r (z2t.eq_2 a b)
def yh3{r}(a):=evS (zbz · a) r (zbz.eq_2 a)
def ymm{r}(a b):=evS (zgz · a b) r (zgz.eq_2 a b)
def y9g{r}(a b):=evS (z9o · a b) r (z9o.eq_2 a b)
def yen{r}(a):=evS (zct · a) r (zct.eq_2 a)
def y5b{r}(a):=evS (z1l · a) r (z1l.eq_2 a)
def yjg{r}(a):=evS (zc8 · a) r (zc8.eq_2 a)
def zst{r}(a b c):=evS (z7t · a b c) r (z7t.eq_2 a b c)
def zsy{r}(a b c d):=evS (z7f · a b c d) r (z7f.eq_2 a b c d)
def zsm{r}(a b c d):=evS (z6t · a b c d) r (z6t.eq_2 a b c d)
def y73{r}(a):=evS (z2j · a) r (z2j.eq_2 a)
def ybj{r}(a):=evS (zcq · a) r (zcq.eq_2 a)
def y5c{r}(a b):=evS (z4x · a b) r (z4x.eq_2 a b)
def yjh{r}(a):=evS (zep · a) r (zep.eq_2 a)
def yil{r}(a b):=evS (z3c · a b) r (z3c.eq_2 a b)
def ztc{r}(a b c):=evS (z14 · a b c) r (z14.eq_2 a b c)
def zu9{r}(a b c d):=evS (z7z · a b c d) r (z7z.eq_2 a b c d)
def ylu{r}(a):=evS (ze2 · a) r (ze2.eq_2 a)
def yam{r}(a b):=evS (z6c · a b) r (z6c.eq_2 a b)
def yak{r}(a b):=evS (z6e · a b) r (z6e.eq_2 a b)
def ya5{r}(a b):=evS (z94 · a b) r (z94.eq_2 a b)
def y90{r}(a b):=evS (z98 · a b) r (z98.eq_2 a b)
def y9d{r}(a):=evS (z6f · a) r (z6f.eq_2 a)
def zdd{r}(a):=evS (zzc · a) r (zzc.eq_2 a)
def zf1{r}(a):=evS (yzf · a) r (yzf.eq_2 a)
def z0h{r}(a b c):=evS (zz8 · a b c) r (zz8.eq_2 a b c)
def yfx{r}(a):=evS (zd4 · a) r (zd4.eq_2 a)
def yh4{r}(a):=evS (z3i · a) r (z3i.eq_2 a)
def y6q{r}(a b):=evS (z7o · a b) r (z7o.eq_2 a b)
def y42{r}(a):=evS (z8y · a) r (z8y.eq_2 a)
def zh8{r}(a):=evS (yzq · a) r (yzq.eq_2 a)
def zff{r}(a):=evS (kzg · a) r (kzg.eq_2 a)
def y15{r}(a):=evS (z8d · a) r (z8d.eq_2 a)
def ym5{r}(a):=evS (zbo · a) r (zbo.eq_2 a)
def ya8{r}(a b):=evS (z9k · a b) r (z9k.eq_2 a b)
def yad{r}(a):=evS (z95 · a) r (z95.eq_2 a)
def y0p{r}(a):=evS (z69 · a) r (z69.eq_2 a)
def zv4{r}(a b):=evS (z0l · a b) r (z0l.eq_2 a b)
def zvz{r}(a b c d):=evS (z0n · a b c d) r (z0n.eq_2 a b c d)
def zvg{r}(a b c):=evS (z0m · a b c) r (z0m.eq_2 a b c)
def zkb{r}(a b c):=evS (kzw · a b c) r (kzw.eq_2 a b c)
def zk0{r}(a b c):=evS (kzx · a b c) r (kzx.eq_2 a b c)
def zk8{r}(a b):=evS (yzr · a b) r (yzr.eq_2 a b)
def zjz{r}(a b c):=evS (zzx · a b c) r (zzx.eq_2 a b c)
def zjv{r}(a b c d):=evS (yzl · a b c d) r (yzl.eq_2 a b c d)
def ya7{r}(a):=evS (zb4 · a) r (zb4.eq_2 a)
def zox{r}(a b c d):=evS (z2c · a b c d) r (z2c.eq_2 a b c d)
def zoa{r}(a b c d e):=evS (z44 · a b c d e) r (z44.eq_2 a b c d e)
def zp0{r}(a b c):=evS (z1y · a b c) r (z1y.eq_2 a b c)
def zoe{r}(a b c d e):=evS (z3y · a b c d e) r (z3y.eq_2 a b c d e)
def zou{r}(a b c d e f):=evS (z25 · a b c d e f) r (z25.eq_2 a b c d e f)
def zon{r}(a b c d e f g h):=evS (z29 · a b c d e f g h) r (z29.eq_2 a b c d e f g h)
def znv{r}(a b c d e f g h i):=evS (z1s · a b c d e f g h i) r (z1s.eq_2 a b c d e f g h i)
def zk4{r}(a b):=evS (zzo · a b) r (zzo.eq_2 a b)
def z3b{r}(a b c d):=evS (zzg · a b c d) r (zzg.eq_2 a b c d)
def zhl{r}(a b):=evS (zzl · a b) r (zzl.eq_2 a b)
def yiy{r}(a b):=evS (zc1 · a b) r (zc1.eq_2 a b)
def zsr{r}(a b c):=evS (za8 · a b c) r (za8.eq_2 a b c)
def y77{r}(a b):=evS (z6u · a b) r (z6u.eq_2 a b)
def ztf{r}(a b c d):=evS (z6z · a b c d) r (z6z.eq_2 a b c d)
def yj3{r}(a):=evS (zcb · a) r (zcb.eq_2 a)
def y9u{r}(a b c):=evS (zb2 · a b c) r (zb2.eq_2 a b c)
def zh3{r}(a b c):=evS (kzq · a b c) r (kzq.eq_2 a b c)
def z1p{r}(a b c d e):=evS (zzb · a b c d e) r (zzb.eq_2 a b c d e)
def zfn{r}(a b c):=evS (yzg · a b c) r (yzg.eq_2 a b c)
def yid{r}(a b c):=evS (zc0 · a b c) r (zc0.eq_2 a b c)
def yec{r}(a):=evS (zdb · a) r (zdb.eq_2 a)
def zq0{r}(a b c d):=evS (z5j · a b c d) r (z5j.eq_2 a b c d)
def zpm{r}(a b c d e f g):=evS (z61 · a b c d e f g) r (z61.eq_2 a b c d e f g)
def zr1{r}(a b c d e f g h i j):=evS (z5v · a b c d e f g h i j) r (z5v.eq_2 a b c d e f g h i j)
def y6w{r}(a b c):=evS (zad · a b c) r (zad.eq_2 a b c)
def zgn{r}(a b c):=evS (kzo · a b c) r (kzo.eq_2 a b c)
def z1f{r}(a b c d e):=evS (zza · a b c d e) r (zza.eq_2 a b c d e)
def zez{r}(a b c):=evS (kzf · a b c) r (kzf.eq_2 a b c)
def ydv{r}(a):=evS (zao · a) r (zao.eq_2 a)
def zpk{r}(a b c d):=evS (z5d · a b c d) r (z5d.eq_2 a b c d)
def zqo{r}(a b c d e f g):=evS (z39 · a b c d e f g) r (z39.eq_2 a b c d e f g)
def y4c{r}(a b c d e f g h):=evS (z5b · a b c d e f g h) r (z5b.eq_2 a b c d e f g h)
def zq8{r}(a b c d e f g h i j):=evS (z5c · a b c d e f g h i j) r (z5c.eq_2 a b c d e f g h i j)
def ydn{r}(a):=evS (z0t · a) r (z0t.eq_2 a)
def zpo{r}(a b c d e f g h i):=evS (z4z · a b c d e f g h i) r (z4z.eq_2 a b c d e f g h i)
def y3t{r}(a b c d e f g h i j):=evS (z5n · a b c d e f g h i j) r (z5n.eq_2 a b c d e f g h i j)
def zqp{r}(a b c d e f g h i):=evS (z5w · a b c d e f g h i) r (z5w.eq_2 a b c d e f g h i)
def zqa{r}(a b c d e f g h i j k l m):=evS (z5l · a b c d e f g h i j k l m) r (z5l.eq_2 a b c d e f g h i j k l m)
def zqz{r}(a b c d e f g h i j k l m o):=evS (z5f · a b c d e f g h i j k l m o) r (z5f.eq_2 a b c d e f g h i j k l m o)
def zr6{r}(a b c d e f g h i j):=evS (z2v · a b c d e f g h i j) r (z2v.eq_2 a b c d e f g h i j)
def zqr{r}(a b c d e f g h i j k l m o p):=evS (z56 · a b c d e f g h i j k l m o p) r (z56.eq_2 a b c d e f g h i j k l m o p)
def zqj{r}(a b c d e f g h i j k l m o p q):=evS (z30 · a b c d e f g h i j k l m o p q) r (z30.eq_2 a b c d e f g h i j k l m o p q)
def y5o{r}(a b c d e f g h i j k):=evS (z5u · a b c d e f g h i j k) r (z5u.eq_2 a b c d e f g h i j k)
def zqf{r}(a b c d e f g h i j k l m):=evS (z5h · a b c d e f g h i j k l m) r (z5h.eq_2 a b c d e f g h i j k l m)
def y2q{r}(a b c d e f g h i j k l m o p q):=evS (z3z · a b c d e f g h i j k l m o p q) r (z3z.eq_2 a b c d e f g h i j k l m o p q)
def y2v{r}(a b c d e f g h i j k l m):=evS (z1u · a b c d e f g h i j k l m) r (z1u.eq_2 a b c d e f g h i j k l m)
def y9l{r}(a):=evS (z97 · a) r (z97.eq_2 a)
def zot{r}(a b c d e f g h i j k):=evS (z42 · a b c d e f g h i j k) r (z42.eq_2 a b c d e f g h i j k)
def yi3{r}(a):=evS (zen · a) r (zen.eq_2 a)
def yge{r}(a):=evS (zcl · a) r (zcl.eq_2 a)
def ydu{r}(a):=evS (zal · a) r (zal.eq_2 a)
def zr7{r}(a b c d e f g h i j k l m o p q s t u v w):=evS (z65 · a b c d e f g h i j k l m o p q s t u v w) r (z65.eq_2 a b c d e f g h i j k l m o p q s t u v w)
def yn4{r}(a):=evS (z9x · a) r (z9x.eq_2 a)
def y40{r}(a):=evS (z5m · a) r (z5m.eq_2 a)
def yi1{r}(a):=evS (za3 · a) r (za3.eq_2 a)
def zsc{r}(a b c d e f g h):=evS (z7d · a b c d e f g h) r (z7d.eq_2 a b c d e f g h)
def zu2{r}(a b c d e f g):=evS (z7x · a b c d e f g) r (z7x.eq_2 a b c d e f g)
def ztl{r}(a b c d e f g h i j k l m):=evS (z77 · a b c d e f g h i j k l m) r (z77.eq_2 a b c d e f g h i j k l m)
def zu3{r}(a b c d e f g h i j k l m o p q s t u v w x y z A B C):=evS (z7u · a b c d e f g h i j k l m o p q s t u v w x y z A B C) r (z7u.eq_2 a b c d e f g h i j k l m o p q s t u v w x y z A B C)
def zus{r}(a b c d e f g h i j k l m o p q s t u v w x y z A B C D E F G H I J K):=evS (z7k · a b c d e f g h i j k l m o p q s t u v w x y z A B C D E F G H I J K) r (z7k.eq_2 a b c d e f g h i j k l m o p q s t u v w x y z A B C D E F G H I J K)
def yj7{r}(a):=evS (zef · a) r (zef.eq_2 a)
def ykr{r}(a b):=evS (z3k · a b) r (z3k.eq_2 a b)
def ye7{r}(a):=evS (zcy · a) r (zcy.eq_2 a)
def y5d{r}(a b c d e):=evS (z1k · a b c d e) r (z1k.eq_2 a b c d e)
def yfs{r}(a b):=evS (zcr · a b) r (zcr.eq_2 a b)
def zgr{r}(a b):=evS (yzi · a b) r (yzi.eq_2 a b)
def z1d{r}(a b c d):=evS (kz9 · a b c d) r (kz9.eq_2 a b c d)
def yny{r}(a b):=evS (z8c · a b) r (z8c.eq_2 a b)
def yep{r}(a b):=evS (zco · a b) r (zco.eq_2 a b)
def zgj{r}(a b):=evS (zzi · a b) r (zzi.eq_2 a b)
def z1g{r}(a b c d):=evS (yza · a b c d) r (yza.eq_2 a b c d)
def yns{r}(a):=evS (zdr · a) r (zdr.eq_2 a)
def y6m{r}(a b c d):=evS (zag · a b c d) r (zag.eq_2 a b c d)
def y0d{r}(a b c d):=evS (z6a · a b c d) r (z6a.eq_2 a b c d)
def y0k{r}(a b c d e):=evS (z68 · a b c d e) r (z68.eq_2 a b c d e)
def yf6{r}(a b c d):=evS (zam · a b c d) r (zam.eq_2 a b c d)
def zpc{r}(a b c d e f):=evS (z5x · a b c d e f) r (z5x.eq_2 a b c d e f)
def zpg{r}(a b c d e f g h i j):=evS (z4y · a b c d e f g h i j) r (z4y.eq_2 a b c d e f g h i j)
def zp5{r}(a b c d e f g h i j k l m o p q s t u v w x y z):=evS (z54 · a b c d e f g h i j k l m o p q s t u v w x y z) r (z54.eq_2 a b c d e f g h i j k l m o p q s t u v w x y z)
def zpl{r}(a b c d e f g h i j k l m o p q s t u v w x y z A B C):=evS (z5z · a b c d e f g h i j k l m o p q s t u v w x y z A B C) r (z5z.eq_2 a b c d e f g h i j k l m o p q s t u v w x y z A B C)
def yly{r}(a b c):=evS (zdv · a b c) r (zdv.eq_2 a b c)
def yao{r}(a b c d e):=evS (z9d · a b c d e) r (z9d.eq_2 a b c d e)
def y9n{r}(a b c d):=evS (z9m · a b c d) r (z9m.eq_2 a b c d)
def yaq{r}(a b c d):=evS (z6d · a b c d) r (z6d.eq_2 a b c d)
def z3m{r}(a b c d e):=evS (z9n · a b c d e) r (z9n.eq_2 a b c d e)
def y9w{r}(a b):=evS (z2f · a b) r (z2f.eq_2 a b)
def yj6{r}(a b):=evS (z89 · a b) r (z89.eq_2 a b)
def zte{r}(a b c d e f):=evS (z7m · a b c d e f) r (z7m.eq_2 a b c d e f)
def yi5{r}(a b):=evS (z3f · a b) r (z3f.eq_2 a b)
def zuh{r}(a b c):=evS (z11 · a b c) r (z11.eq_2 a b c)
def zsq{r}(a b c):=evS (z6v · a b c) r (z6v.eq_2 a b c)
def ygk{r}(a b):=evS (z4w · a b) r (z4w.eq_2 a b)
def zub{r}(a b c):=evS (z2m · a b c) r (z2m.eq_2 a b c)
def zu1{r}(a b c):=evS (z80 · a b c) r (z80.eq_2 a b c)
def zli{r}(a):=evS (z0g · a) r (z0g.eq_2 a)
def y35{r}(a b):=evS (z43 · a b) r (z43.eq_2 a b)
def zxy{r}(a b):=evS (z4d · a b) r (z4d.eq_2 a b)
def zio{r}(a b c):=evS (yzk · a b c) r (yzk.eq_2 a b c)
def zik{r}(a b c):=evS (z0c · a b c) r (z0c.eq_2 a b c)
def zim{r}(a b c d):=evS (zzu · a b c d) r (zzu.eq_2 a b c d)
def y2s{r}(a b):=evS (z7a · a b) r (z7a.eq_2 a b)
def zkk{r}(a b c):=evS (z03 · a b c) r (z03.eq_2 a b c)
def zku{r}(a b c):=evS (z1c · a b c) r (z1c.eq_2 a b c)
def y3m{r}(a b):=evS (z6y · a b) r (z6y.eq_2 a b)
def zkr{r}(a b c):=evS (z04 · a b c) r (z04.eq_2 a b c)
def zkm{r}(a b c):=evS (z1b · a b c) r (z1b.eq_2 a b c)
def zkp{r}(a b c):=evS (z1a · a b c) r (z1a.eq_2 a b c)
def yie{r}(a b):=evS (z8b · a b) r (z8b.eq_2 a b)
def y6l{r}(a b c):=evS (zac · a b c) r (zac.eq_2 a b c)
def zt2{r}(a b c):=evS (z7w · a b c) r (z7w.eq_2 a b c)
def y60{r}(a b c d):=evS (za6 · a b c d) r (za6.eq_2 a b c d)
def zsi{r}(a b c):=evS (z7y · a b c) r (z7y.eq_2 a b c)
def yc7{r}(a b):=evS (zah · a b) r (zah.eq_2 a b)
def zq3{r}(a b c):=evS (z2y · a b c) r (z2y.eq_2 a b c)
def zpd{r}(a b c):=evS (z5r · a b c) r (z5r.eq_2 a b c)
def ygc{r}(a):=evS (z8g · a) r (z8g.eq_2 a)
def zk6{r}(a b c):=evS (z50 · a b c) r (z50.eq_2 a b c)
def zjn{r}(a b c d):=evS (z5t · a b c d) r (z5t.eq_2 a b c d)
def zyh{r}(a):=evS (zd2 · a) r (zd2.eq_2 a)
def yfe{r}(a b):=evS (zaj · a b) r (zaj.eq_2 a b)
def zqb{r}(a b c):=evS (z1m · a b c) r (z1m.eq_2 a b c)
def zql{r}(a b c):=evS (z55 · a b c) r (z55.eq_2 a b c)
def ydb{r}(a):=evS (z8k · a) r (z8k.eq_2 a)
def zqs{r}(a b c):=evS (z5g · a b c) r (z5g.eq_2 a b c)
def zyt{r}(a):=evS (z5q · a) r (z5q.eq_2 a)
def y2t{r}(a):=evS (z7q · a) r (z7q.eq_2 a)
def zkl{r}(a b):=evS (z1e · a b) r (z1e.eq_2 a b)
def zko{r}(a b):=evS (z06 · a b) r (z06.eq_2 a b)
def zkt{r}(a b c):=evS (z07 · a b c) r (z07.eq_2 a b c)
def zkj{r}(a b c):=evS (z05 · a b c) r (z05.eq_2 a b c)
def zks{r}(a b c d):=evS (z1i · a b c d) r (z1i.eq_2 a b c d)
def yd4{r}(a):=evS (zcz · a) r (zcz.eq_2 a)
def zpe{r}(a b):=evS (z5y · a b) r (z5y.eq_2 a b)
def zpv{r}(a b):=evS (z35 · a b) r (z35.eq_2 a b)
def zr2{r}(a b c):=evS (z60 · a b c) r (z60.eq_2 a b c)
def zqe{r}(a b):=evS (z2u · a b) r (z2u.eq_2 a b)
def zqg{r}(a b c d):=evS (z2x · a b c d) r (z2x.eq_2 a b c d)
def zqu{r}(a b c d):=evS (z2z · a b c d) r (z2z.eq_2 a b c d)
def zp4{r}(a b c d):=evS (z36 · a b c d) r (z36.eq_2 a b c d)
def ygy{r}(a):=evS (zei · a) r (zei.eq_2 a)
def zul{r}(a b):=evS (z7l · a b) r (z7l.eq_2 a b)
def zuq{r}(a b):=evS (z4j · a b) r (z4j.eq_2 a b)
def ztq{r}(a b c d):=evS (z73 · a b c d) r (z73.eq_2 a b c d)
def zuj{r}(a b c d):=evS (z4c · a b c d) r (z4c.eq_2 a b c d)
def zup{r}(a b c d e):=evS (z4e · a b c d e) r (z4e.eq_2 a b c d e)
def y8z{r}(a):=evS (zbd · a) r (zbd.eq_2 a)
def yed{r}(a):=evS (zd5 · a) r (zd5.eq_2 a)
def ygh{r}(a):=evS (zby · a) r (zby.eq_2 a)
def zt5{r}(a b):=evS (z0b · a b) r (z0b.eq_2 a b)
def zsn{r}(a b c):=evS (z0y · a b c) r (z0y.eq_2 a b c)
def yag{r}(a):=evS (zb5 · a) r (zb5.eq_2 a)
def yhl{r}(a):=evS (z4v · a) r (z4v.eq_2 a)
def yjj{r}(a):=evS (zc2 · a) r (zc2.eq_2 a)
def zur{r}(a b c):=evS (z74 · a b c) r (z74.eq_2 a b c)
def y1d{r}(a):=evS (zes · a) r (zes.eq_2 a)
def zua{r}(a b):=evS (zab · a b) r (zab.eq_2 a b)
def zsj{r}(a b):=evS (zzw · a b) r (zzw.eq_2 a b)
def zsx{r}(a b):=evS (z7v · a b) r (z7v.eq_2 a b)
def yi2{r}(a):=evS (zc6 · a) r (zc6.eq_2 a)
def zkx{r}(a b c):=evS (z71 · a b c) r (z71.eq_2 a b c)
def zl4{r}(a b c d):=evS (z6s · a b c d) r (z6s.eq_2 a b c d)
def ya9{r}(a b):=evS (zb7 · a b) r (zb7.eq_2 a b)
def y30{r}(a b):=evS (z3w · a b) r (z3w.eq_2 a b)
def ybk{r}(a):=evS (zd1 · a) r (zd1.eq_2 a)
def y46{r}(a):=evS (z0f · a) r (z0f.eq_2 a)
def ygu{r}(a):=evS (zca · a) r (zca.eq_2 a)
def zum{r}(a b):=evS (z16 · a b) r (z16.eq_2 a b)
def zu8{r}(a b):=evS (z6p · a b) r (z6p.eq_2 a b)
def zu5{r}(a b c):=evS (z7r · a b c) r (z7r.eq_2 a b c)
def zsv{r}(a b):=evS (z2o · a b) r (z2o.eq_2 a b)
def ztj{r}(a b):=evS (z7n · a b) r (z7n.eq_2 a b)
def ycq{r}(a):=evS (zcm · a) r (zcm.eq_2 a)
def y4i{r}(a b):=evS (z58 · a b) r (z58.eq_2 a b)
def ye8{r}(a):=evS (zd7 · a) r (zd7.eq_2 a)
def yja{r}(a):=evS (zc7 · a) r (zc7.eq_2 a)
def y79{r}(a b):=evS (z4g · a b) r (z4g.eq_2 a b)
def y7g{r}(a b):=evS (z0d · a b) r (z0d.eq_2 a b)
def y6p{r}(a b):=evS (z13 · a b) r (z13.eq_2 a b)
def zt3{r}(a b):=evS (z81 · a b) r (z81.eq_2 a b)
def yft{r}(a):=evS (z1v · a) r (z1v.eq_2 a)
def y48{r}(a b):=evS (z62 · a b) r (z62.eq_2 a b)
def yo1{r}(a):=evS (zdz · a) r (zdz.eq_2 a)
def y9p{r}(a b):=evS (z9b · a b) r (z9b.eq_2 a b)
def y9e{r}(a):=evS (z9f · a) r (z9f.eq_2 a)
def y97{r}(a):=evS (zb9 · a) r (zb9.eq_2 a)
def znp{r}(a b):=evS (z0k · a b) r (z0k.eq_2 a b)
def y3b{r}(a b):=evS (z3u · a b) r (z3u.eq_2 a b)
def y2u{r}(a):=evS (z3v · a) r (z3v.eq_2 a)
def zih{r}(a b):=evS (z7c · a b) r (z7c.eq_2 a b)
def zoq{r}(a b):=evS (zzt · a b) r (zzt.eq_2 a b)
def y3n{r}(a):=evS (z3o · a) r (z3o.eq_2 a)
def zop{r}(a b):=evS (z1z · a b) r (z1z.eq_2 a b)
def zoc{r}(a b c):=evS (yzy · a b c) r (yzy.eq_2 a b c)
def y9v{r}(a):=evS (zb3 · a) r (zb3.eq_2 a)
def znq{r}(a b):=evS (z2d · a b) r (z2d.eq_2 a b)
def zny{r}(a b c):=evS (z3s · a b c) r (z3s.eq_2 a b c)
def zov{r}(a b):=evS (z1x · a b) r (z1x.eq_2 a b)
def zns{r}(a b c d):=evS (z2e · a b c d) r (z2e.eq_2 a b c d)
def zo2{r}(a b c d):=evS (z1t · a b c d) r (z1t.eq_2 a b c d)
def znm{r}(a b c d e f):=evS (z1w · a b c d e f) r (z1w.eq_2 a b c d e f)
def zo0{r}(a b c d e f):=evS (z2b · a b c d e f) r (z2b.eq_2 a b c d e f)
def ydh{r}(a):=evS (z8h · a) r (z8h.eq_2 a)
def zr4{r}(a b c):=evS (z5i · a b c) r (z5i.eq_2 a b c)
def yqn{r}(a b):=evS (za4 · a b) r (za4.eq_2 a b)
def ydk{r}(a):=evS (zar · a) r (zar.eq_2 a)
def zq5{r}(a b):=evS (z57 · a b) r (z57.eq_2 a b)
def yc1{r}(a):=evS (z64 · a) r (z64.eq_2 a)
def zq9{r}(a b c):=evS (z5a · a b c) r (z5a.eq_2 a b c)
def ybe{r}(a b):=evS (zcs · a b) r (zcs.eq_2 a b)
def y4v{r}(a):=evS (z8w · a) r (z8w.eq_2 a)
def zlv{r}(a b):=evS (z1r · a b) r (z1r.eq_2 a b)
def y72{r}(a):=evS (za9 · a) r (za9.eq_2 a)
def zmj{r}(a b):=evS (z2p · a b) r (z2p.eq_2 a b)
def zmq{r}(a b):=evS (z18 · a b) r (z18.eq_2 a b)
def yii{r}(a b):=evS (zc5 · a b) r (zc5.eq_2 a b)
def zso{r}(a b c):=evS (z48 · a b c) r (z48.eq_2 a b c)
def ztb{r}(a b c d):=evS (z7j · a b c d) r (z7j.eq_2 a b c d)
def ztx{r}(a b c d):=evS (z7b · a b c d) r (z7b.eq_2 a b c d)
def y6c{r}(a b):=evS (z4k · a b) r (z4k.eq_2 a b)
def zt6{r}(a b c):=evS (z7g · a b c) r (z7g.eq_2 a b c)
def yd9{r}(a):=evS (zd3 · a) r (zd3.eq_2 a)
def yaf{r}(a b):=evS (z9c · a b) r (z9c.eq_2 a b)
def zp2{r}(a b c):=evS (z3t · a b c) r (z3t.eq_2 a b c)
def ycb{r}(a):=evS (zcv · a) r (zcv.eq_2 a)
def zqx{r}(a b c):=evS (z5s · a b c) r (z5s.eq_2 a b c)
def zqm{r}(a b c d):=evS (z66 · a b c d) r (z66.eq_2 a b c d)
def ygo{r}(a):=evS (zcc · a) r (zcc.eq_2 a)
def ztd{r}(a b c):=evS (z6w · a b c) r (z6w.eq_2 a b c)
def zsz{r}(a b c d):=evS (z4h · a b c d) r (z4h.eq_2 a b c d)
def ztr{r}(a b c d e f):=evS (z6r · a b c d e f) r (z6r.eq_2 a b c d e f)
def y6j{r}(a b c d e):=evS (z7s · a b c d e) r (z7s.eq_2 a b c d e)
def zse{r}(a b c d e f):=evS (z79 · a b c d e f) r (z79.eq_2 a b c d e f)
def ycy{r}(a):=evS (zda · a) r (zda.eq_2 a)
def zp9{r}(a b c):=evS (z52 · a b c) r (z52.eq_2 a b c)
def zq7{r}(a b c):=evS (z38 · a b c) r (z38.eq_2 a b c)
def zp3{r}(a b c d e f):=evS (z32 · a b c d e f) r (z32.eq_2 a b c d e f)
def zq1{r}(a b c d e f g h):=evS (z5k · a b c d e f g h) r (z5k.eq_2 a b c d e f g h)
def zpp{r}(a b c d e):=evS (z34 · a b c d e) r (z34.eq_2 a b c d e)
def ye3{r}(a):=evS (zcu · a) r (zcu.eq_2 a)
def zpt{r}(a b):=evS (z5o · a b) r (z5o.eq_2 a b)
def zqt{r}(a b c d):=evS (z5e · a b c d) r (z5e.eq_2 a b c d)
def zkq{r}(a):=evS (z3a · a) r (z3a.eq_2 a)
def y0m{r}(a b):=evS (z67 · a b) r (z67.eq_2 a b)
def zra{r}(a b c):=evS (zzy · a b c) r (zzy.eq_2 a b c)
def zf4{r}(a b c d e):=evS (kza · a b c d e) r (kza.eq_2 a b c d e)
def zmx{r}(a b c d e f):=evS (kzr · a b c d e f) r (kzr.eq_2 a b c d e f)
def zmv{r}(a b c d e):=evS (zzr · a b c d e) r (zzr.eq_2 a b c d e)
def z2w{α:Type}{x y:List α}(h:x.length+y.length<=268435456):ext x y=some (x++y):=by unfold ext;rw[Qbx (by simpa[zin]using h)]
def I64(x:Int):Prop := -9223372036854775808<=x∧x<=9223372036854775807
def ydt{x:Int}(h:I64 x):Ev (λn=>zbz n x) (x.natAbs:Int):=by
 unfold I64 at h;rw[yh3];simp only[Ev.pif,Ev.yz0,Qar];split
 ·rw[wUn (x:=x) (by omega),wUn (by omega)];omega
 ·rw[wU (by omega)];omega
def yv5:∀(b a:Nat),Ev (λn=>z9o n (b:Int) (a:Int)) (Nat.gcd a b:Int):=by
 intro b
 induction b using Nat.strongRecOn with
 |ind b g=>
  intro a;rw[y9g];by_cases d:b=0
  ·subst d;simp[Ev.pif,Ev.yz0]
  ·have h:rem .u64 (a:Int) (b:Int)=some ((a % b:Nat):Int):=by
    unfold rem;rw[Qby (by omega),Int.tmod_eq_emod_of_nonneg (by omega)];simp
   rw[Ev.zz2 (by simpa using d),Ev.yz2 h];have:=g (a % b) (Nat.mod_lt _ (by omega)) b;rw[Nat.gcd_comm a b,Nat.gcd_rec b a,Nat.gcd_comm];exact this
def yxp{a b:Nat}:Ev (λn=>zgz n (a:Int) (b:Int)) (Nat.gcd a b:Int):=by
 rw[ymm];exact yv5 b a
def rok(r:kz4):Bool:=decide (1<=r.den)&&decide (r.den<=1000000000)&&decide (r.num.natAbs<=1000000000)&&(Nat.gcd r.num.natAbs r.den.natAbs==1)
def znd{r:kz4}:rok r=true↔1<=r.den∧r.den<=1000000000∧r.num.natAbs<=1000000000∧Nat.gcd r.num.natAbs r.den.natAbs=1:=by
 simp[rok,and_assoc]
def yq2{r:kz4}(h:I64 r.num):Ev (λn=>zct n r) (if rok r then 0 else 8):=by
 have d:∀b,Ev (λn=>z1l n b) (if b then 8 else 0):=λb=>by
  rw[y5b];cases b <;> simp[Ev.pif,Ev.yz0]
 rw[yen];simp only[Ev.pif,Qar];split
 ·refine(d _).to ?_;rw[Qbx rfl,Qby];rw[znd];omega
 split
 ·refine(d _).to ?_;rw[Qbx rfl,Qby];rw[znd];omega
 rw[Ev.kz0 (ydt h)];simp only[Ev.pif,Qar];split
 ·refine(d _).to ?_;rw[Qbx rfl,Qby];rw[znd];omega
 rw[Ev.kz0 (ydt h),wU (by omega)];have i:r.den=(r.den.natAbs:Int):=by omega
 rw[i,Ev.kz0 yxp];refine(d _).to ?_
 have:((((Nat.gcd r.num.natAbs r.den.natAbs:Nat):Int) != 1)=true)↔¬rok r=true:=by
  rw[znd];simp only[bne_iff_ne,ne_eq];omega
 by_cases g:rok r=true
 ·rw[Qby (by rw[this];simpa using g),Qbx g]
 ·rw[Qbx (by rw[this];exact g),Qby g]
def z00d(a b:Int):Nat.gcd a.natAbs b.natAbs=Nat.gcd b.natAbs (a.tmod b).natAbs:=by
 rw[Int.natAbs_tmod,Nat.gcd_comm a.natAbs,Nat.gcd_rec b.natAbs a.natAbs,Nat.gcd_comm]
def yh6:∀(m:Nat) (b a:Int),b.natAbs=m->I64 a->I64 b->¬a = -9223372036854775808->¬b = -9223372036854775808->Ev (λn=>z3w n b a) (Nat.gcd a.natAbs b.natAbs:Int):=by
 intro m
 induction m using Nat.strongRecOn with
 |ind m i=>
  intro b a k l h q g;unfold I64 at l h;rw[y30];by_cases d:b=0
  ·subst d;simp only[Ev.pif,Ev.yz0,Qar];rw[Qby (by simp)];split
   ·rw[wI (by omega)];simp;omega
   ·simp;omega
  ·have j:rem .i64 a b=some (a.tmod b):=by unfold rem;rw[Qby d]
   have o:(a.tmod b).natAbs<b.natAbs:=by rw[Int.natAbs_tmod];exact Nat.mod_lt _ (by omega)
   rw[Ev.zz2 (by simpa using d),Ev.yz2 j];have:=i _ (by rw[<-k];exact o) (a.tmod b) b rfl h (by unfold I64;omega) g (by omega);rw[z00d a b];exact this
def yl4{a b:Int}(i:I64 a)(h:I64 b)(g:¬a = -9223372036854775808)(d:¬b = -9223372036854775808):Ev (λn=>zb7 n a b) (Nat.gcd a.natAbs b.natAbs:Int):=by
 rw[ya9];exact yh6 _ b a rfl i h g d
def yru{r:kz4}:Ev (λn=>zd1 n r) (if rok r then 0 else 8):=by
 have d:∀b,Ev (λn=>z0f n b) (if b then 8 else 0):=λb=>by
  rw[y46];cases b <;> simp[Ev.pif,Ev.yz0]
 rw[ybk];simp only[Ev.pif,Qar];split
 ·refine(d _).to ?_;rw[Qbx rfl,Qby];rw[znd];omega
 split
 ·refine(d _).to ?_;rw[Qbx rfl,Qby];rw[znd];omega
 split
 ·refine(d _).to ?_;rw[Qbx rfl,Qby];rw[znd];omega
 split
 ·refine(d _).to ?_;rw[Qbx rfl,Qby];rw[znd];omega
 rw[Ev.kz0 (yl4 (by unfold I64;omega) (by unfold I64;omega) (by omega) (by omega))];refine(d _).to ?_
 have:((((Nat.gcd r.num.natAbs r.den.natAbs:Nat):Int) != 1)=true)↔¬rok r=true:=by
  rw[znd];simp only[bne_iff_ne,ne_eq];omega
 by_cases g:rok r=true
 ·rw[Qby (by rw[this];simpa using g),Qbx g]
 ·rw[Qbx (by rw[this];exact g),Qby g]
def wfR(r:kz4):Prop:=I64 r.num∧I64 r.den
def fdiv(a b:kz4):Int×Int:=(a.num * b.den,a.den * b.num)
def y9q{P:zz1->Prop}(h:∀v:zz1,(∀x,x∈v.list->P x)->P v)(v:zz1):P v:=h v λx b=>y9q h x
termination_by v
decreasing_by exact zz1.y5q b
mutual
def zh6:zz1->Nat
 |⟨k,_,_,_,l⟩=>if k=4 then 1+z8v l else 1
def z8v:z4f->Nat
 |[]=>0
 |x::l=>zh6 x+z8v l
end
mutual
def ziu:zz1->Nat
 |⟨k,_,_,_,l⟩=>if k=4 then max 1 (zm7 l)else 1
def zm7:z4f->Nat
 |[]=>0
 |x::l=>max (1+ziu x) (zm7 l)
end
def zsp(v:zz1):zh6 v=if v.kind=4 then 1+z8v v.list else 1:=by cases v;rw[zh6]
def y4m(v:zz1):ziu v=if v.kind=4 then max 1 (zm7 v.list)else 1:=by cases v;rw[ziu]
def z038{l:z4f}{x:zz1}(h:x∈l):x.size<=(l.map zz1.size).sum:=by
 induction l with
 |nil=>cases h
 |cons y l b=>
  rcases Qbl.1 h with rfl|h
  ·simp
  ·have:=b h;simp;omega
def zbb(v:zz1):(v.list.map zz1.size).sum+v.str.length+4<=v.size:=by rw[zz1.size_eq];omega
def zng{v x:zz1}(h:x∈v.list):x.size<=v.size:=by have:=z038 h;have:=zbb v;omega
def zk7(l:z4f):l.length<=(l.map zz1.size).sum:=by
 induction l with
 |nil=>simp
 |cons x l b=>have:=zbb x;simp;omega
def y03:∀v:zz1,zh6 v<=v.size:=y9q λv g=>by
 have:∀l:z4f,(∀x,x∈l->x∈v.list)->z8v l<=(l.map zz1.size).sum:=λl=>by
  induction l with
  |nil=>intro _;simp[z8v]
  |cons x l b=>
   intro d;have:=g x (d x Qak);have:=b λy i=>d y (Qai _ i)
   simp[z8v];omega
 have:=this v.list λ_ h=>h
 have:=zbb v;rw[zsp];split <;> omega
def yr8:∀v:zz1,ziu v<=zh6 v:=y9q λv g=>by
 have:∀l:z4f,(∀x,x∈l->x∈v.list)->zm7 l<=1+z8v l:=λl=>by
  induction l with
  |nil=>intro _;simp[z8v,zm7]
  |cons x l b=>
   intro d;have:=g x (d x Qak);have:=b λy i=>d y (Qai _ i)
   simp[z8v,zm7];omega
 have:=this v.list λ_ h=>h
 rw[zsp,y4m];split <;> omega
def yf4(l:z4f):z8v l<=(l.map zz1.size).sum:=by
 induction l with
 |nil=>simp[z8v]
 |cons x l b=>have:=y03 x;simp[z8v];omega
def yhh:∀v:zz1,v.size<=8388608->Ev (λn=>z7p n v) ((zh6 v:Int),(ziu v:Int)):=y9q λv m C=>by
 have j:∀d p,Ev (λn=>z2t n d p) (p,d):=λd p=>by rw[y0h,Ev.yz0]
 have y:=zbb v;have hlen:=zk7 v.list
 have loop:∀k,k<=v.list.length->∀d p:Nat,p+z8v (v.list.drop k)<=8388609->d<=8388609->Ev (λn=>z2q n (k:Int) (d:Int) (p:Int) v.list (v.list.length:Int)) (((p+z8v (v.list.drop k):Nat):Int),((max d (zm7 (v.list.drop k)):Nat):Int)) :=
  down (λd p g o=>by
   rw[zmr,Ev.kz1 (by simp)];refine(j _ _).to ?_
   simp[z8v,zm7]) λk b i d p g o=>by
   have l:=Qad b;have w:=zng l;rw[<-Qah (h:=b)]at g ⊢;simp only[z8v,zm7]at g ⊢;have z:=y03 v.list[k];have A:=yr8 v.list[k];rw[zmr,Ev.zz2 (by simpa using b),Ev.yz2 (zz6 b),zz1.yz3,Ev.kz0 (m _ l (by omega)),wI (x:=_+1) (by omega),wI (x:=(ziu _:Int)+1) (by omega),wI (x:=(p:Int)+_) (by omega)];have u:(k:Int)+1=((k+1:Nat):Int):=by omega
   have s:(ziu v.list[k]:Int)+1=((1+ziu v.list[k]:Nat):Int):=by omega
   have q:(p:Int)+(zh6 v.list[k]:Int)=((p+zh6 v.list[k]:Nat):Int):=by omega
   rw[u,s,q,yb0];refine(i (max d (1+ziu v.list[k])) (p+zh6 v.list[k]) (by omega) (by omega)).to ?_
   congr 2 <;> omega
 rw[y6k];by_cases b:v.kind=4
 ·rw[Ev.zz2 (by simpa using b)];have B:=yf4 v.list;have:=loop 0 (Qbv _) 1 1 (by simp;omega) (by omega);refine this.to ?_;rw[zsp,y4m,Qbx b,Qbx b,List.drop_zero]
 ·rw[Ev.kz1 (by simpa using b)];refine(j 1 1).to ?_;rw[zsp,y4m,Qby b,Qby b];rfl
def y7r:∀v:zz1,v.size<=8388608->Ev (λn=>z8g n v) (zh6 v:Int):=y9q λv m z=>by
 have u:=zbb v;have hlen:=zk7 v.list;rw[ygc,zz1.yz3,zsp];by_cases b:v.kind=4
 ·rw[Qbx b];have d:(v.kind==4)=true:=by simpa using b
  have loop:∀k,k<=v.list.length->∀p:Nat,p+z8v (v.list.drop k)<=8388609->Ev (λn=>z50 n (k:Int) (p:Int) v) ((p+z8v (v.list.drop k):Nat):Int) :=
   down (λp g=>by
    rw[zk6,Ev.kz1 (by simp),zjn,Ev.kz1 (by rfl),Ev.yz0]
    simp[z8v]) λk b i p g=>by
    have j:=Qad b;have s:=zng j;rw[<-Qah (h:=b)]at g ⊢;simp only[z8v]at g ⊢;have w:=y03 v.list[k];rw[zk6,Ev.zz2 (by simpa using b),d,zz1.yz3,zjn,Ev.zz2 (by rfl),Ev.yz2 (zz6 b),zz1.yz3,Ev.kz0 (m _ j (by omega)),wI (x:=_+1) (by omega),wI (x:=(p:Int)+_) (by omega)];have q:(k:Int)+1=((k+1:Nat):Int):=by omega
    have o:(p:Int)+(zh6 v.list[k]:Int)=((p+zh6 v.list[k]:Nat):Int):=by omega
    rw[q,o,zz1.yz3];refine(i (p+zh6 v.list[k]) (by omega)).to ?_
    congr 1;omega
  have y:=yf4 v.list;exact loop 0 (Qbv _) 1 (by simp;omega)
 ·rw[Qby b];have d:(v.kind==4)=false:=by simpa using b
  have l:Ev (λn=>z5t n 0 1 false v) 1:=by rw[zjn,Ev.kz1 (by rfl),Ev.yz0]
  rw[zk6,d,zz1.yz3,Ev.pif];split <;> exact l
def ysd:∀v:zz1,v.size<=8388608->Ev (λn=>zc6 n v) (ziu v:Int):=y9q λv l z=>by
 have u:=zbb v;have hlen:=zk7 v.list;rw[yi2,zz1.yz3,y4m];by_cases b:v.kind=4
 ·rw[Qbx b];have d:(v.kind==4)=true:=by simpa using b
  have loop:∀k,k<=v.list.length->∀p:Nat,p<=8388609->Ev (λn=>z71 n (k:Int) (p:Int) v) ((max p (zm7 (v.list.drop k)):Nat):Int) :=
   down (λp m=>by
    rw[zkx,Ev.kz1 (by simp),zl4,Ev.kz1 (by rfl),Ev.yz0]
    simp[zm7]) λk b g p m=>by
    have i:=Qad b;have s:=zng i;rw[<-Qah (h:=b)];simp only[zm7];have w:=y03 v.list[k];have y:=yr8 v.list[k];rw[zkx,Ev.zz2 (by simpa using b),d,zz1.yz3,zl4,Ev.zz2 (by rfl),Ev.yz2 (zz6 b),zz1.yz3,Ev.kz0 (l _ i (by omega)),wI (x:=_+1) (by omega),wI (x:=1+_) (by omega)];have q:(k:Int)+1=((k+1:Nat):Int):=by omega
    have o:1+(ziu v.list[k]:Int)=((1+ziu v.list[k]:Nat):Int):=by omega
    rw[q,o,zz1.yz3,yb0];refine(g (max p (1+ziu v.list[k])) (by omega)).to ?_
    congr 1;omega
  exact loop 0 (Qbv _) 1 (by omega)
 ·rw[Qby b];have d:(v.kind==4)=false:=by simpa using b
  have j:Ev (λn=>z6s n 0 1 false v) 1:=by rw[zl4,Ev.kz1 (by rfl),Ev.yz0]
  rw[zkx,d,zz1.yz3,Ev.pif];split <;> exact j
def v0:zz1:=⟨0,⟨0,0⟩,false,[],[]⟩
def zwf(c:UInt8):Bool:=decide (32<=c.toNat)&&decide (c.toNat<=126)
def nul(v:kz4):Bool:=v.num==0&&v.den==0
mutual
def zw7:zz1->Bool
 |⟨k,q,t,s,l⟩ =>
  if k=1 then rok q&&(!t&&(s.isEmpty&&l.isEmpty))
  else if k=2 then nul q&&(s.isEmpty&&l.isEmpty)
  else if k=3 then nul q&&(!t&&(l.isEmpty&&(decide (s.length<=60)&&s.all zwf)))
  else if k=4 then nul q&&(!t&&(s.isEmpty&&znl l))
  else false
def znl:z4f->Bool
 |[]=>true
 |x::l=>zw7 x&&znl l
end
def ys0(v:zz1):zw7 v =
 if v.kind=1 then rok v.num&&(!v.truth&&(v.str.isEmpty&&v.list.isEmpty))
 else if v.kind=2 then nul v.num&&(v.str.isEmpty&&v.list.isEmpty)
 else if v.kind=3 then nul v.num&&(!v.truth&&(v.list.isEmpty&&(decide (v.str.length<=60)&&v.str.all zwf)))
 else if v.kind=4 then nul v.num&&(!v.truth&&(v.str.isEmpty&&znl v.list))
 else false:=by cases v;rw[zw7]
def y33(v:zz1):Int:=if 100<zh6 v∨6<ziu v then 4 else if zw7 v then 0 else 8
def z065{v:zz1}(h:v.wf):wfR v.num:=by
 rw[zz1.kzn]at h;have:=h.2.1;rw[kz4.kzn]at this;simpa[wfR,I64,IntKind.min,IntKind.max,IntKind.signed,IntKind.bits]using this
def z041{v:zz1}(h:v.wf):∀x∈v.list,x.wf:=by
 rw[zz1.kzn]at h;exact h.2.2.2.2
def zlb{v:zz1}:Ev (λn=>z2j n v) (nul v.num&&(!v.truth&&(v.str.isEmpty&&v.list.isEmpty))):=by
 rw[y73];have⟨k,⟨p,q⟩,t,s,l⟩:=v;simp only[Ev.pif,Ev.yz0,nul,Bool.and_true];cases p==0 <;> cases q==0 <;> cases t <;> cases s <;> cases l <;> simp <;> omega
def yuy:∀v:zz1,v.wf->v.size<=8388608->Ev (λn=>zc8 n v) (zw7 v):=y9q λv u q A=>by
 have z:=zbb v;have hlen:=zk7 v.list;rw[yjg,ys0];by_cases m:v.kind=1
 ·rw[Qbx m,Ev.zz2 (by simpa using m),Ev.kz0 (yq2 (z065 q).1)];cases B:rok v.num
  ·rw[Ev.zz2 (by rfl),Ev.yz0];rfl
  ·rw[Ev.kz1 (by rfl)];exact zlb
 rw[Qby m,Ev.kz1 (by simpa using m)];by_cases l:v.kind=2
 ·rw[Qbx l,Ev.zz2 (by simpa using l)];exact zlb
 rw[Qby l,Ev.kz1 (by simpa using l)];by_cases j:v.kind=3
 ·rw[Qbx j,Ev.zz2 (by simpa using j)];by_cases s:v.str.length<=60
  ·rw[Ev.kz1 (by simp;omega),zz1.yz3]
   have loop:∀w:zz1,∀k,k<=v.str.length->Ev (λn=>z7t n (k:Int) v w) ((v.str.drop k).all zwf&&(nul w.num&&(!w.truth&&(w.str.isEmpty&&w.list.isEmpty)))):=λw=>
    down (by
     rw[zst,Ev.kz1 (by simp),zz1.yz3]
     simpa using zlb) λk b d=>by
     have g:Ev (λn=>z7f n (k:Int) true v w) false:=by rw[zsy,Ev.zz2 (by rfl),Ev.yz0]
     rw[<-Qah (h:=b),List.all_cons];rw[zst,Ev.zz2 (by simpa using b),Ev.yz2 (zz6 b),zz1.yz3,zz1.yz3];by_cases E:v.str[k].toNat<32
     ·rw[Ev.zz2 (by simp;omega)];refine g.to ?_;have:zwf v.str[k]=false:=by simp[zwf];omega
      rw[this];rfl
     ·rw[Ev.kz1 (by simp;omega),Ev.yz2 (zz6 b)];by_cases D:v.str[k].toNat>126
      ·rw[show decide ((v.str[k].toNat:Int)>126)=true by simp;omega];refine g.to ?_;have:zwf v.str[k]=false:=by simp[zwf];omega
       rw[this];rfl
      ·rw[show decide ((v.str[k].toNat:Int)>126)=false by simp;omega,zsy,Ev.kz1 (by rfl),wrk (by omega),zz1.yz3,zz1.yz3];have:zwf v.str[k]=true:=by simp[zwf];omega
       rw[this,Bool.true_and];exact d
   refine(loop ⟨v.kind,v.num,v.truth,[],v.list⟩ 0 (Qbv _)).to ?_;simp only[List.drop_zero,s,decide_true,Bool.true_and,List.isEmpty_nil];cases nul v.num <;> cases v.truth <;> cases v.list.isEmpty <;> cases v.str.all zwf <;> rfl
  ·rw[Ev.zz2 (by simp;omega),Ev.yz0];simp[s]
 rw[Qby j,Ev.kz1 (by simpa using j)];by_cases i:v.kind=4
 ·rw[Qbx i,Ev.zz2 (by simpa using i)]
  have loop:∀w:zz1,∀k,k<=v.list.length->Ev (λn=>z6t n (k:Int) v.list (v.list.length:Int) w) (znl (v.list.drop k)&&(nul w.num&&(!w.truth&&(w.str.isEmpty&&w.list.isEmpty)))):=λw=>
   down (by
    rw[zsm,Ev.kz1 (by simp),zz1.yz3]
    simpa[znl]using zlb) λk b d=>by
    have o:=Qad b;have y:=zng o;rw[<-Qah (h:=b),znl];rw[zsm,Ev.zz2 (by simpa using b),Ev.yz2 (zz6 b),zz1.yz3,Ev.kz0 (u _ o (z041 q _ o) (by omega))];cases C:zw7 v.list[k]
    ·rw[Ev.zz2 (by rfl),Ev.yz0];rfl
    ·rw[Ev.kz1 (by rfl),wrk (by omega),zz1.yz3,Bool.true_and];exact d
  refine(loop ⟨v.kind,v.num,v.truth,v.str,[]⟩ 0 (Qbv _)).to ?_;simp only[List.drop_zero,List.isEmpty_nil,Bool.and_true];cases nul v.num <;> cases v.truth <;> cases v.str.isEmpty <;> cases znl v.list <;> rfl
 ·rw[Qby i,Ev.kz1 (by simpa using i),Ev.yz0]
def yrb{v:zz1}(h:v.wf)(g:v.size<=8388608):Ev (λn=>zcq n v) (y33 v):=by
 have d:∀b,Ev (λn=>z4x n b v) (if b then 4 else if zw7 v then 0 else 8):=λb=>by
  rw[y5c];cases b
  ·rw[Ev.kz1 (by rfl),zz1.yz3,Ev.kz0 (yuy v h g)];cases zw7 v
   ·rw[Ev.zz2 (by rfl),Ev.yz0];rfl
   ·rw[Ev.kz1 (by rfl),Ev.yz0];rfl
  ·rw[Ev.zz2 (by rfl),Ev.yz0];rfl
 rw[ybj,zz1.yz3,Ev.kz0 (yhh v g)];unfold y33;simp only[Ev.pif];by_cases j:100<zh6 v
 ·rw[Qbx (by simp;omega),Qbx (.inl j)];exact d true
 ·rw[Qby (by simp;omega)];by_cases i:6<ziu v
  ·rw[Qbx (.inr i),show decide ((ziu v:Int)>6)=true by simp;omega];exact d true
  ·rw[Qby (by omega),show decide ((ziu v:Int)>6)=false by simp;omega];exact d false
def ysr:∀v:zz1,v.size<=8388608->Ev (λn=>zca n v) (zw7 v):=y9q λv D I=>by
 have G:=zbb v;have hlen:=zk7 v.list;rw[ygu,ys0];have l:((v.num.num==0)&&((v.num.den==0)&&true))=nul v.num:=by simp[nul]
 have j:((v.str.length:Int)==0)=v.str.isEmpty:=by cases v.str <;> simp;omega
 have m:((v.list.length:Int)==0)=v.list.isEmpty:=by cases v.list <;> simp;omega
 have z:decide ((v.list.length:Int)>0) = !v.list.isEmpty:=by cases v.list <;> simp
 have A:decide ((v.str.length:Int)>0) = !v.str.isEmpty:=by cases v.str <;> simp
 simp only[l,j,m,z,A];by_cases u:v.kind=1
 ·rw[Qbx u,Ev.zz2 (by simpa using u),Ev.kz0 yru];cases w:rok v.num <;> cases C:v.truth <;> cases y:v.str.isEmpty <;> simp[Ev.pif,Ev.yz0]
 rw[Qby u,Ev.kz1 (by simpa using u)];by_cases s:v.kind=2
 ·rw[Qbx s,Ev.zz2 (by simpa using s)];cases w:nul v.num <;> cases y:v.str.isEmpty <;> simp[Ev.pif,Ev.yz0]
 rw[Qby s,Ev.kz1 (by simpa using s)];by_cases q:v.kind=3
 ·rw[Qbx q,Ev.zz2 (by simpa using q)];have b:Ev (λn=>z16 n true v) false:=by rw[zum,Ev.zz2 (by rfl),Ev.yz0]
  have loop:∀k,k<=v.str.length->Ev (λn=>z6p n (k:Int) v) ((v.str.drop k).all zwf) :=
   down (by
    rw[zu8,Ev.kz1 (by simp),Ev.yz0]
    simp) λk d g=>by
    have b:Ev (λn=>z7r n (k:Int) true v) false:=by rw[zu5,Ev.zz2 (by rfl),Ev.yz0]
    rw[<-Qah (h:=d),List.all_cons];rw[zu8,Ev.zz2 (by simpa using d),Ev.yz2 (zz6 d),zz1.yz3];by_cases L:v.str[k].toNat<32
    ·rw[Ev.zz2 (by simp;omega)];refine b.to ?_;have:zwf v.str[k]=false:=by simp[zwf];omega
     rw[this];rfl
    ·rw[Ev.kz1 (by simp;omega),Ev.yz2 (zz6 d)];by_cases K:v.str[k].toNat>126
     ·rw[show decide ((v.str[k].toNat:Int)>126)=true by simp;omega];refine b.to ?_;have:zwf v.str[k]=false:=by simp[zwf];omega
      rw[this];rfl
     ·rw[show decide ((v.str[k].toNat:Int)>126)=false by simp;omega,zu5,Ev.kz1 (by rfl),wrk (by omega),zz1.yz3];have:zwf v.str[k]=true:=by simp[zwf];omega
      rw[this,Bool.true_and];exact g
  have good:Ev (λn=>z16 n false v) (v.str.all zwf):=by
   rw[zum,Ev.kz1 (by rfl),zz1.yz3];simpa using loop 0 (Qbv _)
  rw[zz1.yz3];cases w:nul v.num
  ·rw[Ev.zz2 (by rfl)];exact b
  rw[Ev.kz1 (by rfl)];cases C:v.truth
  ·rw[Ev.kz1 (by rfl)];cases E:v.list.isEmpty
   ·rw[Ev.zz2 (by rfl)];exact b
   ·rw[Ev.kz1 (by rfl)];by_cases i:v.str.length<=60
    ·rw[show decide ((v.str.length:Int)>60)=false by simp;omega];simpa[i]using good
    ·rw[show decide ((v.str.length:Int)>60)=true by simp;omega];simpa[i]using b
  ·rw[Ev.zz2 (by rfl)];exact b
 rw[Qby q,Ev.kz1 (by simpa using q)];by_cases o:v.kind=4
 ·rw[Qbx o,Ev.zz2 (by simpa using o)];have b:Ev (λn=>z2o n true v) false:=by rw[zsv,Ev.zz2 (by rfl),Ev.yz0]
  have loop:∀k,k<=v.list.length->Ev (λn=>z7n n (k:Int) v) (znl (v.list.drop k)) :=
   down (by
    rw[ztj,Ev.kz1 (by simp),Ev.yz0]
    simp[znl]) λk d g=>by
    have B:=Qad d;have F:=zng B;rw[<-Qah (h:=d),znl];rw[ztj,Ev.zz2 (by simpa using d),Ev.yz2 (zz6 d),zz1.yz3,Ev.kz0 (D _ B (by omega))];cases J:zw7 v.list[k]
    ·rw[Ev.zz2 (by rfl),Ev.yz0];rfl
    ·rw[Ev.kz1 (by rfl),wrk (by omega),zz1.yz3,Bool.true_and];exact g
  have good:Ev (λn=>z2o n false v) (znl v.list):=by
   rw[zsv,Ev.kz1 (by rfl),zz1.yz3];simpa using loop 0 (Qbv _)
  rw[zz1.yz3];cases w:nul v.num
  ·rw[Ev.zz2 (by rfl)];exact b
  rw[Ev.kz1 (by rfl)];cases C:v.truth
  ·rw[Ev.kz1 (by rfl)];cases E:v.str.isEmpty
   ·exact b
   ·simpa using good
  ·rw[Ev.zz2 (by rfl)];exact b
 ·rw[Qby o,Ev.kz1 (by simpa using o),Ev.yz0]
def yqg{v:zz1}(g:v.size<=8388608):Ev (λn=>zcm n v) (y33 v):=by
 have d:∀b,Ev (λn=>z58 n b v) (if b then 4 else if zw7 v then 0 else 8):=λb=>by
  rw[y4i];cases b
  ·rw[Ev.kz1 (by rfl),zz1.yz3,Ev.kz0 (ysr v g)];cases zw7 v
   ·rw[Ev.zz2 (by rfl),Ev.yz0];rfl
   ·rw[Ev.kz1 (by rfl),Ev.yz0];rfl
  ·rw[Ev.zz2 (by rfl),Ev.yz0];rfl
 rw[ycq,zz1.yz3,Ev.kz0 (y7r v g)];unfold y33;by_cases i:100<zh6 v
 ·rw[Ev.zz2 (by simp;omega),Qbx (.inl i)];exact d true
 ·rw[Ev.kz1 (by simp;omega),Ev.kz0 (ysd v g)];by_cases h:6<ziu v
  ·rw[Qbx (.inr h),show decide ((ziu v:Int)>6)=true by simp;omega];exact d true
  ·rw[Qby (by omega),show decide ((ziu v:Int)>6)=false by simp;omega];exact d false
def vext{a b:zz1}(z:a.kind=b.kind)(y:a.num.num=b.num.num)(w:a.num.den=b.num.den)(u:a.truth=b.truth)(o:a.str=b.str)(n:a.list=b.list):a=b:=by
 have⟨k,⟨p,q⟩,t,s,l⟩:=a;have⟨m,⟨i,h⟩,d,g,j⟩:=b
 simp_all
def ypf{α:Type}{x y:α}{l m:List α}:eqB (x::l) (y::m)=(eqB x y&&eqB l m):=by
 cases h:(eqB x y&&eqB l m)
 ·rw[kzk];intro b;injection b with g d
  rw[Bool.and_eq_false_iff,kzk,kzk]at h;exact h.elim (λh=>h g) (λh=>h d)
 ·rw[zak];rw[Qag,zak,zak]at h;rw[h.1,h.2]
def yfj:∀a b:zz1,a.size<=8388608->Ev (λn=>z3c n a b) (eqB a b):=y9q (P:=λa=>∀b:zz1,a.size<=8388608->Ev (λn=>z3c n a b) (eqB a b)) λa y b B=>by
 have A:=zbb a;have hlen:=zk7 a.list;have d:a≠b->Ev (λn=>z14 n true b a) (eqB a b):=λh=>by rw[ztc,Ev.zz2 (by rfl),Ev.yz0,kzk.2 h]
 rw[yil,zz1.yz3,zz1.yz3];by_cases q:a.kind=b.kind
 case neg=>rw[Ev.zz2 (by simpa using q)];exact d λh=>q (by rw[h])
 rw[Ev.kz1 (by simpa using q)];by_cases o:a.num.num=b.num.num∧a.num.den=b.num.den
 case neg=>rw[Ev.zz2 (by simp;omega)];exact d λh=>o (by rw[h];exact⟨rfl,rfl⟩)
 rw[Ev.kz1 (by simp[o])];by_cases m:a.truth=b.truth
 case neg=>rw[Ev.zz2 (by simpa using m)];exact d λh=>m (by rw[h])
 rw[Ev.kz1 (by simp[m])];by_cases l:a.str=b.str
 case neg=>rw[Ev.zz2 (by simpa using l)];exact d λh=>l (by rw[h])
 rw[Ev.kz1 (by simp[l])];by_cases w:a.list.length=b.list.length
 case neg=>rw[show((a.list.length:Int) != (b.list.length:Int))=true by simp;omega];exact d λh=>w (by rw[h])
 rw[show((a.list.length:Int) != (b.list.length:Int))=false by simp;omega,ztc,Ev.kz1 (by rfl),zz1.yz3,zz1.yz3]
 have loop:∀k,k<=a.list.length->Ev (λn=>z7z n (k:Int) (a.list.length:Int) b a) (eqB (a.list.drop k) (b.list.drop k)) :=
  down (by
   rw[zu9,Ev.kz1 (by simp),Ev.yz0,List.drop_length,w,List.drop_length,zax]) λk i s=>by
   have g:k<b.list.length:=by omega
   have u:=Qad i;have z:=zng u;rw[<-Qah (h:=i),<-Qah (h:=g),ypf];rw[zu9,Ev.zz2 (by simpa using i),Ev.yz2 (zz6 i),Ev.yz2 (zz6 g),zz1.yz3,zz1.yz3,Ev.kz0 (y _ u _ (by omega))];cases C:eqB a.list[k] b.list[k]
   ·rw[Ev.zz2 (by rfl),Ev.yz0];rfl
   ·rw[Ev.kz1 (by rfl),wrk (by omega),zz1.yz3,zz1.yz3,Bool.true_and];exact s
 refine(loop 0 (Qbv _)).to ?_;rw[List.drop_zero,List.drop_zero];by_cases j:a.list=b.list
 ·rw[zak.2 j,zak.2 (vext q o.1 o.2 m l j)]
 ·rw[kzk.2 j,kzk.2 λh=>j (by rw[h])]
def ybn:∀a b:zz1,a.size<=8388608->Ev (λn=>z3f n a b) (eqB a b):=y9q (P:=λa=>∀b:zz1,a.size<=8388608->Ev (λn=>z3f n a b) (eqB a b)) λa y b B=>by
 have A:=zbb a;have hlen:=zk7 a.list;have d:a≠b->Ev (λn=>z11 n true b a) (eqB a b):=λh=>by rw[zuh,Ev.zz2 (by rfl),Ev.yz0,kzk.2 h]
 rw[yi5,zz1.yz3,zz1.yz3];by_cases q:a.kind=b.kind
 case neg=>rw[Ev.zz2 (by simpa using q)];exact d λh=>q (by rw[h])
 rw[Ev.kz1 (by simpa using q)];by_cases o:a.num.num=b.num.num∧a.num.den=b.num.den
 case neg=>rw[Ev.zz2 (by simp;omega)];exact d λh=>o (by rw[h];exact⟨rfl,rfl⟩)
 rw[Ev.kz1 (by simp[o])];by_cases m:a.truth=b.truth
 case neg=>rw[Ev.zz2 (by simpa using m)];exact d λh=>m (by rw[h])
 rw[Ev.kz1 (by simp[m])];by_cases l:a.str=b.str
 case neg=>rw[Ev.zz2 (by simpa using l)];exact d λh=>l (by rw[h])
 rw[Ev.kz1 (by simp[l])];by_cases w:a.list.length=b.list.length
 case neg=>rw[show((a.list.length:Int) != (b.list.length:Int))=true by simp;omega];exact d λh=>w (by rw[h])
 rw[show((a.list.length:Int) != (b.list.length:Int))=false by simp;omega,zuh,Ev.kz1 (by rfl),zz1.yz3,zz1.yz3]
 have loop:∀k,k<=a.list.length->Ev (λn=>z6v n (k:Int) b a) (eqB (a.list.drop k) (b.list.drop k)) :=
  down (by
   rw[zsq,Ev.kz1 (by simp),Ev.yz0,List.drop_length,w,List.drop_length,zax]) λk i s=>by
   have g:k<b.list.length:=by omega
   have u:=Qad i;have z:=zng u;rw[<-Qah (h:=i),<-Qah (h:=g),ypf];rw[zsq,Ev.zz2 (by simpa using i),Ev.yz2 (zz6 i),Ev.yz2 (zz6 g),zz1.yz3,zz1.yz3,Ev.kz0 (y _ u _ (by omega))];cases C:eqB a.list[k] b.list[k]
   ·rw[Ev.zz2 (by rfl),Ev.yz0];rfl
   ·rw[Ev.kz1 (by rfl),wrk (by omega),zz1.yz3,zz1.yz3,Bool.true_and];exact s
 refine(loop 0 (Qbv _)).to ?_;rw[List.drop_zero,List.drop_zero];by_cases j:a.list=b.list
 ·rw[zak.2 j,zak.2 (vext q o.1 o.2 m l j)]
 ·rw[kzk.2 j,kzk.2 λh=>j (by rw[h])]
def z3g{α:Type}{l:List α}{k:Nat}(h:k<l.length):l.take k++[l[k]]=l.take (k+1):=by
 rw[List.take_add_one,Qab h];rfl
def yr6:∀v:zz1,v.size<=8388608->∀d:Int,∃b,Ev (λn=>zah n v d) b:=y9q λv m u d=>by
 have s:=zbb v;have hlen:=zk7 v.list
 have loop:∀k,k<=v.list.length->∀d:Int,∃b,Ev (λn=>z5r n (k:Int) d v) b :=
  down (λd=>⟨false,by rw[zpd,Ev.kz1 (by simp),Ev.yz0]⟩) λk h j d=>by
   have l:=Qad h;have q:=zng l;have⟨b,o⟩:=m _ l (by omega) (IntKind.i64.wrap (d-1));have⟨c,i⟩:=j d;refine⟨if b then true else c,?_⟩;rw[zpd,Ev.zz2 (by simpa using h),Ev.yz2 (zz6 h),zz1.yz3,Ev.kz0 o,zz1.yz3,wrk (by omega)];cases b
   ·rw[Ev.kz1 (by rfl)];exact i
   ·rw[Ev.zz2 (by rfl),Ev.yz0];rfl
 have g:∀d b,∃c,Ev (λn=>z2y n d b v) c:=λd b=>by
  cases b
  ·have⟨c,i⟩:=loop 0 (Qbv _) d;exact⟨c,by rw[zq3,Ev.kz1 (by rfl),zz1.yz3];exact i⟩
  ·exact⟨true,by rw[zq3,Ev.zz2 (by rfl),Ev.yz0]⟩
 simp only[yc7,zz1.yz3,Ev.pif];split
 ·exact g _ _
 split
 ·exact g _ _
 ·exact g _ _
def yr4{v:zz1}(d:v.size<=8388608):∃b,Ev (λn=>zd2 n v) b:=by
 have⟨b,g⟩:=yr6 v d 10;cases b
 ·exact⟨_,by rw[zyh,zz1.yz3,Ev.kz0 g,Ev.kz1 (by rfl),Ev.kz0 (y7r v d)];exact Ev.yz0.2 rfl⟩
 ·exact⟨true,by rw[zyh,zz1.yz3,Ev.kz0 g,Ev.zz2 (by rfl),Ev.yz0]⟩
def yg1{s:B8}(M:s.length<=8388608):Ev (λn=>z2g n s) (zjk s):=by
 have l:∀q,Ev (λn=>z0a n true s q) false:=λq=>by rw[ztt,Ev.zz2 (by rfl),Ev.yz0]
 have step:∀k (j:k<s.length) (r:Bool),((if k=0 then isLet s[k]else zhs s[k])=false->r=false)->((if k=0 then isLet s[k]else zhs s[k])=true->Ev (λn=>z10 n s (k+1)) r)->Ev (λn=>z10 n s k) r:=λk j r A J=>by
  have o:∀b,(if k=0 then isLet s[k]else zhs s[k]) = !b->(b=false->(zho s k).2=1)->Ev (λn=>z0a n b s (k+(zho s k).2)) r:=λb z B=>by
   cases b
   ·rw[ztt,Ev.kz1 (by rfl),B rfl];exact J z
   ·exact(l _).to (A z).symm
  rw[zuc,Ev.zz2 (by simpa using j)];by_cases d:s[k].toNat<128
  ·have D:=z01r j d;rw[D]at o;rw[D]
   have C:∀b,b=isLet s[k]->Ev (λn=>z78 n (s[k].toNat:Int) (k:Int) b s (k+1)) r:=λb z=>by
    subst z;rw[ztz];cases u:isLet s[k]
    ·rw[Ev.zz2 (by rfl)];by_cases g:k=0
     ·rw[Ev.zz2 (by simpa using g)];exact o true (by rw[Qbx g,u];rfl) (by simp)
     ·rw[Ev.kz1 (by simpa using g)];by_cases m:s[k].toNat=45
      ·have:s[k]=45:=UInt8.toNat_inj.1 (by simpa using m);rw[Ev.kz1 (by simp;omega)];exact o false (by rw[Qby g,zhs,this];rfl) (λ_=>rfl)
      ·have w:(s[k]==45)=false:=by
        simp only[beq_eq_false_iff_ne];intro h;rw[h]at m;exact m rfl
       rw[Ev.zz2 (by simp;omega)];by_cases F:s[k].toNat<48
       ·rw[Ev.zz2 (by simp;omega)];refine o true ?_ (by simp);rw[Qby g,zhs,u,w,yjr];simp;omega
       ·rw[Ev.kz1 (by simp;omega)];refine o _ ?_ (λ_=>rfl);rw[Qby g,zhs,u,w,yjr];have L:decide (48<=s[k].toNat)=true:=by rw[Qar];omega
        have K:decide ((s[k].toNat:Int)>57) = !decide (s[k].toNat<=57):=by
         by_cases E:s[k].toNat<=57
         ·rw[show decide (s[k].toNat<=57)=true by rw[Qar];exact E];simp only[Bool.not_true,decide_eq_false_iff_not];omega
         ·rw[show decide (s[k].toNat<=57)=false by rw[decide_eq_false_iff_not];exact E];simp only[Bool.not_false,Qar];omega
        rw[L,K];simp
    ·rw[Ev.kz1 (by rfl)];refine o false ?_ (λ_=>rfl);split
     ·exact u
     ·rw[zhs,u];rfl
   simp only;by_cases F:97<=s[k].toNat
   ·rw[Ev.zz2 (by simp;omega)];exact C _ (by simp[isLet,F];omega)
   ·rw[Ev.kz1 (by simp;omega)];exact C _ (by simp[isLet];omega)
  ·have⟨B,N⟩:=ywr j (by omega);have G:isLet s[k]=false:=by simp[isLet];omega
   have nm:zhs s[k]=false:=by
    rw[zhs,G,yjr];have:(s[k]==45)=false:=by simp only[beq_eq_false_iff_ne];intro h;rw[h]at d;exact d (by decide)
    rw[this];simp;omega
   have y:(if k=0 then isLet s[k]else zhs s[k])=false:=by split <;> assumption
   rw[Ev.zz2 (by simp;omega),show decide (((zho s k).1:Int)<=122)=false by simp;omega,ztz,Ev.zz2 (by rfl)];by_cases g:k=0
   ·rw[Ev.zz2 (by simpa using g)];exact(l _).to (A y).symm
   ·rw[Ev.kz1 (by simpa using g),Ev.zz2 (by simp;omega),Ev.kz1 (by simp;omega),show decide (((zho s k).1:Int)>57)=true by simp;omega];exact(l _).to (A y).symm
 have rest:∀k,k<=s.length->1<=k->Ev (λn=>z10 n s k) ((s.drop k).all zhs) :=
  down (Q:=λk=>1<=k->Ev (λn=>z10 n s k) ((s.drop k).all zhs)) (λ_=>by
   rw[zuc,Ev.kz1 (by simp),Ev.yz0];simp) λk j I B=>by
   rw[<-Qah (h:=j),List.all_cons];refine step k j _ (λh =>?_) λh =>?_
   ·rw[Qby (by omega)]at h;rw[h];rfl
   ·rw[Qby (by omega)]at h;rw[h];exact I (by omega)
 rw[yik]
 cases s with
 |nil=>rw[Ev.zz2 (by rfl),zt7,Ev.zz2 (by rfl),Ev.yz0];rfl
 |cons c t=>
  rw[Ev.kz1 (by simp;omega),zt7];by_cases i:(c::t).length<=40
  ·rw[Ev.kz1 (by simp at i ⊢;omega)];refine step 0 (by simp) _ (λh =>?_) λh =>?_
   ·rw[Qbx rfl]at h;simp only[List.getElem_cons_zero]at h;simp[zjk,h]
   ·rw[Qbx rfl]at h;simp only[List.getElem_cons_zero]at h;refine(rest 1 (by simp) (Qbw _)).to ?_;simp[zjk,h];intro _;simpa using i
  ·rw[Ev.zz2 (by simp at i ⊢;omega),Ev.yz0];simp[zjk];intro _ _;simpa using i
def yls{c:UInt8}:Ev (λn=>zbd n (c.toNat:Int)) (isLet c):=by
 rw[y8z];simp only[Ev.pif,Ev.yz0,isLet,Qar];split
 ·have:97<=c.toNat:=by omega
  simp[this];omega
 ·have:¬97<=c.toNat:=by omega
  simp[this]
def yq4{c:UInt8}:Ev (λn=>zd5 n (c.toNat:Int)) (yjr c):=by
 rw[yed];simp only[Ev.pif,Ev.yz0,yjr,Qar];split
 ·have:48<=c.toNat:=by omega
  simp[this];omega
 ·have:¬48<=c.toNat:=by omega
  simp[this]
def z06a{c:UInt8}:(((c.toNat:Nat):Int) != 45) = !(c==45):=by
 cases h:c==45 with
 |true=>have:c=45:=by simpa using h
        subst this;rfl
 |false=>
  have:c.toNat≠45:=λb=>by
   have:c=45:=UInt8.toNat_inj.1 (by simpa using b);subst this;cases h
  simp;omega
def yf5{s:B8}(B:s.length<=8388608):Ev (λn=>zby n s) (zjk s):=by
 have q:∀k:Int,Ev (λn=>z0y n s k true) false:=λk=>by rw[zsn,Ev.zz2 (by rfl),Ev.yz0]
 have step:∀k (d:k<s.length) (r:Bool),((if k=0 then isLet s[k]else zhs s[k])=false->r=false)->((if k=0 then isLet s[k]else zhs s[k])=true->Ev (λn=>z0b n ((k+1:Nat):Int) s) r)->Ev (λn=>z0b n (k:Int) s) r:=λk d r A y=>by
  have o:∀b,(if k=0 then isLet s[k]else zhs s[k]) = !b->Ev (λn=>z0y n s (k:Int) b) r:=λb u=>by
   cases b
   ·rw[zsn,Ev.kz1 (by rfl),wrk (by omega)];exact y u
   ·exact(q _).to (A u).symm
  rw[zt5,Ev.zz2 (by simpa using d),Ev.yz2 (zz6 d),Ev.kz0 yls];cases g:isLet s[k]
  ·rw[Ev.zz2 (by rfl)];by_cases j:k=0
   ·rw[Ev.zz2 (by simpa using j)];exact o true (by rw[Qbx j,g];rfl)
   ·rw[Ev.kz1 (by simpa using j),Ev.yz2 (zz6 d),z06a];cases l:s[k]==45
    ·rw[Ev.zz2 (by rfl),Ev.yz2 (zz6 d),Ev.kz0 yq4];exact o _ (by rw[Qby j,zhs,g,l];simp)
    ·rw[Ev.kz1 (by rfl)];exact o false (by rw[Qby j,zhs,g,l];rfl)
  ·rw[Ev.kz1 (by rfl)];exact o false (by split;exact g;rw[zhs,g];rfl)
 have m:∀r:Bool,r=(decide (1<=s.length)&&decide (s.length<=40))->Ev (λn=>z0b n (s.length:Int) s) r:=λr z=>by
  rw[zt5,Ev.kz1 (by simp),z];by_cases i:1<=s.length
  ·rw[Ev.zz2 (by simp;omega),Ev.yz0];simp[i];omega
  ·rw[Ev.kz1 (by simp;omega),Ev.yz0];simp[i]
 have rest:∀k,k<=s.length->1<=k->Ev (λn=>z0b n (k:Int) s) ((s.drop k).all zhs&&decide (s.length<=40)) :=
  down (Q:=λk=>1<=k->Ev (λn=>z0b n (k:Int) s) ((s.drop k).all zhs&&decide (s.length<=40))) (λi=>by
   refine m _ ?_;simp[i]) λk d w i=>by
   rw[<-Qah (h:=d),List.all_cons];refine step k d _ (λh =>?_) λh =>?_
   ·rw[Qby (by omega)]at h;rw[h];rfl
   ·rw[Qby (by omega)]at h;rw[h];exact w (by omega)
 rw[ygh]
 cases s with
 |nil=>exact m _ rfl
 |cons c t=>
  refine step 0 (by simp) _ (λh =>?_) λh =>?_
  ·rw[Qbx rfl]at h;simp only[List.getElem_cons_zero]at h;simp[zjk,h]
  ·rw[Qbx rfl]at h;simp only[List.getElem_cons_zero]at h;refine(rest 1 (by simp) (Qbw _)).to ?_;simp[zjk,h]
def zvi(s:B8):Bool:=zjk s&&(!(s==[116,114,117,101]) && !(s==[102,97,108,115,101]))
def yul{s:B8}(b:s.length<=8388608):Ev (λn=>zep n s) (zvi s):=by
 rw[yjh,Ev.kz0 (yg1 b)];unfold zvi;cases zjk s <;> cases h:(s==[116,114,117,101]) <;> simp[Ev.pif,Ev.yz0]
def yqk{s:B8}(b:s.length<=8388608):Ev (λn=>zd7 n s) (zvi s):=by
 rw[ye8,Ev.kz0 (yf5 b)];unfold zvi;cases zjk s <;> cases h:(s==[116,114,117,101]) <;> simp[Ev.pif,Ev.yz0]
def zyl{P:yz1->Prop}(h:∀e:yz1,(∀x,x∈e.args->P x)->P e)(e:yz1):P e:=h e λx b=>zyl h x
termination_by e
decreasing_by exact yz1.y5j b
mutual
def zap:yz1->Nat
 |⟨_,_,_,l⟩=>1+yzs l
def yzs:kz5->Nat
 |[]=>0
 |x::l=>zap x+yzs l
end
mutual
def zhu:yz1->Nat
 |⟨_,_,_,l⟩=>max 1 (zmg l)
def zmg:kz5->Nat
 |[]=>0
 |x::l=>max (1+zhu x) (zmg l)
end
def zeh(e:yz1):zap e=1+yzs e.args:=by cases e;rw[zap]
def yfa(e:yz1):zhu e=max 1 (zmg e.args):=by cases e;rw[zhu]
def y7e{l:kz5}{x:yz1}(h:x∈l):x.size<=(l.map yz1.size).sum:=by
 induction l with
 |nil=>cases h
 |cons y l b=>
  rcases Qbl.1 h with rfl|h
  ·simp
  ·have:=b h;simp;omega
def z9a(e:yz1):(e.args.map yz1.size).sum+e.name.length+e.value.size+4<=e.size:=by rw[yz1.size_eq];omega
def zjm{e x:yz1}(h:x∈e.args):x.size<=e.size:=by have:=y7e h;have:=z9a e;omega
def zb8(l:kz5):l.length<=(l.map yz1.size).sum:=by
 induction l with
 |nil=>simp
 |cons x l b=>have:=z9a x;simp;omega
def zt1:∀e:yz1,zap e<=e.size:=zyl λe g=>by
 have:∀l:kz5,(∀x,x∈l->x∈e.args)->yzs l<=(l.map yz1.size).sum:=λl=>by
  induction l with
  |nil=>intro _;simp[yzs]
  |cons x l b=>
   intro d;have:=g x (d x Qak);have:=b λy i=>d y (Qai _ i)
   simp[yzs];omega
 have:=this e.args λ_ h=>h
 have:=z9a e;rw[zeh];omega
def yqt:∀e:yz1,zhu e<=zap e:=zyl λe g=>by
 have:∀l:kz5,(∀x,x∈l->x∈e.args)->zmg l<=1+yzs l:=λl=>by
  induction l with
  |nil=>intro _;simp[yzs,zmg]
  |cons x l b=>
   intro d;have:=g x (d x Qak);have:=b λy i=>d y (Qai _ i)
   simp[yzs,zmg];omega
 have:=this e.args λ_ h=>h
 rw[zeh,yfa];omega
def ydq(l:kz5):yzs l<=(l.map yz1.size).sum:=by
 induction l with
 |nil=>simp[yzs]
 |cons x l b=>have:=zt1 x;simp[yzs];omega
def yoc:∀e:yz1,e.size<=8388608->Ev (λn=>z9h n e) ((zap e:Int),(zhu e:Int)):=zyl λe l B=>by
 have w:=z9a e;have hlen:=zb8 e.args
 have loop:∀k,k<=e.args.length->∀d p:Nat,p+yzs (e.args.drop k)<=8388609->d<=8388609->Ev (λn=>z3r n (k:Int) (d:Int) (p:Int) e.args (e.args.length:Int)) (((p+yzs (e.args.drop k):Nat):Int),((max d (zmg (e.args.drop k)):Nat):Int)) :=
  down (λd p g m=>by
   rw[zo4,Ev.kz1 (by simp),Ev.yz0]
   simp[yzs,zmg]) λk b i d p g m=>by
   have j:=Qad b;have u:=zjm j;rw[<-Qah (h:=b)]at g ⊢;simp only[yzs,zmg]at g ⊢;have y:=zt1 e.args[k];have z:=yqt e.args[k];rw[zo4,Ev.zz2 (by simpa using b),Ev.yz2 (zz6 b),yz1.yz3,Ev.kz0 (l _ j (by omega)),wI (x:=_+1) (by omega),wI (x:=(zhu _:Int)+1) (by omega),wI (x:=(p:Int)+_) (by omega)];have s:(k:Int)+1=((k+1:Nat):Int):=by omega
   have q:(zhu e.args[k]:Int)+1=((1+zhu e.args[k]:Nat):Int):=by omega
   have o:(p:Int)+(zap e.args[k]:Int)=((p+zap e.args[k]:Nat):Int):=by omega
   rw[s,q,o,yb0];refine(i (max d (1+zhu e.args[k])) (p+zap e.args[k]) (by omega) (by omega)).to ?_
   congr 2 <;> omega
 rw[y8y];have A:=ydq e.args;have:=loop 0 (Qbv _) 1 1 (by simp;omega) (by omega);refine this.to ?_;rw[zeh,yfa,List.drop_zero]
def y8c:∀e:yz1,e.size<=8388608->Ev (λn=>z8k n e) (zap e:Int):=zyl λe j w=>by
 have q:=z9a e;have hlen:=zb8 e.args;rw[ydb,yz1.yz3,zeh]
 have loop:∀k,k<=e.args.length->∀p:Nat,p+yzs (e.args.drop k)<=8388609->Ev (λn=>z5g n (k:Int) (p:Int) e) ((p+yzs (e.args.drop k):Nat):Int) :=
  down (λp d=>by
   rw[zqs,Ev.kz1 (by simp),Ev.yz0]
   simp[yzs]) λk b g p d=>by
   have i:=Qad b;have o:=zjm i;rw[<-Qah (h:=b)]at d ⊢;simp only[yzs]at d ⊢;have s:=zt1 e.args[k];rw[zqs,Ev.zz2 (by simpa using b),Ev.yz2 (zz6 b),yz1.yz3,Ev.kz0 (j _ i (by omega)),wI (x:=_+1) (by omega),wI (x:=(p:Int)+_) (by omega)];have m:(k:Int)+1=((k+1:Nat):Int):=by omega
   have l:(p:Int)+(zap e.args[k]:Int)=((p+zap e.args[k]:Nat):Int):=by omega
   rw[m,l,yz1.yz3];refine(g (p+zap e.args[k]) (by omega)).to ?_
   congr 1;omega
 have u:=ydq e.args;exact loop 0 (Qbv _) 1 (by simp;omega)
def ytu:∀e:yz1,e.size<=8388608->Ev (λn=>zc2 n e) (zhu e:Int):=zyl λe i w=>by
 have q:=z9a e;have hlen:=zb8 e.args;rw[yjj,yz1.yz3,yfa]
 have loop:∀k,k<=e.args.length->∀p:Nat,p<=8388609->Ev (λn=>z74 n (k:Int) (p:Int) e) ((max p (zmg (e.args.drop k)):Nat):Int) :=
  down (λp j=>by
   rw[zur,Ev.kz1 (by simp),Ev.yz0]
   simp[zmg]) λk b d p j=>by
   have g:=Qad b;have o:=zjm g;rw[<-Qah (h:=b)];simp only[zmg];have s:=zt1 e.args[k];have u:=yqt e.args[k];rw[zur,Ev.zz2 (by simpa using b),Ev.yz2 (zz6 b),yz1.yz3,Ev.kz0 (i _ g (by omega)),wI (x:=_+1) (by omega),wI (x:=1+_) (by omega)];have m:(k:Int)+1=((k+1:Nat):Int):=by omega
   have l:1+(zhu e.args[k]:Int)=((1+zhu e.args[k]:Nat):Int):=by omega
   rw[m,l,yz1.yz3,yb0];refine(d (max p (1+zhu e.args[k])) (by omega)).to ?_
   congr 1;omega
 exact loop 0 (Qbv _) 1 (by omega)
def zai(op:Int):Int :=
 if op=1∨op=2 then 0 else if (3<=op∧op<=10)∨op=13∨op=14∨op=17 then 2 else if op=11∨op=15∨op=16 then 1 else if op=12 then 3 else if op=18 then -1 else -2
def ops(op:Int):op=1∨op=2∨op=3∨op=4∨op=5∨op=6∨op=7∨op=8∨op=9∨op=10∨op=11∨op=12∨op=13∨op=14∨op=15∨op=16∨op=17∨op=18∨(op<1∨18<op):=by omega
def ytn{op:Int}:Ev (λn=>zem n op) (zai op):=by
 rcases ops op with rfl|rfl|rfl|rfl|rfl|rfl|rfl|rfl|rfl|rfl|rfl|rfl|rfl|rfl|rfl|rfl|rfl|rfl|h
 case inr.inr.inr.inr.inr.inr.inr.inr.inr.inr.inr.inr.inr.inr.inr.inr.inr.inr=>
  have e:zai op = -2:=by unfold zai;rw[Qby (by omega),Qby (by omega),Qby (by omega),Qby (by omega),Qby (by omega)]
  rw[e];have n (j:Int) (d:1<=j) (b:j<=18):(op==j)=false:=by simp;omega
  simp[y0z,zun,zsf,ztm,zu7,zuk,zui,Ev.pif,Ev.yz0,n]
 all_goals simp[y0z,zun,zsf,ztm,zu7,zuk,zui,Ev.pif,Ev.yz0,zai]
def yti{op:Int}:Ev (λn=>zes n op) (zai op):=by
 rcases ops op with rfl|rfl|rfl|rfl|rfl|rfl|rfl|rfl|rfl|rfl|rfl|rfl|rfl|rfl|rfl|rfl|rfl|rfl|h
 case inr.inr.inr.inr.inr.inr.inr.inr.inr.inr.inr.inr.inr.inr.inr.inr.inr.inr=>
  have e:zai op = -2:=by unfold zai;rw[Qby (by omega),Qby (by omega),Qby (by omega),Qby (by omega),Qby (by omega)]
  rw[e];have n (j:Int) (i:1<=j) (g:j<=18):(op==j)=false:=by simp;omega
  rw[y1d,Ev.kz1 (n 1 (by omega) (by omega)),n 2 (by omega) (by omega),zua,Ev.kz1 (by rfl)];have b:Ev (λm=>zzw m op false) (-2):=by simp[zsj,zsx,Ev.pif,Ev.yz0,n]
  by_cases d:op>=3
  ·rw[Ev.zz2 (by simpa using d),Ev.kz1 (by simp;omega),Ev.kz1 (n 13 (by omega) (by omega)),Ev.kz1 (n 14 (by omega) (by omega)),n 17 (by omega) (by omega)];exact b
  ·rw[Ev.kz1 (by simpa using d),Ev.kz1 (n 13 (by omega) (by omega)),Ev.kz1 (n 14 (by omega) (by omega)),n 17 (by omega) (by omega)];exact b
 all_goals simp[y1d,zua,zsj,zsx,Ev.pif,Ev.yz0,zai]
def yo9(op:Int)(v:zz1)(nm:B8):Bool :=
 if op=1 then y33 v==0&&(v.kind != 4&&nm.isEmpty)else if op=2 then zvi nm&&eqB v v0 else nm.isEmpty&&eqB v v0
def yna(op:Int)(k:Nat):Bool:=zai op != -2&&(decide (zai op<0)||(k:Int)==zai op)
mutual
def zpu:yz1->Bool
 |⟨op,v,nm,l⟩=>yna op l.length&&(yo9 op v nm&&zey l)
def zey:kz5->Bool
 |[]=>true
 |x::l=>zpu x&&zey l
end
def yqc(e:yz1):zpu e=(yna e.op e.args.length&&(yo9 e.op e.value e.name&&zey e.args)):=by cases e;rw[zpu]
def zan(e:yz1):Int:=if 100<zap e∨12<zhu e then 4 else if zpu e then 0 else 8
def ywk{e:yz1}(h:e.wf):e.value.wf:=by rw[yz1.kzn]at h;exact h.2.1
def z022{e:yz1}(h:e.wf):∀x∈e.args,x.wf:=by rw[yz1.kzn]at h;exact h.2.2.2
def y8p(s:B8):(!(s==[])) = !s.isEmpty:=by cases s <;> rfl
def ywf:∀e:yz1,e.wf->e.size<=8388608->Ev (λn=>ze2 n e) (zpu e):=zyl λe I F N=>by
 have M:=z9a e;have hlen:=zb8 e.args
 have B:∀k,k<=e.args.length->∃i:Int,Ev (λn=>zz8 n (k:Int) e.args (e.args.length:Int)) i∧decide (i>=0) = !zey (e.args.drop k) :=
  down ⟨-1,by rw[z0h,Ev.kz1 (by simp),Ev.yz0],by simp[zey]⟩ λk d A=>by
   have y:=Qad d;have L:=zjm y
   have q:Ev (λn=>zd4 n e.args[k]) (!zpu e.args[k]):=by
    rw[yfx,yz1.yz3,Ev.kz0 (I _ y (z022 F _ y) (by omega)),Ev.yz0]
   have⟨i,j,l⟩:=A;rw[<-Qah (h:=d),zey];cases G:zpu e.args[k]
   ·refine⟨k,?_,by simp⟩;rw[z0h,Ev.zz2 (by simpa using d),Ev.yz2 (zz6 d),yz1.yz3,Ev.kz0 q,Ev.zz2 (by rw[G];rfl),Ev.yz0]
   ·refine⟨i,?_,by rw[l];rfl⟩;rw[z0h,Ev.zz2 (by simpa using d),Ev.yz2 (zz6 d),yz1.yz3,Ev.kz0 q,Ev.kz1 (by rw[G];rfl),wrk (by omega)];exact j
 have s:Ev (λn=>z6f n e) (zey e.args):=by
  have⟨i,j,l⟩:=B 0 (Qbv _);have K:Ev (λn=>yzf n e.args) i:=by rw[zf1];exact j
  have m:Ev (λn=>zzc n e.args) (!zey e.args):=by
   rw[zdd,Ev.kz0 K,Ev.yz0,l];rfl
  rw[y9d,Ev.kz0 m,Ev.yz0,Bool.not_not]
 have u:∀b,Ev (λn=>z6e n b e) (!b&&zey e.args):=λb=>by
  rw[yak];cases b
  ·rw[Ev.kz1 (by rfl),yz1.yz3];exact s
  ·rw[Ev.zz2 (by rfl),Ev.yz0];rfl
 have E:∀b,Ev (λn=>z94 n b e) (!b&&zey e.args):=λb=>by
  rw[ya5];cases b
  ·rw[Ev.kz1 (by rfl),yz1.yz3];exact s
  ·rw[Ev.zz2 (by rfl),Ev.yz0];rfl
 have D:∀b,Ev (λn=>z98 n b e) (!b&&zey e.args):=λb=>by
  rw[y90];cases b
  ·rw[Ev.kz1 (by rfl),yz1.yz3];exact s
  ·rw[Ev.zz2 (by rfl),Ev.yz0];rfl
 have w:∀b,Ev (λn=>z6c n b e) (!b&&(yo9 e.op e.value e.name&&zey e.args)):=λb=>by
  rw[yam];cases b
  case true=>rw[Ev.zz2 (by rfl),Ev.yz0];rfl
  rw[Ev.kz1 (by rfl)];have g:Ev (λn=>z3c n e.value (zz1.mk 0 (kz4.mk 0 0) false [] [])) (eqB e.value v0):=yfj e.value v0 (by omega);by_cases j:e.op=1
  ·rw[Ev.zz2 (by simpa using j),zz1.yz3,Ev.kz0 (yrb (ywk F) (by omega)),yz1.yz3,y8p];simp only[yo9,Qbx j];by_cases m:y33 e.value=0
   ·rw[Ev.kz1 (by simpa using m)];by_cases d:e.value.kind=4
    ·rw[Ev.zz2 (by simpa using d)];refine(u true).to ?_;simp[m,d]
    ·rw[Ev.kz1 (by simpa using d)];have C:(e.value.kind != 4)=true:=by simpa using d
     refine(u _).to ?_;simp[m,C]
   ·rw[Ev.zz2 (by simpa using m)];refine(u true).to ?_;simp[m]
  rw[Ev.kz1 (by simpa using j)];by_cases l:e.op=2
  ·rw[Ev.zz2 (by simpa using l),Ev.kz0 (yul (by omega)),zz1.yz3,yz1.yz3];simp only[yo9,Qby j,Qbx l];cases J:zvi e.name
   ·rw[Ev.zz2 (by rfl)];exact(E true).to (by simp)
   ·rw[Ev.kz1 (by rfl),Ev.kz0 g];exact(E _).to (by simp)
  ·rw[Ev.kz1 (by simpa using l),y8p,zz1.yz3,yz1.yz3];simp only[yo9,Qby j,Qby l];cases J:e.name.isEmpty
   ·rw[Ev.zz2 (by rfl)];exact(D true).to (by simp)
   ·rw[Ev.kz1 (by rfl),Ev.kz0 g];exact(D _).to (by simp)
 rw[ylu,Ev.kz0 ytn,yqc,yz1.yz3];unfold yna;by_cases o:zai e.op = -2
 ·rw[Ev.zz2 (by simpa using o)];exact(w true).to (by simp[o])
 rw[Ev.kz1 (by simpa using o)];by_cases z:zai e.op>=0
 ·rw[Ev.zz2 (by simpa using z)];refine(w _).to ?_;rw[show decide (zai e.op<0)=false by simpa using z,show(zai e.op != -2)=true by simpa using o];simp only[bne,Bool.not_not,Bool.true_and,Bool.false_or]
 ·rw[Ev.kz1 (by simpa using z)];refine(w _).to ?_;rw[show decide (zai e.op<0)=true by simp;omega,show(zai e.op != -2)=true by simpa using o];simp
def yts:∀e:yz1,e.size<=8388608->Ev (λn=>zc7 n e) (zpu e):=zyl λe B E=>by
 have D:=z9a e;have hlen:=zb8 e.args
 have loop:∀k,k<=e.args.length->Ev (λn=>z81 n (k:Int) e) (zey (e.args.drop k)) :=
  down (by rw[zt3,Ev.kz1 (by simp),Ev.yz0];simp[zey]) λk d w=>by
   have A:=Qad d;have C:=zjm A;rw[<-Qah (h:=d),zey];rw[zt3,Ev.zz2 (by simpa using d),Ev.yz2 (zz6 d),yz1.yz3,Ev.kz0 (B _ A (by omega))];cases G:zpu e.args[k]
   ·rw[Ev.zz2 (by rfl),Ev.yz0];rfl
   ·rw[Ev.kz1 (by rfl),wrk (by omega),yz1.yz3,Bool.true_and];exact w
 have q:∀b,Ev (λn=>z13 n b e) (!b&&zey e.args):=λb=>by
  rw[y6p];cases b
  ·rw[Ev.kz1 (by rfl),yz1.yz3];exact loop 0 (Qbv _)
  ·rw[Ev.zz2 (by rfl),Ev.yz0];rfl
 have z:decide ((e.name.length:Int)>0) = !e.name.isEmpty:=by cases e.name <;> simp
 have o:∀b,Ev (λn=>z0d n b e) (!b&&((if e.op=2 then zvi e.name else e.name.isEmpty)&&zey e.args)):=λb=>by
  rw[y7g];cases b
  case true=>rw[Ev.zz2 (by rfl),Ev.yz0];rfl
  rw[Ev.kz1 (by rfl),yz1.yz3,z];by_cases j:e.op=2
  ·rw[Ev.zz2 (by simpa using j),Qbx j,Ev.kz0 (yqk (by omega))];cases F:zvi e.name
   ·rw[Ev.zz2 (by rfl)];exact(q true).to (by simp)
   ·rw[Ev.kz1 (by rfl),Ev.kz1 (by simpa using j)];exact(q false).to (by simp)
  ·rw[Ev.kz1 (by simpa using j),Ev.zz2 (by simpa using j),Qby j];exact(q _).to (by simp)
 have s:∀b,Ev (λn=>z4g n b e) (!b&&(yo9 e.op e.value e.name&&zey e.args)):=λb=>by
  rw[y79];cases b
  case true=>rw[Ev.zz2 (by rfl),Ev.yz0];rfl
  rw[Ev.kz1 (by rfl),zz1.yz3,yz1.yz3];have i:Ev (λn=>z3f n e.value (zz1.mk 0 (kz4.mk 0 0) false [] [])) (eqB e.value v0):=ybn e.value v0 (by omega);by_cases g:e.op=1
  ·rw[Ev.zz2 (by simpa using g),Ev.kz0 (yqg (by omega))];simp only[yo9,Qbx g];by_cases l:y33 e.value=0
   ·rw[Ev.kz1 (by simpa using l)];by_cases d:e.value.kind=4
    ·rw[Ev.zz2 (by simpa using d)];refine(o true).to ?_;simp[l,d]
    ·rw[Ev.kz1 (by simpa using d),Ev.kz1 (by simpa using g)];have y:(e.value.kind != 4)=true:=by simpa using d
     refine(o _).to ?_;simp[l,y,g]
   ·rw[Ev.zz2 (by simpa using l)];refine(o true).to ?_;simp[l]
  ·rw[Ev.kz1 (by simpa using g),Ev.zz2 (by simpa using g),Ev.kz0 i];refine(o _).to ?_;simp only[yo9,Qby g];split
   ·cases eqB e.value v0 <;> cases zvi e.name <;> simp
   ·cases eqB e.value v0 <;> cases e.name.isEmpty <;> simp
 rw[yja,Ev.kz0 yti,yqc,yz1.yz3];unfold yna;by_cases m:zai e.op = -2
 ·rw[Ev.zz2 (by simpa using m)];exact(s true).to (by simp[m])
 rw[Ev.kz1 (by simpa using m)];by_cases u:zai e.op>=0
 ·rw[Ev.zz2 (by simpa using u)];refine(s _).to ?_;rw[show decide (zai e.op<0)=false by simpa using u,show(zai e.op != -2)=true by simpa using m];simp only[bne,Bool.not_not,Bool.true_and,Bool.false_or]
 ·rw[Ev.kz1 (by simpa using u)];refine(s _).to ?_;rw[show decide (zai e.op<0)=true by simp;omega,show(zai e.op != -2)=true by simpa using m];simp
def zvq{e:yz1}(h:e.wf)(g:e.size<=8388608):Ev (λn=>z3i n e) (zan e):=by
 have d:∀b,Ev (λn=>z7o n b e) (if b then 4 else if zpu e then 0 else 8):=λb=>by
  rw[y6q];cases b
  ·rw[Ev.kz1 (by rfl),yz1.yz3,Ev.kz0 (ywf e h g)];cases zpu e
   ·rw[Ev.zz2 (by rfl),Ev.yz0];rfl
   ·rw[Ev.kz1 (by rfl),Ev.yz0];rfl
  ·rw[Ev.zz2 (by rfl),Ev.yz0];rfl
 rw[yh4,yz1.yz3,Ev.kz0 (yoc e g)];unfold zan;simp only[Ev.pif];by_cases j:100<zap e
 ·rw[Qbx (by simp;omega),Qbx (.inl j)];exact d true
 ·rw[Qby (by simp;omega)];by_cases i:12<zhu e
  ·rw[Qbx (.inr i),show decide ((zhu e:Int)>12)=true by simp;omega];exact d true
  ·rw[Qby (by omega),show decide ((zhu e:Int)>12)=false by simp;omega];exact d false
def zir{e:yz1}(g:e.size<=8388608):Ev (λn=>z1v n e) (zan e):=by
 have d:∀b,Ev (λn=>z62 n b e) (if b then 4 else if zpu e then 0 else 8):=λb=>by
  rw[y48];cases b
  ·rw[Ev.kz1 (by rfl),yz1.yz3,Ev.kz0 (yts e g)];cases zpu e
   ·rw[Ev.zz2 (by rfl),Ev.yz0];rfl
   ·rw[Ev.kz1 (by rfl),Ev.yz0];rfl
  ·rw[Ev.zz2 (by rfl),Ev.yz0];rfl
 rw[yft,yz1.yz3,Ev.kz0 (y8c e g)];unfold zan;by_cases i:100<zap e
 ·rw[Ev.zz2 (by simp;omega),Qbx (.inl i)];exact d true
 ·rw[Ev.kz1 (by simp;omega),Ev.kz0 (ytu e g)];by_cases h:12<zhu e
  ·rw[Qbx (.inr h),show decide ((zhu e:Int)>12)=true by simp;omega];exact d true
  ·rw[Qby (by omega),show decide ((zhu e:Int)>12)=false by simp;omega];exact d false
def y7u{e:yz1}(h:zan e=0):zpu e=true∧zap e<=100∧zhu e<=12:=by
 unfold zan at h;split at h
 ·cases h
 ·split at h
  ·exact⟨‹_›,by omega,by omega⟩
  ·cases h
def ypq:∀e:yz1,e.size<=8388608->∀d:Int,∃b,Ev (λn=>zaj n e d) b:=zyl λe o y d=>by
 have w:=z9a e;have hlen:=zb8 e.args
 have loop:∀k,k<=e.args.length->∀d:Int,∃b,Ev (λn=>z55 n (k:Int) d e) b :=
  down (λd=>⟨false,by rw[zql,Ev.kz1 (by simp),Ev.yz0]⟩) λk i l d=>by
   have m:=Qad i;have u:=zjm m;have⟨b,s⟩:=o _ m (by omega) (IntKind.i64.wrap (d-1));have⟨c,j⟩:=l d;refine⟨if b then true else c,?_⟩;rw[zql,Ev.zz2 (by simpa using i),Ev.yz2 (zz6 i),yz1.yz3,Ev.kz0 s,yz1.yz3,wrk (by omega)];cases b
   ·rw[Ev.kz1 (by rfl)];exact j
   ·rw[Ev.zz2 (by rfl),Ev.yz0];rfl
 have h:∀d b,∃c,Ev (λn=>z1m n d b e) c:=λd b=>by
  cases b
  ·have⟨c,j⟩:=loop 0 (Qbv _) d;exact⟨c,by rw[zqb,Ev.kz1 (by rfl),yz1.yz3];exact j⟩
  ·exact⟨true,by rw[zqb,Ev.zz2 (by rfl),Ev.yz0]⟩
 have⟨g,q⟩:=yr4 (v:=e.value) (by omega);simp only[yfe,yz1.yz3,zz1.yz3,Ev.pif,Ev.kz0 q];split
 ·exact h _ _
 split
 ·exact h _ _
 split
 ·exact h _ _
 ·exact h _ _
def zp6{e:yz1}(d:e.size<=8388608):∃b,Ev (λn=>z5q n e) b:=by
 have⟨b,g⟩:=ypq e d 16;cases b
 ·exact⟨_,by rw[zyt,yz1.yz3,Ev.kz0 g,Ev.kz1 (by rfl),Ev.kz0 (y8c e d)];exact Ev.yz0.2 rfl⟩
 ·exact⟨true,by rw[zyt,yz1.yz3,Ev.kz0 g,Ev.zz2 (by rfl),Ev.yz0]⟩
def zwy(l:kz5):l.length<=yzs l:=by
 induction l with
 |nil=>simp
 |cons x l b=>have:=zeh x;simp[yzs];omega
mutual
def zo9:yz1->List B8->List B8
 |⟨op,_,nm,l⟩,b=>zdo l (if op=2∧nm∉b then b++[nm]else b)
def zdo:kz5->List B8->List B8
 |[],b=>b
 |x::l,b=>zdo l (zo9 x b)
end
def y74(e:yz1)(b:List B8):zo9 e b=zdo e.args (if e.op=2∧e.name∉b then b++[e.name]else b):=by cases e;rw[zo9]
mutual
def ztv:yz1->List B8->List B8
 |⟨op,_,nm,l⟩,b=>ze3 l (if op=2 then ins b nm else b)
def ze3:kz5->List B8->List B8
 |[],b=>b
 |x::l,b=>ze3 l (ztv x b)
end
def yfn(e:yz1)(b:List B8):ztv e b=ze3 e.args (if e.op=2 then ins b e.name else b):=by cases e;rw[ztv]
def ypu:∀(e:yz1) (a b:List B8),a.Nodup->zmi b->(∀x,x∈a↔x∈b)->(zo9 e a).Nodup∧zmi (ztv e b)∧(∀x,x∈zo9 e a↔x∈ztv e b)∧(zo9 e a).length<=a.length+zap e∧(ztv e b).length<=b.length+zap e:=zyl λe B a b m k d=>by
 have w:∀(l:kz5),(∀x∈l,x∈e.args)->∀a b:List B8,a.Nodup->zmi b->(∀x,x∈a↔x∈b)->(zdo l a).Nodup∧zmi (ze3 l b)∧(∀x,x∈zdo l a↔x∈ze3 l b)∧(zdo l a).length<=a.length+yzs l∧(ze3 l b).length<=b.length+yzs l:=λl=>by
  induction l with
  |nil=>intro _ a b m k d;simp only[zdo,ze3,yzs];exact⟨m,k,d,Qbw _,Qbw _⟩
  |cons x l z=>
   intro A a b m k d;have⟨E,n,D,G,F⟩:=B x (A x Qak) a b m k d;have⟨j,i,g,o,s⟩:=z (λy u=>A y (Qai _ u)) _ _ E n D;simp only[zdo,ze3,yzs];exact⟨j,i,g,by omega,by omega⟩
 rw[y74,yfn,zeh];by_cases n:e.op=2
 ·rw[Qbx n];by_cases q:e.name∈a
  ·rw[Qby (by simp[q])]
   have⟨j,i,g,o,s⟩:=w e.args (λ_ h=>h) a (ins b e.name) m (y36 k) (λx=>by
    rw[yax,<-d]
    exact⟨.inl,λh=>h.elim id λh=>by rw[h];exact q⟩)
   have:=y3v e.name b;exact⟨j,i,g,by omega,by omega⟩
  ·rw[Qbx ⟨n,q⟩]
   have⟨j,i,g,o,s⟩:=w e.args (λ_ h=>h) (a++[e.name]) (ins b e.name) (by
    rw[List.nodup_append];refine⟨m,by simp,λx C y u =>?_⟩
    rw[Qbc.1 u];intro h;subst h;exact q C) (y36 k) (λx=>by
    rw[yax,<-d,Qbb,Qbc])
   have:=y3v e.name b;rw[Qap,List.length_singleton]at o;exact⟨j,i,g,by omega,by omega⟩
 ·rw[Qby n,Qby (λh=>n h.1)];have⟨j,i,g,o,s⟩:=w e.args (λ_ h=>h) a b m k d;exact⟨j,i,g,by omega,by omega⟩
def yqf(e:yz1):z0e (zo9 e [])=ztv e []:=by
 have⟨g,d,b,_⟩:=ypu e [] [] (by simp) (by simp[zmi]) (by simp);exact zs8 (zvh g) d λx=>by rw[(zg6 _).mem_iff,b]
def yej:∀(e:yz1) (a:List B8),(zo9 e a).length<=a.length+zap e:=zyl λe g a=>by
 have j:∀(l:kz5),(∀x∈l,x∈e.args)->∀a:List B8,(zdo l a).length<=a.length+yzs l:=λl=>by
  induction l with
  |nil=>intro _ a;simp[zdo,yzs]
  |cons x l b=>
   intro d a;have m:=g x (d x Qak) a;have k:=b (λy i=>d y (Qai _ i)) (zo9 x a);simp only[zdo,yzs];omega
 rw[y74,zeh];have:=j e.args (λ_ h=>h) (if e.op=2∧e.name∉a then a++[e.name]else a);have k:(if e.op=2∧e.name∉a then a++[e.name]else a).length<=a.length+1:=by split <;> simp
 omega
def ykl:∀(e:yz1) (a:List B8),(ztv e a).length<=a.length+zap e:=zyl λe g a=>by
 have j:∀(l:kz5),(∀x∈l,x∈e.args)->∀a:List B8,(ze3 l a).length<=a.length+yzs l:=λl=>by
  induction l with
  |nil=>intro _ a;simp[ze3,yzs]
  |cons x l b=>
   intro d a;have n:=g x (d x Qak) a;have m:=b (λy i=>d y (Qai _ i)) (ztv x a);simp only[ze3,yzs];omega
 rw[yfn,zeh];have k:=y3v e.name a;have:=j e.args (λ_ h=>h) (if e.op=2 then ins a e.name else a);split at this
 ·rename_i h;rw[Qbx h];omega
 ·rename_i h;rw[Qby h];omega
def yy5{l:List B8}(o:l.length<=8388608){s:B8}:∃i:Int,Ev (λn=>zzo n s l) (i,l)∧decide (i>=0)=decide (s∈l):=by
 have loop:∀k,k<=l.length->∃i:Int,Ev (λn=>zzg n (k:Int) s (l.length:Int) l) (i,l)∧decide (i>=0)=decide (s∈l.drop k) :=
  down ⟨-1,by rw[z3b,Ev.kz1 (by simp),Ev.yz0],by simp⟩ λk b m=>by
   have⟨i,j,g⟩:=m;by_cases d:s=l[k]
   ·refine⟨k,?_,?_⟩
    ·rw[z3b,Ev.zz2 (by simpa using b),Ev.yz2 (zz6 b),Ev.zz2 (by simpa using d),Ev.yz0]
    ·have:s∈l.drop k:=by rw[<-Qah (h:=b),d];exact Qak
     simp[this]
   ·refine⟨i,?_,?_⟩
    ·rw[z3b,Ev.zz2 (by simpa using b),Ev.yz2 (zz6 b),Ev.kz1 (by simpa using d),wrk (by omega)];exact j
    ·rw[g]
     have:(s∈l.drop k)↔(s∈l.drop (k+1)):=by
      rw[<-Qah (h:=b),Qbl];exact⟨λh=>h.elim (λh=>(d h).elim) id,.inr⟩
     exact decide_eq_decide.2 this.symm
 have⟨i,j,g⟩:=loop 0 (Qbv _);exact⟨i,by rw[zk4];exact j,by simpa using g⟩
def yt8:∀(e:yz1) (b:List B8),b.length+zap e<=8388608->Ev (λn=>zc1 n e b) (zo9 e b):=zyl λe u b d=>by
 rw[zeh]at d
 have loop:∀k,k<=e.args.length->∀b:List B8,b.length+yzs (e.args.drop k)<=8388608->Ev (λn=>z6z n (k:Int) e.args (e.args.length:Int) b) (zdo (e.args.drop k) b) :=
  down (λb d=>by rw[ztf,Ev.kz1 (by simp),Ev.yz0];simp[zdo]) λk j q b d=>by
   have w:=Qad j;have hlen:=zwy e.args;rw[<-Qah (h:=j)]at d ⊢;simp only[zdo,yzs]at d ⊢;have:=yej e.args[k] b
   have B:k<=8388609:=by
    have:=zwy e.args;omega
   rw[ztf,Ev.zz2 (by simpa using j),Ev.yz2 (zz6 j),yz1.yz3,Ev.kz0 (u _ w _ (by omega)),wrk (by omega)];exact q _ (by omega)
 have o:∀b:List B8,b.length+yzs e.args<=8388608->Ev (λn=>z6u n b e) (zdo e.args b):=λb d=>by
  rw[y77];simpa using loop 0 (Qbv _) b (by simpa using d)
 rw[yiy,y74];by_cases m:e.op=2
 ·have⟨i,A,z⟩:=yy5 (l:=b) (by omega) (s:=e.name)
  have y:Ev (λn=>zzl n e.name b) (decide (e.name∈b),b):=by
   rw[zhl,Ev.kz0 A,Ev.yz0,z]
  rw[Ev.zz2 (by simpa using m),Ev.kz0 y,yz1.yz3,zsr];by_cases g:e.name∈b
  ·rw[Ev.kz1 (by simpa using g),Qby (by simp[g]),yz1.yz3];exact o b (by omega)
  ·rw[Ev.zz2 (by simpa using g),Qbx ⟨m,g⟩,Ev.yz2 (z2w (by simp;omega)),yz1.yz3];exact o _ (by simp;omega)
 ·rw[Ev.kz1 (by simpa using m),Qby (λh=>m h.1),yz1.yz3,zsr,Ev.kz1 (by rfl),yz1.yz3];exact o _ (by omega)
def yuh{α:Type}{p:α->Bool}:∀{l:List α},(∀x∈l,p x=true)->l.takeWhile p=l∧l.dropWhile p=[]
 |[],_=>⟨rfl,rfl⟩
 |x::l,h=>by
  have b:=h x Qak;have⟨i,g⟩:=yuh (l:=l) λy d=>h y (Qai _ d)
  rw[List.takeWhile_cons_of_pos b,List.dropWhile_cons_of_pos b,i,g];exact⟨rfl,rfl⟩
def yyn{l:List B8}{k:Nat}(d:k<=l.length)(s:B8) :
  y3g (l++[[]]) ((k+1:Nat):Int) (k:Int)=some (l.take k++[(l++[[]])[k]'(by simp;omega)]++l.drop k)∧((l.take k++[(l++[[]])[k]'(by simp;omega)]++l.drop k).set k s=l.take k++s::l.drop k):=by
 constructor
 ·unfold y3g;rw[Qbx (by simp;omega)]
  congr 1
  have o:((k+1:Nat):Int).toNat=k+1:=by simp
  have n:((k:Nat):Int).toNat=k:=by simp
  rw[o,n];have m:min ((l++[[]]).length-k) ((l++[[]]).length-(k+1))=l.length-k:=by simp;omega
  rw[m,show k+1+(l.length-k)=l.length+1 by omega];have j:(l++[[]]).drop (l.length+1)=[]:=List.drop_of_length_le (by simp)
  have i:((l++[[]]).drop k).take (l.length-k)=l.drop k:=by
   rw[List.drop_append_of_le_length d,List.take_append_of_le_length (by simp),List.take_of_length_le (by simp)]
  have h:(l++[[]]).take (k+1)=l.take k++[(l++[[]])[k]'(by simp;omega)]:=by
   have b:k<(l++[[]]).length:=by simp;omega
   rw[<-z3g b,List.take_append_of_le_length d]
  rw[j,i,h,List.append_nil]
 ·have g:(l.take k).length=k:=by simp;omega
  rw[Qaz,List.set_append,Qby (by omega),g,Nat.sub_self];rfl
def yt1:∀(e:yz1) (b:List B8),b.length+zap e<=8388608->Ev (λn=>zc5 n e b) (ztv e b):=zyl λe E b l=>by
 rw[zeh]at l
 have loop:∀k,k<=e.args.length->∀b:List B8,b.length+yzs (e.args.drop k)<=8388608->Ev (λn=>z7g n (k:Int) b e) (ze3 (e.args.drop k) b) :=
  down (λb l=>by rw[zt6,Ev.kz1 (by simp),Ev.yz0];simp[ze3]) λk j q b l=>by
   have z:=Qad j;have hlen:=zwy e.args;rw[<-Qah (h:=j)]at l ⊢;simp only[ze3,yzs]at l ⊢;have:=ykl e.args[k] b;rw[zt6,Ev.zz2 (by simpa using j),Ev.yz2 (zz6 j),yz1.yz3,Ev.kz0 (E _ z _ (by omega)),wrk (by omega),yz1.yz3];exact q _ (by omega)
 have y:∀b:List B8,b.length+yzs e.args<=8388608->Ev (λn=>z4k n b e) (ze3 e.args b):=λb l=>by
  rw[y6c,yz1.yz3];simpa using loop 0 (Qbv _) b (by simpa using l)
 rw[yii,yz1.yz3,yfn];by_cases w:e.op=2
 case neg=>rw[Ev.kz1 (by simpa using w),Qby w];exact y _ (by omega)
 rw[Ev.zz2 (by simpa using w),Qbx w];have K:=y3v e.name b
 have u:∀k,k<=b.length->b.takeWhile (λx=>Op.bytesLess x e.name)=b.take k->b.dropWhile (λx=>Op.bytesLess x e.name)=b.drop k->Ev (λn=>z7j n (k:Int) false e b) (ze3 e.args (ins b e.name)):=λk j F J=>by
  have g:=z03e e.name b;rw[F,J]at g
  have put:ins b e.name=b.take k++e.name::b.drop k->Ev (λn=>z7b n (k:Int) true e b) (ze3 e.args (ins b e.name)):=λG=>by
   have⟨D,C⟩:=yyn j e.name;have z:ext b [[]]=some (b++[[]]):=z2w (by simp;omega);have B:yrt (b++[[]]) ((k+1:Nat):Int)=some ():=by unfold yrt;rw[Qbx (by simp;omega)]
   have A:yrt (b++[[]]) (k:Int)=some ():=by unfold yrt;rw[Qbx (by simp;omega)]
   have I:ix (b.take k++[(b++[[]])[k]'(by simp;omega)]++b.drop k) (k:Int)=some ((b++[[]])[k]'(by simp;omega)):=by
    rw[yd3,Qaz,Qav (by simp;omega)];simp[Nat.min_eq_left j]
   rw[ztx,Ev.zz2 (by rfl),Ev.yz2 z,wrk (by omega),Ev.yz2 B,Ev.yz2 A,Ev.yz2 D,Ev.yz2 I,yz1.yz3,Qbq,C,<-G];exact y _ (by omega)
  rw[ztb,Ev.kz1 (by rfl),yz1.yz3];by_cases L:k=b.length
  ·rw[Ev.zz2 (by simp;omega)];exact put (by rw[g,Qby (by rw[List.drop_of_length_le (by omega)];simp)])
  ·have s:k<b.length:=by omega
   rw[Ev.kz1 (by simp;omega),Ev.yz2 (zz6 s)];have m:(b.drop k).head?=some b[k]:=by rw[<-Qah (h:=s)];rfl
   by_cases o:b[k]=e.name
   ·rw[show(!(b[k]==e.name))=false by simpa using o,ztx,Ev.kz1 (by rfl),yz1.yz3];have:ins b e.name=b:=by rw[g,Qbx (by rw[m,o])]
    rw[this];exact y _ (by omega)
   ·rw[show(!(b[k]==e.name))=true by simpa using o];exact put (by rw[g,Qby (by rw[m];simpa using o)])
 have place:∀k,k<=b.length->(b.take k).all (λx=>Op.bytesLess x e.name)=true->Ev (λn=>z48 n (k:Int) e b) (ze3 e.args (ins b e.name)) :=
  down (Q:=λk=>(b.take k).all (λx=>Op.bytesLess x e.name)=true->Ev (λn=>z48 n (k:Int) e b) (ze3 e.args (ins b e.name))) (λd=>by
   rw[List.take_length]at d;rw[Qat]at d;rw[zso,Ev.kz1 (by simp),yz1.yz3];refine u _ (Qbw _) ?_ ?_
   ·rw[List.take_length];exact(yuh d).1
   ·rw[List.drop_length];exact(yuh d).2) λk j q d=>by
   have i:b=b.take k++b.drop k:=(List.take_append_drop k b).symm;rw[zso,Ev.zz2 (by simpa using j),Ev.yz2 (zz6 j),yz1.yz3];cases l:Op.bytesLess b[k] e.name
   ·rw[Qat]at d;refine u k (by omega) ?_ ?_
    ·conv=>lhs;rw[i]
     rw[List.takeWhile_append_of_pos d,<-Qah (h:=j),List.takeWhile_cons_of_neg (by simp[l]),List.append_nil]
    ·conv=>lhs;rw[i]
     rw[List.dropWhile_append_of_pos d,<-Qah (h:=j),List.dropWhile_cons_of_neg (by simp[l])]
   ·rw[ztb,Ev.zz2 (by rfl),wrk (by omega),yz1.yz3];refine q ?_;rw[<-z3g j,List.all_append,d];simp[l]
 exact place 0 (Qbv _) (by simp)
def zia(e:yz1):List B8×Int:=if zan e≠0 then ([],zan e)else (ztv e [],0)
def ysp{e:yz1}(g:e.wf)(h:e.size<=8388608):Ev (λn=>zcb n e) (zia e):=by
 rw[yj3,yz1.yz3,Ev.kz0 (zvq g h)];unfold zia;by_cases d:zan e=0
 case neg=>rw[Ev.zz2 (by simpa using d),Ev.yz0,Qbx d]
 have⟨_,j,_⟩:=y7u d;have i:=yej e []
 have b:Ev (λn=>yzp n (zo9 e [])) (ztv e []):=by
  refine .same (λn =>?_) (.pure rfl);unfold yzp;rw[Qbx (by simp at i;omega),yex,yqf]
 rw[Ev.kz1 (by simpa using d),Qby (by simpa using d),Ev.kz0 (yt8 e [] (by simp;omega)),Ev.kz0 b,Ev.yz0]
def yqo{e:yz1}(d:e.size<=8388608):Ev (λn=>zd3 n e) (zia e):=by
 rw[yd9,yz1.yz3,Ev.kz0 (zir d)];unfold zia;by_cases b:zan e=0
 case neg=>rw[Ev.zz2 (by simpa using b),Ev.kz0 (zir d),Ev.yz0,Qbx b]
 have⟨_,g,_⟩:=y7u b;rw[Ev.kz1 (by simpa using b),Qby (by simpa using b),Ev.kz0 (yt1 e [] (by simp;omega)),Ev.yz0]
end
end Go.Proofs.YthlmhmebajjkbaaGreatDoor
namespace Go.Ab
open Go
def y4s(s:B8):Nat:=if s.length<=1048576 then 0 else s.length
def ynz(s:B8):s.length<=y4s s+1048576:=by unfold y4s;split <;> omega
def ycn(s:B8):y4s s<=s.length:=by unfold y4s;split <;> omega
def yw2{s:B8}(h:s.length<=1048576):y4s s=0:=by unfold y4s;rw[Qbx h]
def zvv{α:Type}{f g:α->Nat}:∀{l:List α},(∀x∈l,f x<=g x)->(l.map f).sum<=(l.map g).sum
 |[],_=>Qbw _
 |x::l,h=>by
  simp only[List.map_cons,List.sum_cons];exact Nat.add_le_add (h x Qak) (zvv λy b=>h y (Qai _ b))
def zz7.sz(x:zz7):Nat:=1+(y4s x.name+1)+((x.args.map yz1.size).sum+1)+1
def zz7.z01(x:zz7):x.sz=1+(y4s x.name+1)+((x.args.map yz1.size).sum+1)+1:=rfl
def zz7.zxg(x:zz7):x.sz<=x.size:=by rw[zz7.z01,zz7.size_eq];have:=ycn x.name;omega
def kz2.sz(x:kz2):Nat:=1+1+(y4s x.name+1)+((x.args.map yz1.size).sum+1)+((x.items.map zz7.sz).sum+1)+1
def kz2.z01(x:kz2):x.sz=1+1+(y4s x.name+1)+((x.args.map yz1.size).sum+1)+((x.items.map zz7.sz).sum+1)+1:=rfl
def kz2.zxg(x:kz2):x.sz<=x.size:=by rw[kz2.z01,kz2.size_eq];have:=ycn x.name;have:=zvv (l:=x.items) λy _=>y.zxg;omega
def zz4.sz(x:zz4):Nat:=1+x.when_.size+((x.do_.map kz2.sz).sum+1)+1
def zz4.z01(x:zz4):x.sz=1+x.when_.size+((x.do_.map kz2.sz).sum+1)+1:=rfl
def zz4.zxg(x:zz4):x.sz<=x.size:=by rw[zz4.z01,zz4.size_eq];have:=zvv (l:=x.do_) λy _=>y.zxg;omega
def zz3.sz(x:zz3):Nat:=(y4s x.name+1)+((x.params.map (λs=>s.length+1)).sum+1)+((x.cases.map zz4.sz).sum+1)+1
def zz3.z01(x:zz3):x.sz=(y4s x.name+1)+((x.params.map (λs=>s.length+1)).sum+1)+((x.cases.map zz4.sz).sum+1)+1:=rfl
def zz3.zxg(x:zz3):x.sz<=x.size:=by rw[zz3.z01,zz3.size_eq];have:=ycn x.name;have:=zvv (l:=x.cases) λy _=>y.zxg;omega
def zz0.sz(x:zz0):Nat:=((x.attrs.map yz7.size).sum+1)+((x.rules.map zz3.sz).sum+1)+1
def zz0.z01(x:zz0):x.sz=((x.attrs.map yz7.size).sum+1)+((x.rules.map zz3.sz).sum+1)+1:=rfl
def zz0.zxg(x:zz0):x.sz<=x.size:=by rw[zz0.z01,zz0.size_eq];have:=zvv (l:=x.rules) λy _=>y.zxg;omega
def rn(f t s:B8):B8:=if s=f then t else s
def zvb(f t:B8)(x:zz7):zz7:=⟨x.kind,rn f t x.name,x.args⟩
def zmu(f t:B8)(x:kz2):kz2:=⟨x.kind,x.axis,rn f t x.name,x.args,x.items.map (zvb f t)⟩
def zri(f t:B8)(x:zz4):zz4:=⟨x.weight,x.when_,x.do_.map (zmu f t)⟩
def zj2(f t:B8)(x:zz3):zz3:=⟨rn f t x.name,x.params,x.cases.map (zri f t)⟩
def zi5(f t:B8)(x:zz0):zz0:=⟨x.attrs,x.rules.map (zj2 f t)⟩
variable {f t:B8}
def ysv(b:t.length<=1048576)(s:B8):y4s (rn f t s)<=y4s s:=by
 unfold rn;split
 ·rw[yw2 b];omega
 ·exact Qbw _
def z03y(b:t.length<=1048576)(x:zz7):(zvb f t x).sz<=x.sz:=by
 rw[zz7.z01,zz7.z01];have:=ysv (f:=f) b x.name;simp only[zvb];omega
def z04m(b:t.length<=1048576)(x:kz2):(zmu f t x).sz<=x.sz:=by
 rw[kz2.z01,kz2.z01];have:=ysv (f:=f) b x.name;simp only[zmu,List.map_map];have:=zvv (l:=x.items) (f:=zz7.sz∘zvb f t) (g:=zz7.sz) λy _=>z03y b y
 omega
def z049(b:t.length<=1048576)(x:zz4):(zri f t x).sz<=x.sz:=by
 rw[zz4.z01,zz4.z01];simp only[zri,List.map_map];have:=zvv (l:=x.do_) (f:=kz2.sz∘zmu f t) (g:=kz2.sz) λy _=>z04m b y
 omega
def z04n(b:t.length<=1048576)(x:zz3):(zj2 f t x).sz<=x.sz:=by
 rw[zz3.z01,zz3.z01];have:=ysv (f:=f) b x.name;simp only[zj2,List.map_map];have:=zvv (l:=x.cases) (f:=zz4.sz∘zri f t) (g:=zz4.sz) λy _=>z049 b y
 omega
def yvj(b:t.length<=1048576)(x:zz0):(zi5 f t x).sz<=x.sz:=by
 rw[zz0.z01,zz0.z01];simp only[zi5,List.map_map];have:=zvv (l:=x.rules) (f:=zz3.sz∘zj2 f t) (g:=zz3.sz) λy _=>z04n b y
 omega
def z051{x:zz7}(h:x.wf):(zvb f t x).wf:=by rw[zz7.kzn]at h ⊢;exact h
def z04z{x:kz2}(h:x.wf):(zmu f t x).wf:=by
 rw[kz2.kzn]at h ⊢;refine⟨h.1,h.2.1,h.2.2.1,h.2.2.2.1,λy d =>?_⟩;obtain⟨z,b,rfl⟩:=Qbg.1 d;exact z051 (h.2.2.2.2 z b)
def z040{x:zz4}(h:x.wf):(zri f t x).wf:=by
 rw[zz4.kzn]at h ⊢;refine⟨h.1,h.2.1,λy d =>?_⟩;obtain⟨z,b,rfl⟩:=Qbg.1 d;exact z04z (h.2.2 z b)
def z04q{x:zz3}(h:x.wf):(zj2 f t x).wf:=by
 rw[zz3.kzn]at h ⊢;refine⟨h.1,h.2.1,λy d =>?_⟩;obtain⟨z,b,rfl⟩:=Qbg.1 d;exact z040 (h.2.2 z b)
def yvb{x:zz0}(h:x.wf):(zi5 f t x).wf:=by
 rw[zz0.kzn]at h ⊢;refine⟨h.1,λy d =>?_⟩;obtain⟨z,b,rfl⟩:=Qbg.1 d;exact z04q (h.2 z b)
end Go.Ab
namespace Go.Proofs.YthlmhmebajjkbaaGreatDoor
open Go Go.Ab
def zvt{α:Type}{f:α->Nat}:∀{l:List α}{x:α},x∈l->f x<=(l.map f).sum
 |y::l,x,h=>by
  simp only[List.map_cons,List.sum_cons]
  rcases Qbl.1 h with h|h
  ·subst h;omega
  ·have:=zvt (f:=f) h;omega
def zpa{α:Type}{f:α->Nat}(b:∀x,1<=f x):∀l:List α,l.length<=(l.map f).sum
 |[]=>by simp
 |x::l=>by have:=zpa b l;have:=b x;simp only[List.length_cons,List.map_cons,List.sum_cons];omega
def zcd(l:kz5):yz1:=⟨18,⟨0,⟨0,0⟩,false,[],[]⟩,[],l⟩
def zii(l:kz5):(zcd l).size=(l.map yz1.size).sum+12:=by
 rw[yz1.size_eq];show 1+zz1.size _+0+1+((l.map yz1.size).sum+1)+1=_;rw[zz1.size_eq];show 1+(1+(1+1+1)+1+(0+1)+(0+1)+1)+0+1+((l.map yz1.size).sum+1)+1=_;omega
def ypl{l:kz5}(h:∀x∈l,x.wf):(zcd l).wf:=by
 rw[yz1.kzn];refine⟨by show(IntKind.u8.min<=18∧18<=IntKind.u8.max);decide,?_,trivial,h⟩;rw[zz1.kzn];refine⟨by show(IntKind.u8.min<=0∧0<=IntKind.u8.max);decide,?_,trivial,trivial,by simp[zcd]⟩;rw[kz4.kzn];exact⟨by show(IntKind.i64.min<=0∧0<=IntKind.i64.max);decide,by show(IntKind.i64.min<=0∧0<=IntKind.i64.max);decide⟩
def yx0{a b:kz5}:eqB (zcd a) (zcd b)=eqB a b:=by
 by_cases h:a=b
 ·rw[h,zax,zax]
 ·rw[kzk.2 h,kzk.2 (λe=>h (by injection e))]
section
variable {p:zz0}{t:yz7}{r:zz3}{c:zz4}{a:kz2}{x:zz7}{e:yz1}
def ydj(h:t∈p.attrs):t.size+2<=p.sz:=by have:=zvt (f:=yz7.size) h;rw[zz0.z01];omega
def zsu(h:r∈p.rules):r.sz+2<=p.sz:=by have:=zvt (f:=zz3.sz) h;rw[zz0.z01];omega
def yfm:t.value.size+t.name.length+2<=t.size:=by rw[yz7.size_eq];omega
def zsk(h:c∈r.cases):c.sz+2<=r.sz:=by have:=zvt (f:=zz4.sz) h;rw[zz3.z01];omega
def z05l:r.name.length<=r.sz+1048576:=by have:=ynz r.name;rw[zz3.z01];omega
def z05f{s:B8}(h:s∈r.params):s.length+2<=r.sz:=by have:=zvt (f:=λs:B8=>s.length+1) h;rw[zz3.z01];omega
def ykh:c.when_.size+2<=c.sz:=by rw[zz4.z01];omega
def zx5(h:a∈c.do_):a.sz+2<=c.sz:=by have:=zvt (f:=kz2.sz) h;rw[zz4.z01];omega
def z056:a.name.length<=a.sz+1048576:=by have:=ynz a.name;rw[kz2.z01];omega
def ybv:(a.args.map yz1.size).sum+5<=a.sz:=by rw[kz2.z01];omega
def y8b(h:x∈a.items):x.sz+2<=a.sz:=by have:=zvt (f:=zz7.sz) h;rw[kz2.z01];omega
def z05i:x.name.length<=x.sz+1048576:=by have:=ynz x.name;rw[zz7.z01];omega
def ydd:(x.args.map yz1.size).sum+4<=x.sz:=by rw[zz7.z01];omega
def ztk:p.attrs.length<=p.sz:=by have:=zpa (f:=yz7.size) (λx=>by rw[yz7.size_eq];omega) p.attrs;rw[zz0.z01];omega
def zmt:p.rules.length<=p.sz:=by have:=zpa (f:=zz3.sz) (λx=>by rw[zz3.z01];omega) p.rules;rw[zz0.z01];omega
def zym:r.params.length<=r.sz:=by have:=zpa (f:=λs:B8=>s.length+1) (λx=>by omega) r.params;rw[zz3.z01];omega
def zwb:r.cases.length<=r.sz:=by have:=zpa (f:=zz4.sz) (λx=>by rw[zz4.z01];omega) r.cases;rw[zz3.z01];omega
def zw4:c.do_.length<=c.sz:=by have:=zpa (f:=kz2.sz) (λx=>by rw[kz2.z01];omega) c.do_;rw[zz4.z01];omega
def y1n:a.items.length<=a.sz:=by have:=zpa (f:=zz7.sz) (λx=>by rw[zz7.z01];omega) a.items;rw[kz2.z01];omega
def z05o:a.args.length<=a.sz:=by have:=zb8 a.args;have:=@ybv a;omega
def z036:x.args.length<=x.sz:=by have:=zb8 x.args;have:=@ydd x;omega
def z05g(h:p.wf)(b:t∈p.attrs):t.value.wf:=by rw[zz0.kzn]at h;have:=h.1 t b;rw[yz7.kzn]at this;exact this.2
def z034(h:p.wf)(b:r∈p.rules):r.wf:=by rw[zz0.kzn]at h;exact h.2 r b
def z00s(h:r.wf)(b:c∈r.cases):c.wf:=by rw[zz3.kzn]at h;exact h.2.2 c b
def z058(h:c.wf):c.when_.wf:=by rw[zz4.kzn]at h;exact h.2.1
def z017(h:c.wf)(b:a∈c.do_):a.wf:=by rw[zz4.kzn]at h;exact h.2.2 a b
def z059(h:a.wf):(0<=a.kind∧a.kind<=255)∧(0<=a.axis∧a.axis<=255):=by rw[kz2.kzn]at h;exact⟨h.1,h.2.1⟩
def wf_aa(h:a.wf):(zcd a.args).wf:=by rw[kz2.kzn]at h;exact ypl h.2.2.2.1
def wf_ae(h:a.wf)(b:e∈a.args):e.wf:=by rw[kz2.kzn]at h;exact h.2.2.2.1 e b
def z05p(h:a.wf)(b:x∈a.items):x.wf:=by rw[kz2.kzn]at h;exact h.2.2.2.2 x b
def wf_xa(h:x.wf):(zcd x.args).wf:=by rw[zz7.kzn]at h;exact ypl h.2.2
def wf_xe(h:x.wf)(b:e∈x.args):e.wf:=by rw[zz7.kzn]at h;exact h.2.2 e b
end
def z01x{α:Type}{a b:List α}(h:¬a.length=b.length):((a.length:Int) != (b.length:Int))=true:=by simp;omega
def z002{α:Type}{a b:List α}(h:a.length=b.length):((a.length:Int) != (b.length:Int))=false:=by simp;omega
def yy4{α:Type}{F:Nat->List α->List α->Option Bool}{L:Nat->Int->List α->List α->Int->Option Bool}{S:Nat->α->α->Option Bool}{a b:List α}
  (u:∀n,F (n+1) a b=pIf ((a.length:Int) != (b.length:Int)) (some false) (L n 0 b a (a.length:Int)))
  (j:∀n (k:Int),L (n+1) k b a (a.length:Int)=pIf (decide (k<(a.length:Int))) ((ix a k).bind λo=>(ix b k).bind λm=>(S n o m).bind λl=>pIf (!l) (some false) (L n (IntKind.i64.wrap (k+1)) b a (a.length:Int))) (some true))
  (w:a.length<=8388608) (s:∀x∈a,∀y,Ev (λn=>S n x y) (eqB x y)):Ev (λn=>F n a b) (eqB a b):=by
 rw[Ev.zjc u];by_cases hlen:a.length=b.length
 case neg=>rw[Ev.zz2 (z01x hlen),Ev.yz0,kzk.2 (λh=>hlen (by rw[h]))]
 rw[Ev.kz1 (z002 hlen)]
 have:=y7h (L:=λn k=>L n k b a (a.length:Int)) (fail:=false) (r:=true) hlen
  (by rw[Ev.zjc (λn=>j n _),Ev.kz1 (by simp),Ev.yz0]) λk d g v q=>by
   rw[Ev.zjc (λn=>j n _),Ev.zz2 (by simpa using d),Ev.yz2 (zz6 d),Ev.yz2 (zz6 g),Ev.kz0 (s _ (Qad d) _)];by_cases i:a[k]=b[k]
   ·rw[i,zax,Ev.kz1 (by rfl),wrk (by omega)];exact q
   ·rw[kzk.2 i,Ev.zz2 (by rfl),Ev.yz0];rfl
 cases h:eqB a b <;> rw[h]at this <;> exact this
def y69{α:Type}{L:Nat->Int->List α->Int->Option Int}{S:Nat->α->Option Bool}{l:List α}{p:α->Bool}
  (g:∀n (k:Int),L (n+1) k l (l.length:Int)=pIf (decide (k<(l.length:Int))) ((ix l k).bind λo=>(S n o).bind λm=>pIf m (some k) (L n (IntKind.i64.wrap (k+1)) l (l.length:Int))) (some (-1)))
  (u:l.length<=8388608) (j:∀x∈l,Ev (λn=>S n x) (p x)):∃i:Int,Ev (λn=>L n 0 l (l.length:Int)) i∧decide (i>=0)=l.any p:=by
 have:∀k,k<=l.length->∃i:Int,Ev (λn=>L n (k:Int) l (l.length:Int)) i∧decide (i>=0)=(l.drop k).any p :=
  down ⟨-1,by rw[Ev.zjc (λn=>g n _),Ev.kz1 (by simp),Ev.yz0],by simp⟩ λk b ⟨i,s,q⟩=>by
   cases d:p l[k]with
   |true=>
    refine⟨k,?_,?_⟩
    ·rw[Ev.zjc (λn=>g n _),Ev.zz2 (by simpa using b),Ev.yz2 (zz6 b),Ev.kz0 (j _ (Qad b)),d,Ev.zz2 rfl,Ev.yz0]
    ·rw[<-Qah (h:=b),List.any_cons,d];simp
   |false=>
    refine⟨i,?_,?_⟩
    ·rw[Ev.zjc (λn=>g n _),Ev.zz2 (by simpa using b),Ev.yz2 (zz6 b),Ev.kz0 (j _ (Qad b)),d,Ev.kz1 rfl,wrk (by omega)];exact s
    ·rw[<-Qah (h:=b),List.any_cons,d,q];simp
 simpa using this 0 (Qbv _)
def ywz:∀a b:yz1,a.size<=8388608->Ev (λn=>z3k n a b) (eqB a b):=zyl (P:=λa=>∀b:yz1,a.size<=8388608->Ev (λn=>z3k n a b) (eqB a b)) λa l b s=>by
 have q:=z9a a;have hlen:=zb8 a.args;rw[ykr];by_cases i:a.op=b.op
 case neg=>rw[Ev.kz1 (by simpa using i),Ev.yz0,kzk.2 (λh=>i (by rw[h]))]
 rw[Ev.zz2 (by simpa using i)];by_cases g:a.name=b.name
 case neg=>rw[Ev.kz1 (by simpa using g),Ev.yz0,kzk.2 (λh=>g (by rw[h]))]
 rw[Ev.zz2 (by simpa using g),zz1.yz3,zz1.yz3,Ev.kz0 (yfj _ _ (by omega))];by_cases d:a.value=b.value
 case neg=>rw[kzk.2 d,Ev.kz1 rfl,Ev.yz0,kzk.2 (λh=>d (by rw[h]))]
 rw[d,zax,Ev.zz2 rfl,Ev.kz0 (yy4 (S:=λn x y=>z3k n x.re y.re) (λn=>zz9.eq_2 _ _ n) (λn k=>kz7.eq_2 _ _ _ _ n) (by omega) λx j y=>by rw[yz1.yz3,yz1.yz3];exact l x j y (by have:=zjm j;omega)),Ev.yz0];have⟨C,B,A,o⟩:=a;have⟨z,w,u,m⟩:=b;cases i;cases g;cases d;by_cases h:o=m
 ·cases h;rw[zax,zax]
 ·rw[kzk.2 h,kzk.2 (λe=>h (by injection e))]
def y3a:∀a b:yz1,a.size<=8388608->Ev (λn=>z4w n a b) (eqB a b):=zyl (P:=λa=>∀b:yz1,a.size<=8388608->Ev (λn=>z4w n a b) (eqB a b)) λa s b A=>by
 have z:=z9a a;have hlen:=zb8 a.args;have d:a≠b->Ev (λn=>z2m n true b a) (eqB a b):=λh=>by rw[zub,Ev.zz2 rfl,Ev.yz0,kzk.2 h]
 rw[ygk,yz1.yz3,yz1.yz3];by_cases m:a.op=b.op
 case neg=>rw[Ev.zz2 (by simpa using m)];exact d λh=>m (by rw[h])
 rw[Ev.kz1 (by simpa using m)];by_cases l:a.name=b.name
 case neg=>rw[Ev.zz2 (by simpa using l)];exact d λh=>l (by rw[h])
 rw[Ev.kz1 (by simpa using l),zz1.yz3,zz1.yz3,Ev.kz0 (ybn _ _ (by omega))];by_cases j:a.value=b.value
 case neg=>rw[kzk.2 j,Ev.zz2 (by rfl)];exact d λh=>j (by rw[h])
 rw[j,zax,Ev.kz1 (by rfl)];by_cases i:a.args.length=b.args.length
 case neg=>rw[z01x i];exact d λh=>i (by rw[h])
 rw[z002 i,zub,Ev.kz1 rfl,yz1.yz3,yz1.yz3]
 have:=y7h (L:=λn k=>z80 n k b a) (fail:=false) (r:=true) i
  (by rw[zu1,Ev.kz1 (by simp),Ev.yz0]) λk g o v u=>by
   rw[zu1,Ev.zz2 (by simpa using g),Ev.yz2 (zz6 g),Ev.yz2 (zz6 o),yz1.yz3,yz1.yz3,Ev.kz0 (s _ (Qad g) _ (by have:=zjm (Qad g);omega))];by_cases q:a.args[k]=b.args[k]
   ·rw[q,zax,Ev.kz1 (by rfl),wrk (by omega),yz1.yz3,yz1.yz3];exact u
   ·rw[kzk.2 q,Ev.zz2 (by rfl),Ev.yz0];rfl
 have e:(if eqB a.args b.args=true then true else false)=eqB a b:=by
  have⟨G,F,E,y⟩:=a;have⟨D,C,B,w⟩:=b;cases m;cases l;cases j;by_cases h:y=w
  ·cases h;rw[zax,zax];rfl
  ·rw[kzk.2 h,kzk.2 (λe=>h (by injection e))];rfl
 rw[<-e];exact this
def andF{c d:Bool}{A:Nat->Option Bool}(h:c=true->Ev A d):Ev (λn=>pIf c (A n) (some false)) (c&&d):=by
 cases c
 ·exact Ev.pure rfl
 ·exact h rfl
def yu3{c d:Bool}{A Z:Nat->Option Bool}(b:Ev Z false)(h:c=true->Ev A d):Ev (λn=>pIf (!c) (Z n) (A n)) (c&&d):=by
 cases c
 ·exact b
 ·exact h rfl
def beqB{α:Type}[BEq α][LawfulBEq α](a b:α):(a==b)=eqB a b:=by
 by_cases h:a=b
 ·subst h;simp
 ·rw[kzk.2 h];simpa using h
def ys1{α:Type}[BEq α][LawfulBEq α](a b:α):(a != b) = !eqB a b:=by rw[bne,beqB]
def y5l{α:Type}{a b:α}{c:Bool}(h:a=b↔c=true):eqB a b=c:=by
 cases c
 ·exact kzk.2 λe=>by simpa using h.1 e
 ·exact zak.2 (h.2 rfl)
def eq_attr(a b:yz7):eqB a b=(eqB a.name b.name&&eqB a.value b.value):=y5l (by
 have⟨i,h⟩:=a;have⟨g,d⟩:=b;simp only[yz7.mk.injEq,Qag,zak])
def z03t(a b:zz7):eqB a b=(eqB a.kind b.kind&&(eqB a.name b.name&&eqB a.args b.args)):=y5l (by
 have⟨k,j,i⟩:=a;have⟨h,g,d⟩:=b;simp only[zz7.mk.injEq,Qag,zak])
def yyk(a b:kz2):eqB a b=(eqB a.kind b.kind&&(eqB a.axis b.axis&&(eqB a.name b.name&&(eqB a.args b.args&&eqB a.items b.items)))):=y5l (by
 have⟨o,n,m,l,k⟩:=a;have⟨j,i,h,g,d⟩:=b;simp only[kz2.mk.injEq,Qag,zak])
def z042(a b:zz4):eqB a b=(eqB a.weight b.weight&&(eqB a.when_ b.when_&&eqB a.do_ b.do_)):=y5l (by
 have⟨k,j,i⟩:=a;have⟨h,g,d⟩:=b;simp only[zz4.mk.injEq,Qag,zak])
def z04u(a b:zz3):eqB a b=(eqB a.name b.name&&(eqB a.params b.params&&eqB a.cases b.cases)):=y5l (by
 have⟨k,j,i⟩:=a;have⟨h,g,d⟩:=b;simp only[zz3.mk.injEq,Qag,zak])
def lenF{α:Type}{a b:List α}(h:¬a.length=b.length):eqB (a.length:Int) (b.length:Int)=false:=kzk.2 (by omega)
def lenT{α:Type}{a b:List α}(h:a.length=b.length):eqB (a.length:Int) (b.length:Int)=true:=zak.2 (by omega)
def neqB{α:Type}{a b:List α}(h:¬a.length=b.length):eqB a b=false:=kzk.2 λe=>h (by rw[e])
def ifB(c:Bool):(if c=true then true else false)=c:=by cases c <;> rfl
def yd0{a b:kz5}(h:(a.map yz1.size).sum<=4000000):Ev (λn=>z43 n a b) (eqB a b):=by
 have g:Ev (λn=>z0g n a) (zcd a):=by rw[zli,Ev.yz0];rfl
 have d:Ev (λn=>z0g n b) (zcd b):=by rw[zli,Ev.yz0];rfl
 rw[y35,Ev.kz0 g,Ev.kz0 d,yz1.yz3,yz1.yz3,Ev.kz0 (y3a _ _ (by rw[zii];omega)),Ev.yz0,yx0]
def yip{a b:kz2}(o:a.sz<=4000000):Ev (λn=>z4d n a b) (eqB a b):=by
 have:=@ybv a;have:=@y1n a;have g:Ev (λn=>yzk n true b a) false:=by rw[zio,Ev.zz2 rfl,Ev.yz0]
 rw[zxy,yyk,ys1,ys1,beqB,ys1];refine yu3 g λ_=>yu3 g λ_=>yu3 g λ_ =>?_
 rw[Ev.kz0 (yd0 (by omega))];refine yu3 g λ_ =>?_
 by_cases i:a.items.length=b.items.length
 case neg=>simp only[lenF i,neqB i,Bool.false_and];exact g
 rw[lenT i,zio,Ev.kz1 (by rfl)];rw[<-ifB (eqB a.items b.items)];refine y7h (L:=λn k=>z0c n k b a) i (by rw[zik,Ev.kz1 (by simp),Ev.yz0]) λk h d v m =>?_
 have l:=Qad h;have:=y8b l;have:=@ydd a.items[k]
 have j:∀c,Ev (λn=>zzu n (k:Int) (!c) b a) (if c=true then v else false):=λc=>by
  cases c
  ·rw[zim,Ev.zz2 (by rfl),Ev.yz0];rfl
  ·rw[zim,Ev.kz1 (by rfl),wrk (by omega)];exact m
 rw[zik,Ev.zz2 (by simpa using h),Ev.yz2 (zz6 h),Ev.yz2 (zz6 d),z03t,ys1];cases s:eqB a.items[k].kind b.items[k].kind
 ·exact j false
 rw[Ev.kz1 (by rfl),Ev.yz2 (zz6 h),Ev.yz2 (zz6 d),beqB];cases q:eqB a.items[k].name b.items[k].name
 ·exact j false
 rw[Ev.kz1 (by rfl),Ev.yz2 (zz6 h),Ev.yz2 (zz6 d),Ev.kz0 (yd0 (by omega))];exact j _
def yq5{a b:zz4}(m:a.sz<=4000000):Ev (λn=>z7a n a b) (eqB a b):=by
 have:=@ykh a;have:=@zw4 a;have g:Ev (λn=>z03 n true b a) false:=by rw[zkk,Ev.zz2 rfl,Ev.yz0]
 rw[y2s,z042,ys1,yz1.yz3,yz1.yz3,zz4.yz3,zz4.yz3,ys1];refine yu3 g λ_ =>?_
 rw[Ev.kz0 (y3a _ _ (by omega))];refine yu3 g λ_ =>?_
 by_cases d:a.do_.length=b.do_.length
 case neg=>simp only[lenF d,neqB d,Bool.false_and];exact g
 rw[lenT d,zkk,Ev.kz1 (by rfl),zz4.yz3,zz4.yz3];rw[<-ifB (eqB a.do_ b.do_)];refine y7h (L:=λn k=>z1c n k b a) d (by rw[zku,Ev.kz1 (by simp),Ev.yz0]) λk h i v l =>?_
 have j:=Qad h;have:=zx5 j;rw[zku,Ev.zz2 (by simpa using h),Ev.yz2 (zz6 h),Ev.yz2 (zz6 i),Ev.kz0 (yip (by omega))];cases o:eqB a.do_[k] b.do_[k]
 ·rw[Ev.zz2 (by rfl),Ev.yz0];rfl
 ·rw[Ev.kz1 (by rfl),wrk (by omega),zz4.yz3,zz4.yz3];exact l
def ypo{a b:zz3}(o:a.sz<=4000000):Ev (λn=>z6y n a b) (eqB a b):=by
 have:=@zym a;have:=@zwb a;have j:Ev (λn=>z04 n true b a) false:=by rw[zkr,Ev.zz2 rfl,Ev.yz0]
 rw[y3m,z04u,beqB,ys1,ys1];refine yu3 j λ_ =>?_
 by_cases i:a.params.length=b.params.length
 case neg=>simp only[lenF i,neqB i,Bool.false_and];exact j
 rw[lenT i,Ev.kz1 (by rfl)];by_cases h:a.cases.length=b.cases.length
 case neg=>rw[lenF h,neqB h,Bool.and_false];exact j
 rw[lenT h,zkr,Ev.kz1 (by rfl)]
 have e:(eqB a.params b.params&&eqB a.cases b.cases)=if eqB a.params b.params=true then eqB a.cases b.cases else false:=by cases eqB a.params b.params <;> rfl
 rw[e];refine y7h (L:=λn k=>z1b n k b a) i ?_ λk g d v l =>?_
 ·rw[zkm,Ev.kz1 (by simp),<-ifB (eqB a.cases b.cases)];refine y7h (L:=λn k=>z1a n k b a) h (by rw[zkp,Ev.kz1 (by simp),Ev.yz0]) λk g d v l =>?_
  have:=zsk (Qad g);rw[zkp,Ev.zz2 (by simpa using g),Ev.yz2 (zz6 g),Ev.yz2 (zz6 d),zz4.yz3,zz4.yz3,Ev.kz0 (yq5 (by omega))];cases m:eqB a.cases[k] b.cases[k]
  ·rw[Ev.zz2 (by rfl),Ev.yz0];rfl
  ·rw[Ev.kz1 (by rfl),wrk (by omega)];exact l
 ·rw[zkm,Ev.zz2 (by simpa using g),Ev.yz2 (zz6 g),Ev.yz2 (zz6 d),beqB];cases m:eqB a.params[k] b.params[k]
  ·rw[Ev.zz2 (by rfl),Ev.yz0];rfl
  ·rw[Ev.kz1 (by rfl),wrk (by omega)];exact l
def ysc{c:zz4}(E:c.sz<=4000000):∃b,Ev (λn=>z7q n c) b:=by
 have:=@ykh c;have:=@zw4 c;have list:∀l:kz5,Ev (λn=>z0g n l) (zcd l):=λl=>by rw[zli,Ev.yz0];rfl
 have y:∃b,Ev (λn=>z06 n 0 c) b:=by
  refine zud (L:=λn k=>z06 n k c) (len:=c.do_.length) ⟨false,by rw[zko,Ev.kz1 (by simp),Ev.yz0]⟩ λk h v B =>?_
  have C:=Qad h;have D:=zx5 C;have:=@ybv c.do_[k];have:=@y1n c.do_[k]
  have u:∃b,Ev (λn=>z05 n 0 (k:Int) c) b:=by
   refine zud (L:=λn j=>z05 n j (k:Int) c) (len:=c.do_[k].items.length) ⟨v,by rw[zkj,Ev.yz2 (zz6 h),Ev.kz1 (by simp),wrk (by omega),zz4.yz3];exact B⟩ λj m w A =>?_
   have:=y8b (Qad m);have:=@ydd c.do_[k].items[j]
   have s:∀b,∃d,Ev (λn=>z1i n (k:Int) (j:Int) b c) d:=λb=>by
    cases b
    ·exact⟨w,by rw[zks,Ev.kz1 (by rfl),wrk (by omega),zz4.yz3];exact A⟩
    ·exact⟨true,by rw[zks,Ev.zz2 (by rfl),Ev.yz0]⟩
   have⟨g,i⟩:=zp6 (e:=zcd c.do_[k].items[j].args) (by rw[zii];omega);simp only[zkj,Ev.yz2 (zz6 h)];simp only[Ev.zz2 (show decide ((j:Int)<(c.do_[k].items.length:Int))=true by simpa using m),Ev.yz2 (zz6 h),Ev.yz2 (zz6 m),Ev.kz0 (list _),yz1.yz3,zz4.yz3,Ev.kz0 i,Ev.pif];split <;> exact s _
  have q:∀b,∃d,Ev (λn=>z07 n (k:Int) b c) d:=λb=>by
   cases b
   ·have⟨d,o⟩:=u;exact⟨d,by rw[zkt,Ev.kz1 (by rfl),zz4.yz3];exact o⟩
   ·exact⟨true,by rw[zkt,Ev.zz2 (by rfl),Ev.yz0]⟩
  have⟨g,i⟩:=zp6 (e:=zcd c.do_[k].args) (by rw[zii];omega);simp only[zko,Ev.zz2 (show decide ((k:Int)<(c.do_.length:Int))=true by simpa using h),Ev.yz2 (zz6 h),Ev.kz0 (list _),yz1.yz3,zz4.yz3,Ev.kz0 i,Ev.pif];split
  ·exact q _
  ·split <;> exact q _
 have z:∀b,∃d,Ev (λn=>z1e n b c) d:=λb=>by
  cases b
  ·have⟨d,o⟩:=y;exact⟨d,by rw[zkl,Ev.kz1 (by rfl),zz4.yz3];exact o⟩
  ·exact⟨true,by rw[zkl,Ev.zz2 (by rfl),Ev.yz0]⟩
 have⟨g,i⟩:=zp6 (e:=c.when_) (by omega);simp only[y2t,Ev.pif,zz4.yz3,yz1.yz3,Ev.kz0 i];split <;> exact z _
def great{p:zz0}(E:p.sz<=4000000):∃b,Ev (λn=>zcz n p) b:=by
 have:=@ztk p;have:=@zmt p
 have z:∃b,Ev (λn=>z2u n 0 p) b:=by
  refine zud (L:=λn k=>z2u n k p) (len:=p.rules.length) ⟨false,by rw[zqe,Ev.kz1 (by simp),Ev.yz0]⟩ λk h v o =>?_
  have D:=zsu (Qad h);have:=@zym p.rules[k];have:=@zwb p.rules[k]
  have u:∃b,Ev (λn=>z36 n 0 (k:Int) p.rules[k] p) b:=by
   refine zud (L:=λn j=>z36 n j (k:Int) p.rules[k] p) (len:=p.rules[k].cases.length) ⟨v,by rw[zp4,Ev.kz1 (by simp),wrk (by omega)];exact o⟩ λj l w m =>?_
   have⟨g,q⟩:=ysc (c:=p.rules[k].cases[j]) (by have:=zsk (Qad l);omega);simp only[zp4 (a:=(j:Int)),Ev.zz2 (show decide ((j:Int)<(p.rules[k].cases.length:Int))=true by simpa using l),Ev.yz2 (zz6 l),zz4.yz3,Ev.kz0 q];simp only[Ev.pif];split
   ·exact⟨true,Ev.pure rfl⟩
   ·exact⟨w,by rw[wrk (by omega)];exact m⟩
  have y:∃b,Ev (λn=>z2z n 0 (k:Int) p.rules[k] p) b:=by
   have⟨d,i⟩:=u;refine zud (L:=λn j=>z2z n j (k:Int) p.rules[k] p) (len:=p.rules[k].params.length) ⟨d,by rw[zqu,Ev.kz1 (by simp)];exact i⟩ λj l w m =>?_
   simp only[zqu (a:=(j:Int)),Ev.zz2 (show decide ((j:Int)<(p.rules[k].params.length:Int))=true by simpa using l),Ev.yz2 (zz6 l),Ev.pif];split
   ·exact⟨true,Ev.pure rfl⟩
   ·exact⟨w,by rw[wrk (by omega)];exact m⟩
  have s:∀b,∃d,Ev (λn=>z2x n (k:Int) b p.rules[k] p) d:=λb=>by
   cases b
   ·have⟨d,i⟩:=y;exact⟨d,by rw[zqg,Ev.kz1 (by rfl)];exact i⟩
   ·exact⟨true,by rw[zqg,Ev.zz2 (by rfl),Ev.yz0]⟩
  simp only[zqe,Ev.zz2 (show decide ((k:Int)<(p.rules.length:Int))=true by simpa using h),Ev.yz2 (zz6 h),Ev.pif];split
  ·exact s _
  ·split <;> exact s _
 have B:∃b,Ev (λn=>z35 n 0 p) b:=by
  have⟨d,i⟩:=z;refine zud (L:=λn k=>z35 n k p) (len:=p.attrs.length) ⟨d,by rw[zpv,Ev.kz1 (by simp)];exact i⟩ λk h v o =>?_
  have:=ydj (Qad h);have:=@yfm p.attrs[k]
  have A:∀b,∃d,Ev (λn=>z60 n (k:Int) b p) d:=λb=>by
   cases b
   ·exact⟨v,by rw[zr2,Ev.kz1 (by rfl),wrk (by omega)];exact o⟩
   ·exact⟨true,by rw[zr2,Ev.zz2 (by rfl),Ev.yz0]⟩
  have⟨g,q⟩:=zp6 (e:=p.attrs[k].value) (by omega);simp only[zpv,Ev.zz2 (show decide ((k:Int)<(p.attrs.length:Int))=true by simpa using h),Ev.yz2 (zz6 h),yz1.yz3,Ev.kz0 q,Ev.pif];split <;> exact A _
 have C:∀b,∃d,Ev (λn=>z5y n b p) d:=λb=>by
  cases b
  ·have⟨d,i⟩:=B;exact⟨d,by rw[zpe,Ev.kz1 (by rfl)];exact i⟩
  ·exact⟨true,by rw[zpe,Ev.zz2 (by rfl),Ev.yz0]⟩
 simp only[yd4,Ev.pif];split <;> exact C _
def zrd(c:zz4):Bool:=decide (10<c.do_.length)||c.do_.any λa=>decide (10<a.items.length)
def zsa(r:zz3):Bool:=decide (4<r.params.length)||(decide (6<r.cases.length)||r.cases.any zrd)
def zts(p:zz0):Bool:=decide (20<p.attrs.length)||(decide (40<p.rules.length)||p.rules.any zsa)
def gt4{k:Nat}:decide ((k:Int)>4)=decide (4<k):=decide_eq_decide.2 (by omega)
def gt6{k:Nat}:decide ((k:Int)>6)=decide (6<k):=decide_eq_decide.2 (by omega)
def gt10{k:Nat}:decide ((k:Int)>10)=decide (10<k):=decide_eq_decide.2 (by omega)
def gt20{k:Nat}:decide ((k:Int)>20)=decide (20<k):=decide_eq_decide.2 (by omega)
def gt40{k:Nat}:decide ((k:Int)>40)=decide (40<k):=decide_eq_decide.2 (by omega)
def orB{c d:Bool}{γ:Type}{x y:γ}:(if (c||d)=true then x else y)=if c=true then x else if d=true then x else y:=by cases c <;> rfl
def yub{p:zz0}(F:p.sz<=4000000):Ev (λn=>zeg n p) (zts p):=by
 have:=@ztk p;have:=@zmt p
 have y:Ev (λn=>z4l n 0 p.rules (p.rules.length:Int)) (if p.rules.any zsa=true then true else false):=by
  refine zr3 (L:=λn k=>z4l n k p.rules (p.rules.length:Int)) (by rw[zti,Ev.kz1 (by simp),Ev.yz0]) λk d v A =>?_
  have:=zsu (Qad d);have:=@zym p.rules[k];have:=@zwb p.rules[k]
  have u:Ev (λn=>z4b n 0 p.rules[k].cases p.rules (p.rules.length:Int) (k:Int) (p.rules[k].cases.length:Int)) (if p.rules[k].cases.any zrd=true then true else v):=by
   refine zr3 (L:=λn j=>z4b n j p.rules[k].cases p.rules (p.rules.length:Int) (k:Int) (p.rules[k].cases.length:Int)) (by rw[zuf,Ev.kz1 (by simp),wrk (by omega)];exact A) λj g w z =>?_
   have:=zsk (Qad g);have:=@zw4 p.rules[k].cases[j]
   have o:∀b,Ev (λn=>z82 n p.rules[k].cases p.rules (p.rules.length:Int) (k:Int) (p.rules[k].cases.length:Int) (j:Int) b) (if b=true then true else w):=λb=>by
    cases b
    ·rw[zt4,Ev.kz1 (by rfl),wrk (by omega)];exact z
    ·rw[zt4,Ev.zz2 (by rfl),Ev.yz0];rfl
   have⟨i,D,C⟩:=y69 (S:=λn x=>zbc n x) (l:=p.rules[k].cases[j].do_) (p:=λa=>decide (10<a.items.length)) (L:=λn k l m=>yzb n k l m) (λn k=>yzb.eq_2 _ _ _ n) (by omega) λx E=>by
    rw[yah,Ev.yz0];exact gt10
   have B:Ev (λn=>kzb n p.rules[k].cases[j].do_) (p.rules[k].cases[j].do_.any λa=>decide (10<a.items.length)):=by
    rw[zd0,Ev.kz0 (by rw[ze8];exact D),Ev.yz0,C]
   rw[zuf,Ev.zz2 (by simpa using g),Ev.yz2 (zz6 g),zrd,orB,Ev.pif,gt10];split
   ·exact o true
   ·rw[Ev.kz0 B];exact o _
  have q:∀b,Ev (λn=>z7h n p.rules (p.rules.length:Int) (k:Int) b p.rules[k]) (if b=true then true else if p.rules[k].cases.any zrd=true then true else v):=λb=>by
   cases b
   ·rw[zt9,Ev.kz1 (by rfl)];exact u
   ·rw[zt9,Ev.zz2 (by rfl),Ev.yz0];rfl
  rw[zti,Ev.zz2 (by simpa using d),Ev.yz2 (zz6 d),zsa,orB,orB,Ev.pif,gt4,gt6];split
  ·exact q true
  ·exact q _
 have s:∀b,Ev (λn=>z6q n b p) (b||p.rules.any zsa):=λb=>by
  cases b
  ·rw[ztw,Ev.kz1 (by rfl),ifB]at *;exact y
  ·rw[ztw,Ev.zz2 (by rfl),Ev.yz0];rfl
 rw[yjk,Ev.pif,gt20,gt40,zts];split
 ·rename_i h;rw[h];exact s true
 ·rename_i h;simp only[h,Bool.false_or];exact s _
def yu6{p:zz0}(C:p.sz<=4000000):Ev (λn=>zei n p) (zts p):=by
 have:=@ztk p;have:=@zmt p
 have y:Ev (λn=>z4j n 0 p) (if p.rules.any zsa=true then true else false):=by
  refine zr3 (L:=λn k=>z4j n k p) (by rw[zuq,Ev.kz1 (by simp),Ev.yz0]) λk g v A =>?_
  have:=zsu (Qad g);have:=@zym p.rules[k];have:=@zwb p.rules[k]
  have s:Ev (λn=>z4c n 0 (k:Int) p.rules[k] p) (if p.rules[k].cases.any zrd=true then true else v):=by
   refine zr3 (L:=λn j=>z4c n j (k:Int) p.rules[k] p) (by rw[zuj,Ev.kz1 (by simp),wrk (by omega)];exact A) λj d w z =>?_
   have:=zsk (Qad d);have:=@zw4 p.rules[k].cases[j]
   have q:Ev (λn=>z4e n 0 (j:Int) (k:Int) p.rules[k] p) (if (p.rules[k].cases[j].do_.any λa=>decide (10<a.items.length))=true then true else w):=by
    refine zr3 (L:=λn i=>z4e n i (j:Int) (k:Int) p.rules[k] p) (by rw[zup,Ev.yz2 (zz6 d),Ev.kz1 (by simp),wrk (by omega)];exact z) λi o u B =>?_
    rw[zup,Ev.yz2 (zz6 d),Ev.zz2 (by simpa using o),Ev.yz2 (zz6 d),Ev.yz2 (zz6 o),Ev.pif,gt10,wrk (by omega),Ev.yz0];split
    ·rfl
    ·exact B
   rw[zuj,Ev.zz2 (by simpa using d),Ev.yz2 (zz6 d),zrd,orB,Ev.pif,gt10];split
   ·exact Ev.pure rfl
   ·exact q
  have l:∀b,Ev (λn=>z73 n (k:Int) b p.rules[k] p) (if b=true then true else if p.rules[k].cases.any zrd=true then true else v):=λb=>by
   cases b
   ·rw[ztq,Ev.kz1 (by rfl)];exact s
   ·rw[ztq,Ev.zz2 (by rfl),Ev.yz0];rfl
  rw[zuq,Ev.zz2 (by simpa using g),Ev.yz2 (zz6 g),zsa,orB,orB,Ev.pif,gt4,gt6];split
  ·exact l true
  ·exact l _
 have m:∀b,Ev (λn=>z7l n b p) (b||p.rules.any zsa):=λb=>by
  cases b
  ·rw[zul,Ev.kz1 (by rfl),ifB]at *;exact y
  ·rw[zul,Ev.zz2 (by rfl),Ev.yz0];rfl
 rw[ygy,Ev.pif,gt20,gt40,zts];split
 ·rename_i h;rw[h];exact m true
 ·rename_i h;simp only[h,Bool.false_or];exact m _
end Go.Proofs.YthlmhmebajjkbaaGreatDoor
