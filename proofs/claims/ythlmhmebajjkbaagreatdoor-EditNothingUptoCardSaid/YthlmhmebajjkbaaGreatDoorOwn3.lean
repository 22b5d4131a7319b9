/-
  What each function comes to, by its body, by a program of this repo.
-/
import Derived.Test.YthlmhmebajjkbaaGreatDoorLib8
import Derived.Test.YthlmhmebajjkbaaGreatDoorOwn2
import Derived.Lib.Bytealg
import Derived.Test.YthlmhmebajjkbaaGreatDoorLib9
set_option linter.defProp false
set_option linter.unusedSimpArgs false
set_option linter.unusedVariables false
namespace Go.Proofs.YthlmhmebajjkbaaGreatDoor
open Go Go.Ab
noncomputable section
def yjk{r}(a):=evS (z2e · a) r (z2e.eq_2 a)
def ztf{r}(a b):=evS (zag · a b) r (zag.eq_2 a b)
def zub{r}(a b):=evS (z1b · a b) r (z1b.eq_2 a b)
def ztw{r}(a b c d e):=evS (z7x · a b c d e) r (z7x.eq_2 a b c d e)
def zu9{r}(a b c):=evS (z0g · a b c) r (z0g.eq_2 a b c)
def y9r{r}(a):=evS (zba · a) r (zba.eq_2 a)
def ze6{r}(a):=evS (kzo · a) r (kzo.eq_2 a)
def zcp{r}(a):=evS (kze · a) r (kze.eq_2 a)
def yha{r}(a):=evS (zei · a) r (zei.eq_2 a)
def ztq{r}(a b):=evS (z7q · a b) r (z7q.eq_2 a b)
def zum{r}(a b c):=evS (z4n · a b c) r (z4n.eq_2 a b c)
def zt8{r}(a b c d e):=evS (z7v · a b c d e) r (z7v.eq_2 a b c d e)
def zt1{r}(a b c d e f):=evS (z4t · a b c d e f) r (z4t.eq_2 a b c d e f)
def ztp{r}(a b c d e f g):=evS (z79 · a b c d e f g) r (z79.eq_2 a b c d e f g)
def zdj{r}(a b):=evS (yzs · a b) r (yzs.eq_2 a b)
def zkn{r}(a b):=evS (zzt · a b) r (zzt.eq_2 a b)
def ycj{r}(a):=evS (z3k · a) r (z3k.eq_2 a)
def yb2{r}(a):=evS (z9c · a) r (z9c.eq_2 a)
def zpu{r}(a b c d e):=evS (z44 · a b c d e) r (z44.eq_2 a b c d e)
def y1j{r}(a):=evS (zee · a) r (zee.eq_2 a)
def ztx{r}(a b c):=evS (z00 · a b c) r (z00.eq_2 a b c)
def ztr{r}(a b c):=evS (z7z · a b c) r (z7z.eq_2 a b c)
def zt5{r}(a b c):=evS (z6v · a b c) r (z6v.eq_2 a b c)
def zur{r}(a b c):=evS (zai · a b c) r (zai.eq_2 a b c)
def zup{r}:=evS (zab ·) r (zab.eq_2)
def zuj{r}(a):=evS (z17 · a) r (z17.eq_2 a)
def y6o{r}(a):=evS (z7i · a) r (z7i.eq_2 a)
def zn1{r}(a b c d e):=evS (z30 · a b c d e) r (z30.eq_2 a b c d e)
def y18{r}(a b):=evS (z2y · a b) r (z2y.eq_2 a b)
def yhh{r}(a):=evS (zch · a) r (zch.eq_2 a)
def ymf{r}(a b):=evS (zgk · a b) r (zgk.eq_2 a b)
def ya8{r}(a b):=evS (z9n · a b) r (z9n.eq_2 a b)
def ye8{r}(a):=evS (zcs · a) r (zcs.eq_2 a)
def y66{r}(a):=evS (z1k · a) r (z1k.eq_2 a)
def yjc{r}(a):=evS (zc4 · a) r (zc4.eq_2 a)
def ztn{r}(a b c):=evS (z7k · a b c) r (z7k.eq_2 a b c)
def zud{r}(a b c d):=evS (z7e · a b c d) r (z7e.eq_2 a b c d)
def zuo{r}(a b c d):=evS (z7n · a b c d) r (z7n.eq_2 a b c d)
def y7s{r}(a):=evS (z2m · a) r (z2m.eq_2 a)
def yf6{r}(a):=evS (zd2 · a) r (zd2.eq_2 a)
def y6c{r}(a b):=evS (z5p · a b) r (z5p.eq_2 a b)
def yj9{r}(a):=evS (zeh · a) r (zeh.eq_2 a)
def yk5{r}(a b):=evS (z3l · a b) r (z3l.eq_2 a b)
def zuz{r}(a b c):=evS (z16 · a b c) r (z16.eq_2 a b c)
def zug{r}(a b c d):=evS (z7c · a b c d) r (z7c.eq_2 a b c d)
def ynz{r}(a):=evS (zdt · a) r (zdt.eq_2 a)
def y9s{r}(a b):=evS (z6f · a b) r (z6f.eq_2 a b)
def yba{r}(a b):=evS (z6g · a b) r (z6g.eq_2 a b)
def ya9{r}(a b):=evS (z9l · a b) r (z9l.eq_2 a b)
def yah{r}(a b):=evS (z9o · a b) r (z9o.eq_2 a b)
def yak{r}(a):=evS (z6h · a) r (z6h.eq_2 a)
def zdg{r}(a):=evS (zzf · a) r (zzf.eq_2 a)
def zeq{r}(a):=evS (zzj · a) r (zzj.eq_2 a)
def z0k{r}(a b c):=evS (kza · a b c) r (kza.eq_2 a b c)
def ygr{r}(a):=evS (zd5 · a) r (zd5.eq_2 a)
def yie{r}(a):=evS (z3o · a) r (z3o.eq_2 a)
def y8h{r}(a b):=evS (z6z · a b) r (z6z.eq_2 a b)
def y67{r}(a):=evS (z8x · a) r (z8x.eq_2 a)
def zhy{r}(a):=evS (zzv · a) r (zzv.eq_2 a)
def zfm{r}(a):=evS (kzl · a) r (kzl.eq_2 a)
def yjs{r}(a):=evS (za8 · a) r (za8.eq_2 a)
def yok{r}(a):=evS (zbl · a) r (zbl.eq_2 a)
def y9z{r}(a b):=evS (z9j · a b) r (z9j.eq_2 a b)
def y9q{r}(a):=evS (z95 · a) r (z95.eq_2 a)
def y0o{r}(a):=evS (z6d · a) r (z6d.eq_2 a)
def zvi{r}(a b):=evS (z0v · a b) r (z0v.eq_2 a b)
def zw7{r}(a b c d):=evS (z0u · a b c d) r (z0u.eq_2 a b c d)
def zv3{r}(a b c):=evS (z0p · a b c) r (z0p.eq_2 a b c)
def zjz{r}(a b c):=evS (z06 · a b c) r (z06.eq_2 a b c)
def zkh{r}(a b c):=evS (z03 · a b c) r (z03.eq_2 a b c)
def zkc{r}(a b):=evS (zzw · a b) r (zzw.eq_2 a b)
def zk7{r}(a b c):=evS (z04 · a b c) r (z04.eq_2 a b c)
def zks{r}(a b c d):=evS (kzr · a b c d) r (kzr.eq_2 a b c d)
def yb3{r}(a):=evS (zb9 · a) r (zb9.eq_2 a)
def zpk{r}(a b c d):=evS (z1y · a b c d) r (z1y.eq_2 a b c d)
def zpq{r}(a b c d e):=evS (z48 · a b c d e) r (z48.eq_2 a b c d e)
def zpf{r}(a b c):=evS (z1q · a b c) r (z1q.eq_2 a b c)
def zoz{r}(a b c d e):=evS (z3t · a b c d e) r (z3t.eq_2 a b c d e)
def zpj{r}(a b c d e f):=evS (z1v · a b c d e f) r (z1v.eq_2 a b c d e f)
def zp9{r}(a b c d e f g h):=evS (z2b · a b c d e f g h) r (z2b.eq_2 a b c d e f g h)
def zof{r}(a b c d e f g h i):=evS (z1s · a b c d e f g h i) r (z1s.eq_2 a b c d e f g h i)
def zk9{r}(a b):=evS (yzt · a b) r (yzt.eq_2 a b)
def z3i{r}(a b c d):=evS (kzk · a b c d) r (kzk.eq_2 a b c d)
def zia{r}(a b):=evS (kzp · a b) r (kzp.eq_2 a b)
def yit{r}(a b):=evS (zc3 · a b) r (zc3.eq_2 a b)
def zua{r}(a b c):=evS (zae · a b c) r (zae.eq_2 a b c)
def y78{r}(a b):=evS (z7h · a b) r (z7h.eq_2 a b)
def zte{r}(a b c d):=evS (z7u · a b c d) r (z7u.eq_2 a b c d)
def yjy{r}(a):=evS (zc0 · a) r (zc0.eq_2 a)
def yb1{r}(a b c):=evS (zbb · a b c) r (zbb.eq_2 a b c)
def zhi{r}(a b c):=evS (kzu · a b c) r (kzu.eq_2 a b c)
def z1n{r}(a b c d e):=evS (zze · a b c d e) r (zze.eq_2 a b c d e)
def zfl{r}(a b c):=evS (yzl · a b c) r (yzl.eq_2 a b c)
def yj4{r}(a b c):=evS (zc1 · a b c) r (zc1.eq_2 a b c)
def yfk{r}(a):=evS (zcy · a) r (zcy.eq_2 a)
def zq9{r}(a b c d):=evS (z5n · a b c d) r (z5n.eq_2 a b c d)
def zr5{r}(a b c d e f g):=evS (z67 · a b c d e f g) r (z67.eq_2 a b c d e f g)
def zqv{r}(a b c d e f g h i j):=evS (z5o · a b c d e f g h i j) r (z5o.eq_2 a b c d e f g h i j)
def y6y{r}(a b c):=evS (zah · a b c) r (zah.eq_2 a b c)
def zgp{r}(a b c):=evS (zzu · a b c) r (zzu.eq_2 a b c)
def z1e{r}(a b c d e):=evS (kzc · a b c d e) r (kzc.eq_2 a b c d e)
def zex{r}(a b c):=evS (kzi · a b c) r (kzi.eq_2 a b c)
def yd5{r}(a):=evS (zau · a) r (zau.eq_2 a)
def zrr{r}(a b c d):=evS (z6a · a b c d) r (z6a.eq_2 a b c d)
def zqm{r}(a b c d e f g):=evS (z34 · a b c d e f g) r (z34.eq_2 a b c d e f g)
def y62{r}(a b c d e f g h):=evS (z58 · a b c d e f g h) r (z58.eq_2 a b c d e f g h)
def zrh{r}(a b c d e f g h i j):=evS (z5s · a b c d e f g h i j) r (z5s.eq_2 a b c d e f g h i j)
def yc5{r}(a):=evS (z3h · a) r (z3h.eq_2 a)
def zri{r}(a b c d e f g h i):=evS (z5z · a b c d e f g h i) r (z5z.eq_2 a b c d e f g h i)
def y50{r}(a b c d e f g h i j):=evS (z65 · a b c d e f g h i j) r (z65.eq_2 a b c d e f g h i j)
def zrg{r}(a b c d e f g h i):=evS (z5m · a b c d e f g h i) r (z5m.eq_2 a b c d e f g h i)
def zq0{r}(a b c d e f g h i j k l m):=evS (z57 · a b c d e f g h i j k l m) r (z57.eq_2 a b c d e f g h i j k l m)
def zqc{r}(a b c d e f g h i j k l m o):=evS (z5e · a b c d e f g h i j k l m o) r (z5e.eq_2 a b c d e f g h i j k l m o)
def zqd{r}(a b c d e f g h i j):=evS (z36 · a b c d e f g h i j) r (z36.eq_2 a b c d e f g h i j)
def zrw{r}(a b c d e f g h i j k l m o p):=evS (z68 · a b c d e f g h i j k l m o p) r (z68.eq_2 a b c d e f g h i j k l m o p)
def zqz{r}(a b c d e f g h i j k l m o p q):=evS (z39 · a b c d e f g h i j k l m o p q) r (z39.eq_2 a b c d e f g h i j k l m o p q)
def y61{r}(a b c d e f g h i j k):=evS (z5y · a b c d e f g h i j k) r (z5y.eq_2 a b c d e f g h i j k)
def zr7{r}(a b c d e f g h i j k l m):=evS (z66 · a b c d e f g h i j k l m) r (z66.eq_2 a b c d e f g h i j k l m)
def y42{r}(a b c d e f g h i j k l m o p q):=evS (z3v · a b c d e f g h i j k l m o p q) r (z3v.eq_2 a b c d e f g h i j k l m o p q)
def y4c{r}(a b c d e f g h i j k l m):=evS (z1r · a b c d e f g h i j k l m) r (z1r.eq_2 a b c d e f g h i j k l m)
def ypc{r}(a b):=evS (z2s · a b) r (z2s.eq_2 a b)
def yfq{r}(a b):=evS (zco · a b) r (zco.eq_2 a b)
def zgj{r}(a b):=evS (yzn · a b) r (yzn.eq_2 a b)
def z1f{r}(a b c d):=evS (zzd · a b c d) r (zzd.eq_2 a b c d)
def ym3{r}(a b):=evS (za1 · a b) r (za1.eq_2 a b)
def yox{r}(a b):=evS (zbs · a b) r (zbs.eq_2 a b)
def ybf{r}(a):=evS (z9f · a) r (z9f.eq_2 a)
def zok{r}(a b c d e):=evS (z4e · a b c d e) r (z4e.eq_2 a b c d e)
def zj3{r}(a):=evS (yzq · a) r (yzq.eq_2 a)
def z2n{r}(a b c d e):=evS (kzn · a b c d e) r (kzn.eq_2 a b c d e)
def z90{r}(a b c d e):=evS (kzt · a b c d e) r (kzt.eq_2 a b c d e)
def z2q{r}(a b c d):=evS (zzg · a b c d) r (zzg.eq_2 a b c d)
def ydk{r}(a b c):=evS (zdc · a b c) r (zdc.eq_2 a b c)
def zho{r}(a b c):=evS (yzv · a b c) r (yzv.eq_2 a b c)
def z1o{r}(a b c d e):=evS (kzd · a b c d e) r (kzd.eq_2 a b c d e)
def zfr{r}(a b c):=evS (zzl · a b c) r (zzl.eq_2 a b c)
def yoj{r}(a b c):=evS (zbp · a b c) r (zbp.eq_2 a b c)
def yh7{r}(a b):=evS (zcg · a b) r (zcg.eq_2 a b)
def ztj{r}(a b c d e f g h):=evS (z7m · a b c d e f g h) r (z7m.eq_2 a b c d e f g h)
def zld{r}(a b c d e f g h i j k l):=evS (z2l · a b c d e f g h i j k l) r (z2l.eq_2 a b c d e f g h i j k l)
def ztg{r}(a b c d e f g h i j k l m o):=evS (z2r · a b c d e f g h i j k l m o) r (z2r.eq_2 a b c d e f g h i j k l m o)
def y7t{r}(a b c d e f g h i j k l):=evS (z7s · a b c d e f g h i j k l) r (z7s.eq_2 a b c d e f g h i j k l)
def zj6{r}(a):=evS (yzr · a) r (yzr.eq_2 a)
def z2p{r}(a b c d e):=evS (zzo · a b c d e) r (zzo.eq_2 a b c d e)
def z8w{r}(a b c d e):=evS (kzs · a b c d e) r (kzs.eq_2 a b c d e)
def z2o{r}(a b c d):=evS (yzg · a b c d) r (yzg.eq_2 a b c d)
def yb6{r}(a b):=evS (z99 · a b) r (z99.eq_2 a b)
def y59{r}(a b):=evS (z60 · a b) r (z60.eq_2 a b)
def y3y{r}(a b):=evS (z3z · a b) r (z3z.eq_2 a b)
def zxo{r}(a b):=evS (z1u · a b) r (z1u.eq_2 a b)
def y46{r}(a b):=evS (z4c · a b) r (z4c.eq_2 a b)
def yab{r}(a b):=evS (z98 · a b) r (z98.eq_2 a b)
def yip{r}(a b):=evS (zc7 · a b) r (zc7.eq_2 a b)
def y6g{r}(a b c):=evS (z8v · a b c) r (z8v.eq_2 a b c)
def zey{r}(a b c):=evS (zzq · a b c) r (zzq.eq_2 a b c)
def z0n{r}(a b c d e):=evS (yzb · a b c d e) r (yzb.eq_2 a b c d e)
def zdh{r}(a b c):=evS (yzf · a b c) r (yzf.eq_2 a b c)
def yac{r}(a b c):=evS (zbe · a b c) r (zbe.eq_2 a b c)
def zpg{r}(a b c d e):=evS (z3w · a b c d e) r (z3w.eq_2 a b c d e)
def zp5{r}(a b c d e f g h):=evS (z43 · a b c d e f g h) r (z43.eq_2 a b c d e f g h)
def zpr{r}(a b c d e f g h i j k l):=evS (z3x · a b c d e f g h i j k l) r (z3x.eq_2 a b c d e f g h i j k l)
def yau{r}(a b):=evS (z9m · a b) r (z9m.eq_2 a b)
def zpw{r}(a b c d e f g h i):=evS (z4a · a b c d e f g h i) r (z4a.eq_2 a b c d e f g h i)
def zoo{r}(a b c d e f g h i j k):=evS (z0t · a b c d e f g h i j k) r (z0t.eq_2 a b c d e f g h i j k)
def zo4{r}(a b c d e f g h i):=evS (z78 · a b c d e f g h i) r (z78.eq_2 a b c d e f g h i)
def yap{r}(a b):=evS (z3p · a b) r (z3p.eq_2 a b)
def yjq{r}(a b):=evS (zel · a b) r (zel.eq_2 a b)
def zeo{r}(a b):=evS (yzi · a b) r (yzi.eq_2 a b)
def z0m{r}(a b c d):=evS (zzb · a b c d) r (zzb.eq_2 a b c d)
def yqb{r}(a b):=evS (zfz · a b) r (zfz.eq_2 a b)
def ydf{r}(a b):=evS (zak · a b) r (zak.eq_2 a b)
def zkf{r}(a b c d e):=evS (z5c · a b c d e) r (z5c.eq_2 a b c d e)
def zk6{r}(a b c d e f g h):=evS (z5f · a b c d e f g h) r (z5f.eq_2 a b c d e f g h)
def zrc{r}(a b c d e f g h):=evS (z8y · a b c d e f g h) r (z8y.eq_2 a b c d e f g h)
def y43{r}(a b c):=evS (z7b · a b c) r (z7b.eq_2 a b c)
def zjm{r}(a b c):=evS (yzz · a b c) r (yzz.eq_2 a b c)
def z2x{r}(a b c d e):=evS (zzh · a b c d e) r (zzh.eq_2 a b c d e)
def zhw{r}(a b c):=evS (yzo · a b c) r (yzo.eq_2 a b c)
def y8b{r}(a b):=evS (z4m · a b) r (z4m.eq_2 a b)
def zmy{r}(a b c d e f g h):=evS (z1d · a b c d e f g h) r (z1d.eq_2 a b c d e f g h)
def zn5{r}(a b c d e f g h):=evS (z6e · a b c d e f g h) r (z6e.eq_2 a b c d e f g h)
def yje{r}(a b):=evS (z88 · a b) r (z88.eq_2 a b)
def zuu{r}(a b c):=evS (z6w · a b c) r (z6w.eq_2 a b c)
def yh5{r}(a b):=evS (z3g · a b) r (z3g.eq_2 a b)
def ztl{r}(a b c):=evS (z18 · a b c) r (z18.eq_2 a b c)
def zui{r}(a b c):=evS (z74 · a b c) r (z74.eq_2 a b c)
def y1i{r}(a):=evS (z2g · a) r (z2g.eq_2 a)
def yd8{r}(a b):=evS (zat · a b) r (zat.eq_2 a b)
def zrp{r}(a b c):=evS (z3d · a b c) r (z3d.eq_2 a b c)
def zr1{r}(a b c):=evS (z61 · a b c) r (z61.eq_2 a b c)
def ydw{r}(a):=evS (z8j · a) r (z8j.eq_2 a)
def zk8{r}(a b c):=evS (z5j · a b c) r (z5j.eq_2 a b c)
def zk3{r}(a b c d):=evS (z5v · a b c d) r (z5v.eq_2 a b c d)
def zww{r}(a):=evS (zd9 · a) r (zd9.eq_2 a)
def yfw{r}(a b):=evS (zas · a b) r (zas.eq_2 a b)
def zq4{r}(a b c):=evS (z1l · a b c) r (z1l.eq_2 a b c)
def zr9{r}(a b c):=evS (z5u · a b c) r (z5u.eq_2 a b c)
def yc8{r}(a):=evS (z8f · a) r (z8f.eq_2 a)
def zqt{r}(a b c):=evS (z5b · a b c) r (z5b.eq_2 a b c)
def zyz{r}(a):=evS (z63 · a) r (z63.eq_2 a)
def y3c{r}(a):=evS (z7r · a) r (z7r.eq_2 a)
def zkz{r}(a b):=evS (z1i · a b) r (z1i.eq_2 a b)
def zl5{r}(a b):=evS (z0b · a b) r (z0b.eq_2 a b)
def zl1{r}(a b c):=evS (z0d · a b c) r (z0d.eq_2 a b c)
def zl3{r}(a b c):=evS (z0c · a b c) r (z0c.eq_2 a b c)
def zl4{r}(a b c d):=evS (z1h · a b c d) r (z1h.eq_2 a b c d)
def yg0{r}(a):=evS (zct · a) r (zct.eq_2 a)
def zqf{r}(a b):=evS (z6c · a b) r (z6c.eq_2 a b)
def zql{r}(a b):=evS (z38 · a b) r (z38.eq_2 a b)
def zre{r}(a b c):=evS (z5t · a b c) r (z5t.eq_2 a b c)
def zrf{r}(a b):=evS (z3b · a b) r (z3b.eq_2 a b)
def zrd{r}(a b c d):=evS (z3e · a b c d) r (z3e.eq_2 a b c d)
def zq6{r}(a b c d):=evS (z3f · a b c d) r (z3f.eq_2 a b c d)
def zqi{r}(a b c d):=evS (z35 · a b c d) r (z35.eq_2 a b c d)
def yhz{r}(a):=evS (zed · a) r (zed.eq_2 a)
def zus{r}(a b):=evS (z7l · a b) r (z7l.eq_2 a b)
def zu2{r}(a b):=evS (z4o · a b) r (z4o.eq_2 a b)
def zuf{r}(a b c d):=evS (z7p · a b c d) r (z7p.eq_2 a b c d)
def zt9{r}(a b c d):=evS (z4j · a b c d) r (z4j.eq_2 a b c d)
def ztt{r}(a b c d e):=evS (z4p · a b c d e) r (z4p.eq_2 a b c d e)
def yal{r}(a):=evS (zbi · a) r (zbi.eq_2 a)
def ycr{r}(a):=evS (zd7 · a) r (zd7.eq_2 a)
def yjp{r}(a):=evS (zca · a) r (zca.eq_2 a)
def ztv{r}(a b):=evS (z0h · a b) r (z0h.eq_2 a b)
def zue{r}(a b c):=evS (z15 · a b c) r (z15.eq_2 a b c)
def yam{r}(a):=evS (zbc · a) r (zbc.eq_2 a)
def yhc{r}(a):=evS (z54 · a) r (z54.eq_2 a)
def yiz{r}(a):=evS (zc5 · a) r (zc5.eq_2 a)
def zuh{r}(a b c):=evS (z7f · a b c) r (z7f.eq_2 a b c)
def y27{r}(a):=evS (zej · a) r (zej.eq_2 a)
def zu8{r}(a b):=evS (zad · a b) r (zad.eq_2 a b)
def zsz{r}(a b):=evS (z01 · a b) r (z01.eq_2 a b)
def zti{r}(a b):=evS (z7a · a b) r (z7a.eq_2 a b)
def yjj{r}(a):=evS (zcf · a) r (zcf.eq_2 a)
def zlf{r}(a b c):=evS (z7o · a b c) r (z7o.eq_2 a b c)
def zlo{r}(a b c d):=evS (z7j · a b c d) r (z7j.eq_2 a b c d)
def ya0{r}(a b):=evS (zbd · a b) r (zbd.eq_2 a b)
def y37{r}(a b):=evS (z45 · a b) r (z45.eq_2 a b)
def ycv{r}(a):=evS (zda · a) r (zda.eq_2 a)
def y5a{r}(a):=evS (z0j · a) r (z0j.eq_2 a)
def yi9{r}(a):=evS (zc2 · a) r (zc2.eq_2 a)
def ztb{r}(a b):=evS (z1a · a b) r (z1a.eq_2 a b)
def zu6{r}(a b):=evS (z73 · a b) r (z73.eq_2 a b)
def zt2{r}(a b c):=evS (z7g · a b c) r (z7g.eq_2 a b c)
def zty{r}(a b):=evS (z2t · a b) r (z2t.eq_2 a b)
def zuc{r}(a b):=evS (z81 · a b) r (z81.eq_2 a b)
def yg8{r}(a):=evS (zdb · a) r (zdb.eq_2 a)
def y6f{r}(a b):=evS (z6b · a b) r (z6b.eq_2 a b)
def yea{r}(a):=evS (zd0 · a) r (zd0.eq_2 a)
def yhk{r}(a):=evS (zcb · a) r (zcb.eq_2 a)
def y7y{r}(a b):=evS (z4i · a b) r (z4i.eq_2 a b)
def y79{r}(a b):=evS (z0f · a b) r (z0f.eq_2 a b)
def y7m{r}(a b):=evS (z14 · a b) r (z14.eq_2 a b)
def zv0{r}(a b):=evS (z77 · a b) r (z77.eq_2 a b)
def yfr{r}(a):=evS (z2a · a) r (z2a.eq_2 a)
def y5i{r}(a b):=evS (z5l · a b) r (z5l.eq_2 a b)
def ymx{r}(a):=evS (zdx · a) r (zdx.eq_2 a)
def yae{r}(a b):=evS (z9k · a b) r (z9k.eq_2 a b)
def ya5{r}(a):=evS (z9b · a) r (z9b.eq_2 a)
def yaf{r}(a):=evS (zbh · a) r (zbh.eq_2 a)
def zpo{r}(a b):=evS (z0r · a b) r (z0r.eq_2 a b)
def y3r{r}(a b):=evS (z47 · a b) r (z47.eq_2 a b)
def y2v{r}(a):=evS (z3s · a) r (z3s.eq_2 a)
def ziy{r}(a b):=evS (z7t · a b) r (z7t.eq_2 a b)
def zox{r}(a b):=evS (kzx · a b) r (kzx.eq_2 a b)
def y49{r}(a):=evS (z42 · a) r (z42.eq_2 a)
def zpp{r}(a b):=evS (z2d · a b) r (z2d.eq_2 a b)
def zou{r}(a b c):=evS (z08 · a b c) r (z08.eq_2 a b c)
def ya2{r}(a):=evS (zbf · a) r (zbf.eq_2 a)
def zps{r}(a b):=evS (z1p · a b) r (z1p.eq_2 a b)
def zpe{r}(a b c):=evS (z3u · a b c) r (z3u.eq_2 a b c)
def zpm{r}(a b):=evS (z2c · a b) r (z2c.eq_2 a b)
def zpt{r}(a b c d):=evS (z1x · a b c d) r (z1x.eq_2 a b c d)
def zo2{r}(a b c d):=evS (z29 · a b c d) r (z29.eq_2 a b c d)
def zoi{r}(a b c d e f):=evS (z25 · a b c d e f) r (z25.eq_2 a b c d e f)
def zpl{r}(a b c d e f):=evS (z1w · a b c d e f) r (z1w.eq_2 a b c d e f)
def yeo{r}(a):=evS (z8b · a) r (z8b.eq_2 a)
def zrl{r}(a b c):=evS (z5a · a b c) r (z5a.eq_2 a b c)
def ysw{r}(a b):=evS (zaa · a b) r (zaa.eq_2 a b)
def ydi{r}(a):=evS (zaq · a) r (zaq.eq_2 a)
def zr0{r}(a b):=evS (z5w · a b) r (z5w.eq_2 a b)
def yep{r}(a):=evS (z8g · a) r (z8g.eq_2 a)
def zqh{r}(a b c):=evS (z5h · a b c) r (z5h.eq_2 a b c)
def ydx{r}(a b):=evS (zdd · a b) r (zdd.eq_2 a b)
def y4v{r}(a):=evS (z8t · a) r (z8t.eq_2 a)
def zmb{r}(a b):=evS (z1t · a b) r (z1t.eq_2 a b)
def y73{r}(a):=evS (zac · a) r (zac.eq_2 a)
def zmz{r}(a b):=evS (z2v · a b) r (z2v.eq_2 a b)
def zmx{r}(a b):=evS (z1c · a b) r (z1c.eq_2 a b)
def yim{r}(a b):=evS (zce · a b) r (zce.eq_2 a b)
def ztz{r}(a b c):=evS (z4k · a b c) r (z4k.eq_2 a b c)
def zt0{r}(a b c d):=evS (z71 · a b c d) r (z71.eq_2 a b c d)
def zuk{r}(a b c d):=evS (z6y · a b c d) r (z6y.eq_2 a b c d)
def y6n{r}(a b):=evS (z4g · a b) r (z4g.eq_2 a b)
def zu3{r}(a b c):=evS (z80 · a b c) r (z80.eq_2 a b c)
def yem{r}(a):=evS (zcv · a) r (zcv.eq_2 a)
def ya7{r}(a b):=evS (z9d · a b) r (z9d.eq_2 a b)
def zoy{r}(a b c):=evS (z4b · a b c) r (z4b.eq_2 a b c)
def yfp{r}(a):=evS (zcw · a) r (zcw.eq_2 a)
def zqa{r}(a b c):=evS (z5q · a b c) r (z5q.eq_2 a b c)
def zra{r}(a b c d):=evS (z64 · a b c d) r (z64.eq_2 a b c d)
def yhe{r}(a):=evS (zc6 · a) r (zc6.eq_2 a)
def zu1{r}(a b c):=evS (z7y · a b c) r (z7y.eq_2 a b c)
def zun{r}(a b c d):=evS (z4l · a b c d) r (z4l.eq_2 a b c d)
def ztc{r}(a b c d e f):=evS (z6x · a b c d e f) r (z6x.eq_2 a b c d e f)
def y7q{r}(a b c d e):=evS (z7d · a b c d e) r (z7d.eq_2 a b c d e)
def zuy{r}(a b c d e f):=evS (z6u · a b c d e f) r (z6u.eq_2 a b c d e f)
def ycy{r}(a):=evS (zd8 · a) r (zd8.eq_2 a)
def zrm{r}(a b c):=evS (z55 · a b c) r (z55.eq_2 a b c)
def zqg{r}(a b c):=evS (z3c · a b c) r (z3c.eq_2 a b c)
def zr3{r}(a b c d e f):=evS (z32 · a b c d e f) r (z32.eq_2 a b c d e f)
def zr4{r}(a b c d e f g h):=evS (z5i · a b c d e f g h) r (z5i.eq_2 a b c d e f g h)
def zqj{r}(a b c d e):=evS (z3a · a b c d e) r (z3a.eq_2 a b c d e)
def ydr{r}(a):=evS (zcx · a) r (zcx.eq_2 a)
def zqo{r}(a b):=evS (z5r · a b) r (z5r.eq_2 a b)
def zqu{r}(a b c d):=evS (z5k · a b c d) r (z5k.eq_2 a b c d)
def zl2{r}(a):=evS (z1j · a) r (z1j.eq_2 a)
def y0n{r}(a b):=evS (z2w · a b) r (z2w.eq_2 a b)
def yho{r}(a b):=evS (za3 · a b) r (za3.eq_2 a b)
def znc{r}(a b):=evS (kzv · a b) r (kzv.eq_2 a b)
def zcu{r}(a b c d):=evS (zzn · a b c d) r (zzn.eq_2 a b c d)
def zlj{r}(a b c d e f g h):=evS (zz6 · a b c d e f g h) r (zz6.eq_2 a b c d e f g h)
def zcm{r}(a b c d e f g h):=evS (zzr · a b c d e f g h) r (zzr.eq_2 a b c d e f g h)
def zl9{r}(a b c d e f g h i):=evS (kzq · a b c d e f g h i) r (kzq.eq_2 a b c d e f g h i)
def z69{α:Type}{x y:List α}(h:x.length+y.length<=268435456):ext x y=some (x++y):=by unfold ext;rw[Qbw (by simpa[zj8]using h)]
def I64(x:Int):Prop := -9223372036854775808<=x∧x<=9223372036854775807
def yf0{x:Int}(h:I64 x):Ev (λn=>zch n x) (x.natAbs:Int):=by
 unfold I64 at h;rw[yhh];simp only[Ev.pif,Ev.yz0,Qar];split
 ·rw[wUn (x:=x) (by omega),wUn (by omega)];omega
 ·rw[wU (by omega)];omega
def yv5:∀(b a:Nat),Ev (λn=>z9n n (b:Int) (a:Int)) (Nat.gcd a b:Int):=by
 intro b
 induction b using Nat.strongRecOn with
 |ind b g=>
  intro a;rw[ya8];by_cases d:b=0
  ·subst d;simp[Ev.pif,Ev.yz0]
  ·have h:rem .u64 (a:Int) (b:Int)=some ((a % b:Nat):Int):=by
    unfold rem;rw[Qbx (by omega),Int.tmod_eq_emod_of_nonneg (by omega)];simp
   rw[Ev.zz2 (by simpa using d),Ev.yz2 h];have:=g (a % b) (Nat.mod_lt _ (by omega)) b;rw[Nat.gcd_comm a b,Nat.gcd_rec b a,Nat.gcd_comm];exact this
def yxa{a b:Nat}:Ev (λn=>zgk n (a:Int) (b:Int)) (Nat.gcd a b:Int):=by
 rw[ymf];exact yv5 b a
def rok(r:yz6):Bool:=decide (1<=r.den)&&decide (r.den<=1000000000)&&decide (r.num.natAbs<=1000000000)&&(Nat.gcd r.num.natAbs r.den.natAbs==1)
def znh{r:yz6}:rok r=true↔1<=r.den∧r.den<=1000000000∧r.num.natAbs<=1000000000∧Nat.gcd r.num.natAbs r.den.natAbs=1:=by
 simp[rok,and_assoc]
def yr9{r:yz6}(h:I64 r.num):Ev (λn=>zcs n r) (if rok r then 0 else 8):=by
 have d:∀b,Ev (λn=>z1k n b) (if b then 8 else 0):=λb=>by
  rw[y66];cases b <;> simp[Ev.pif,Ev.yz0]
 rw[ye8];simp only[Ev.pif,Qar];split
 ·refine(d _).to ?_;rw[Qbw rfl,Qbx];rw[znh];omega
 split
 ·refine(d _).to ?_;rw[Qbw rfl,Qbx];rw[znh];omega
 rw[Ev.kz0 (yf0 h)];simp only[Ev.pif,Qar];split
 ·refine(d _).to ?_;rw[Qbw rfl,Qbx];rw[znh];omega
 rw[Ev.kz0 (yf0 h),wU (by omega)];have i:r.den=(r.den.natAbs:Int):=by omega
 rw[i,Ev.kz0 yxa];refine(d _).to ?_
 have:((((Nat.gcd r.num.natAbs r.den.natAbs:Nat):Int) != 1)=true)↔¬rok r=true:=by
  rw[znh];simp only[bne_iff_ne,ne_eq];omega
 by_cases g:rok r=true
 ·rw[Qbx (by rw[this];simpa using g),Qbw g]
 ·rw[Qbw (by rw[this];exact g),Qbx g]
def z01t(a b:Int):Nat.gcd a.natAbs b.natAbs=Nat.gcd b.natAbs (a.tmod b).natAbs:=by
 rw[Int.natAbs_tmod,Nat.gcd_comm a.natAbs,Nat.gcd_rec b.natAbs a.natAbs,Nat.gcd_comm]
def yh4:∀(m:Nat) (b a:Int),b.natAbs=m->I64 a->I64 b->¬a = -9223372036854775808->¬b = -9223372036854775808->Ev (λn=>z45 n b a) (Nat.gcd a.natAbs b.natAbs:Int):=by
 intro m
 induction m using Nat.strongRecOn with
 |ind m i=>
  intro b a k l h q g;unfold I64 at l h;rw[y37];by_cases d:b=0
  ·subst d;simp only[Ev.pif,Ev.yz0,Qar];rw[Qbx (by simp)];split
   ·rw[wI (by omega)];simp;omega
   ·simp;omega
  ·have j:rem .i64 a b=some (a.tmod b):=by unfold rem;rw[Qbx d]
   have o:(a.tmod b).natAbs<b.natAbs:=by rw[Int.natAbs_tmod];exact Nat.mod_lt _ (by omega)
   rw[Ev.zz2 (by simpa using d),Ev.yz2 j];have:=i _ (by rw[<-k];exact o) (a.tmod b) b rfl h (by unfold I64;omega) g (by omega);rw[z01t a b];exact this
def ymb{a b:Int}(i:I64 a)(h:I64 b)(g:¬a = -9223372036854775808)(d:¬b = -9223372036854775808):Ev (λn=>zbd n a b) (Nat.gcd a.natAbs b.natAbs:Int):=by
 rw[ya0];exact yh4 _ b a rfl i h g d
def yrz{r:yz6}:Ev (λn=>zda n r) (if rok r then 0 else 8):=by
 have d:∀b,Ev (λn=>z0j n b) (if b then 8 else 0):=λb=>by
  rw[y5a];cases b <;> simp[Ev.pif,Ev.yz0]
 rw[ycv];simp only[Ev.pif,Qar];split
 ·refine(d _).to ?_;rw[Qbw rfl,Qbx];rw[znh];omega
 split
 ·refine(d _).to ?_;rw[Qbw rfl,Qbx];rw[znh];omega
 split
 ·refine(d _).to ?_;rw[Qbw rfl,Qbx];rw[znh];omega
 split
 ·refine(d _).to ?_;rw[Qbw rfl,Qbx];rw[znh];omega
 rw[Ev.kz0 (ymb (by unfold I64;omega) (by unfold I64;omega) (by omega) (by omega))];refine(d _).to ?_
 have:((((Nat.gcd r.num.natAbs r.den.natAbs:Nat):Int) != 1)=true)↔¬rok r=true:=by
  rw[znh];simp only[bne_iff_ne,ne_eq];omega
 by_cases g:rok r=true
 ·rw[Qbx (by rw[this];simpa using g),Qbw g]
 ·rw[Qbw (by rw[this];exact g),Qbx g]
def wfR(r:yz6):Prop:=I64 r.num∧I64 r.den
def fdiv(a b:yz6):Int×Int:=(a.num * b.den,a.den * b.num)
def yge{P:zz1->Prop}(h:∀v:zz1,(∀x,x∈v.list->P x)->P v)(v:zz1):P v:=h v λx b=>yge h x
termination_by v
decreasing_by exact zz1.y5r b
mutual
def zhp:zz1->Nat
 |⟨k,_,_,_,l⟩=>if k=4 then 1+z8r l else 1
def z8r:z4h->Nat
 |[]=>0
 |x::l=>zhp x+z8r l
end
mutual
def zjd:zz1->Nat
 |⟨k,_,_,_,l⟩=>if k=4 then max 1 (zmn l)else 1
def zmn:z4h->Nat
 |[]=>0
 |x::l=>max (1+zjd x) (zmn l)
end
def zu4(v:zz1):zhp v=if v.kind=4 then 1+z8r v.list else 1:=by cases v;rw[zhp]
def y5k(v:zz1):zjd v=if v.kind=4 then max 1 (zmn v.list)else 1:=by cases v;rw[zjd]
def z01k{l:z4h}{x:zz1}(h:x∈l):x.size<=(l.map zz1.size).sum:=by
 induction l with
 |nil=>cases h
 |cons y l b=>
  rcases Qbl.1 h with rfl|h
  ·simp
  ·have:=b h;simp;omega
def zde(v:zz1):(v.list.map zz1.size).sum+v.str.length+4<=v.size:=by rw[zz1.size_eq];omega
def zrs{v x:zz1}(h:x∈v.list):x.size<=v.size:=by have:=z01k h;have:=zde v;omega
def zmf(l:z4h):l.length<=(l.map zz1.size).sum:=by
 induction l with
 |nil=>simp
 |cons x l b=>have:=zde x;simp;omega
def y05:∀v:zz1,zhp v<=v.size:=yge λv g=>by
 have:∀l:z4h,(∀x,x∈l->x∈v.list)->z8r l<=(l.map zz1.size).sum:=λl=>by
  induction l with
  |nil=>intro _;simp[z8r]
  |cons x l b=>
   intro d;have:=g x (d x Qak);have:=b λy i=>d y (Qai _ i)
   simp[z8r];omega
 have:=this v.list λ_ h=>h
 have:=zde v;rw[zu4];split <;> omega
def yrk:∀v:zz1,zjd v<=zhp v:=yge λv g=>by
 have:∀l:z4h,(∀x,x∈l->x∈v.list)->zmn l<=1+z8r l:=λl=>by
  induction l with
  |nil=>intro _;simp[z8r,zmn]
  |cons x l b=>
   intro d;have:=g x (d x Qak);have:=b λy i=>d y (Qai _ i)
   simp[z8r,zmn];omega
 have:=this v.list λ_ h=>h
 rw[zu4,y5k];split <;> omega
def ydp(l:z4h):z8r l<=(l.map zz1.size).sum:=by
 induction l with
 |nil=>simp[z8r]
 |cons x l b=>have:=y05 x;simp[z8r];omega
def yhp:∀v:zz1,v.size<=8388608->Ev (λn=>z7i n v) ((zhp v:Int),(zjd v:Int)):=yge λv m C=>by
 have j:∀d p,Ev (λn=>z2y n d p) (p,d):=λd p=>by rw[y18,Ev.yz0]
 have y:=zde v;have hlen:=zmf v.list
 have loop:∀k,k<=v.list.length->∀d p:Nat,p+z8r (v.list.drop k)<=8388609->d<=8388609->Ev (λn=>z30 n (k:Int) (d:Int) (p:Int) v.list (v.list.length:Int)) (((p+z8r (v.list.drop k):Nat):Int),((max d (zmn (v.list.drop k)):Nat):Int)) :=
  down (λd p g o=>by
   rw[zn1,Ev.kz1 (by simp)];refine(j _ _).to ?_
   simp[z8r,zmn]) λk b i d p g o=>by
   have l:=Qad b;have w:=zrs l;rw[<-Qah (h:=b)]at g ⊢;simp only[z8r,zmn]at g ⊢;have z:=y05 v.list[k];have A:=yrk v.list[k];rw[zn1,Ev.zz2 (by simpa using b),Ev.yz2 (kz7 b),zz1.kz4,Ev.kz0 (m _ l (by omega)),wI (x:=_+1) (by omega),wI (x:=(zjd _:Int)+1) (by omega),wI (x:=(p:Int)+_) (by omega)];have u:(k:Int)+1=((k+1:Nat):Int):=by omega
   have s:(zjd v.list[k]:Int)+1=((1+zjd v.list[k]:Nat):Int):=by omega
   have q:(p:Int)+(zhp v.list[k]:Int)=((p+zhp v.list[k]:Nat):Int):=by omega
   rw[u,s,q,ybq];refine(i (max d (1+zjd v.list[k])) (p+zhp v.list[k]) (by omega) (by omega)).to ?_
   congr 2 <;> omega
 rw[y6o];by_cases b:v.kind=4
 ·rw[Ev.zz2 (by simpa using b)];have B:=ydp v.list;have:=loop 0 (Qbu _) 1 1 (by simp;omega) (by omega);refine this.to ?_;rw[zu4,y5k,Qbw b,Qbw b,List.drop_zero]
 ·rw[Ev.kz1 (by simpa using b)];refine(j 1 1).to ?_;rw[zu4,y5k,Qbx b,Qbx b];rfl
def y93:∀v:zz1,v.size<=8388608->Ev (λn=>z8j n v) (zhp v:Int):=yge λv m z=>by
 have u:=zde v;have hlen:=zmf v.list;rw[ydw,zz1.kz4,zu4];by_cases b:v.kind=4
 ·rw[Qbw b];have d:(v.kind==4)=true:=by simpa using b
  have loop:∀k,k<=v.list.length->∀p:Nat,p+z8r (v.list.drop k)<=8388609->Ev (λn=>z5j n (k:Int) (p:Int) v) ((p+z8r (v.list.drop k):Nat):Int) :=
   down (λp g=>by
    rw[zk8,Ev.kz1 (by simp),zk3,Ev.kz1 (by rfl),Ev.yz0]
    simp[z8r]) λk b i p g=>by
    have j:=Qad b;have s:=zrs j;rw[<-Qah (h:=b)]at g ⊢;simp only[z8r]at g ⊢;have w:=y05 v.list[k];rw[zk8,Ev.zz2 (by simpa using b),d,zz1.kz4,zk3,Ev.zz2 (by rfl),Ev.yz2 (kz7 b),zz1.kz4,Ev.kz0 (m _ j (by omega)),wI (x:=_+1) (by omega),wI (x:=(p:Int)+_) (by omega)];have q:(k:Int)+1=((k+1:Nat):Int):=by omega
    have o:(p:Int)+(zhp v.list[k]:Int)=((p+zhp v.list[k]:Nat):Int):=by omega
    rw[q,o,zz1.kz4];refine(i (p+zhp v.list[k]) (by omega)).to ?_
    congr 1;omega
  have y:=ydp v.list;exact loop 0 (Qbu _) 1 (by simp;omega)
 ·rw[Qbx b];have d:(v.kind==4)=false:=by simpa using b
  have l:Ev (λn=>z5v n 0 1 false v) 1:=by rw[zk3,Ev.kz1 (by rfl),Ev.yz0]
  rw[zk8,d,zz1.kz4,Ev.pif];split <;> exact l
def ytq:∀v:zz1,v.size<=8388608->Ev (λn=>zcf n v) (zjd v:Int):=yge λv l z=>by
 have u:=zde v;have hlen:=zmf v.list;rw[yjj,zz1.kz4,y5k];by_cases b:v.kind=4
 ·rw[Qbw b];have d:(v.kind==4)=true:=by simpa using b
  have loop:∀k,k<=v.list.length->∀p:Nat,p<=8388609->Ev (λn=>z7o n (k:Int) (p:Int) v) ((max p (zmn (v.list.drop k)):Nat):Int) :=
   down (λp m=>by
    rw[zlf,Ev.kz1 (by simp),zlo,Ev.kz1 (by rfl),Ev.yz0]
    simp[zmn]) λk b g p m=>by
    have i:=Qad b;have s:=zrs i;rw[<-Qah (h:=b)];simp only[zmn];have w:=y05 v.list[k];have y:=yrk v.list[k];rw[zlf,Ev.zz2 (by simpa using b),d,zz1.kz4,zlo,Ev.zz2 (by rfl),Ev.yz2 (kz7 b),zz1.kz4,Ev.kz0 (l _ i (by omega)),wI (x:=_+1) (by omega),wI (x:=1+_) (by omega)];have q:(k:Int)+1=((k+1:Nat):Int):=by omega
    have o:1+(zjd v.list[k]:Int)=((1+zjd v.list[k]:Nat):Int):=by omega
    rw[q,o,zz1.kz4,ybq];refine(g (max p (1+zjd v.list[k])) (by omega)).to ?_
    congr 1;omega
  exact loop 0 (Qbu _) 1 (by omega)
 ·rw[Qbx b];have d:(v.kind==4)=false:=by simpa using b
  have j:Ev (λn=>z7j n 0 1 false v) 1:=by rw[zlo,Ev.kz1 (by rfl),Ev.yz0]
  rw[zlf,d,zz1.kz4,Ev.pif];split <;> exact j
def v0:zz1:=⟨0,⟨0,0⟩,false,[],[]⟩
def zwn(c:UInt8):Bool:=decide (32<=c.toNat)&&decide (c.toNat<=126)
def nul(v:yz6):Bool:=v.num==0&&v.den==0
mutual
def zwh:zz1->Bool
 |⟨k,q,t,s,l⟩ =>
  if k=1 then rok q&&(!t&&(s.isEmpty&&l.isEmpty))
  else if k=2 then nul q&&(s.isEmpty&&l.isEmpty)
  else if k=3 then nul q&&(!t&&(l.isEmpty&&(decide (s.length<=60)&&s.all zwn)))
  else if k=4 then nul q&&(!t&&(s.isEmpty&&zp8 l))
  else false
def zp8:z4h->Bool
 |[]=>true
 |x::l=>zwh x&&zp8 l
end
def yr5(v:zz1):zwh v =
 if v.kind=1 then rok v.num&&(!v.truth&&(v.str.isEmpty&&v.list.isEmpty))
 else if v.kind=2 then nul v.num&&(v.str.isEmpty&&v.list.isEmpty)
 else if v.kind=3 then nul v.num&&(!v.truth&&(v.list.isEmpty&&(decide (v.str.length<=60)&&v.str.all zwn)))
 else if v.kind=4 then nul v.num&&(!v.truth&&(v.str.isEmpty&&zp8 v.list))
 else false:=by cases v;rw[zwh]
def y35(v:zz1):Int:=if 100<zhp v∨6<zjd v then 4 else if zwh v then 0 else 8
def z05z{v:zz1}(h:v.wf):wfR v.num:=by
 rw[zz1.z2h]at h;have:=h.2.1;rw[yz6.z2h]at this;simpa[wfR,I64,IntKind.min,IntKind.max,IntKind.signed,IntKind.bits]using this
def z04x{v:zz1}(h:v.wf):∀x∈v.list,x.wf:=by
 rw[zz1.z2h]at h;exact h.2.2.2.2
def zlw{v:zz1}:Ev (λn=>z2m n v) (nul v.num&&(!v.truth&&(v.str.isEmpty&&v.list.isEmpty))):=by
 rw[y7s];have⟨k,⟨p,q⟩,t,s,l⟩:=v;simp only[Ev.pif,Ev.yz0,nul,Bool.and_true];cases p==0 <;> cases q==0 <;> cases t <;> cases s <;> cases l <;> simp <;> omega
def yv9:∀v:zz1,v.wf->v.size<=8388608->Ev (λn=>zc4 n v) (zwh v):=yge λv u q A=>by
 have z:=zde v;have hlen:=zmf v.list;rw[yjc,yr5];by_cases m:v.kind=1
 ·rw[Qbw m,Ev.zz2 (by simpa using m),Ev.kz0 (yr9 (z05z q).1)];cases B:rok v.num
  ·rw[Ev.zz2 (by rfl),Ev.yz0];rfl
  ·rw[Ev.kz1 (by rfl)];exact zlw
 rw[Qbx m,Ev.kz1 (by simpa using m)];by_cases l:v.kind=2
 ·rw[Qbw l,Ev.zz2 (by simpa using l)];exact zlw
 rw[Qbx l,Ev.kz1 (by simpa using l)];by_cases j:v.kind=3
 ·rw[Qbw j,Ev.zz2 (by simpa using j)];by_cases s:v.str.length<=60
  ·rw[Ev.kz1 (by simp;omega),zz1.kz4]
   have loop:∀w:zz1,∀k,k<=v.str.length->Ev (λn=>z7k n (k:Int) v w) ((v.str.drop k).all zwn&&(nul w.num&&(!w.truth&&(w.str.isEmpty&&w.list.isEmpty)))):=λw=>
    down (by
     rw[ztn,Ev.kz1 (by simp),zz1.kz4]
     simpa using zlw) λk b d=>by
     have g:Ev (λn=>z7e n (k:Int) true v w) false:=by rw[zud,Ev.zz2 (by rfl),Ev.yz0]
     rw[<-Qah (h:=b),List.all_cons];rw[ztn,Ev.zz2 (by simpa using b),Ev.yz2 (kz7 b),zz1.kz4,zz1.kz4];by_cases E:v.str[k].toNat<32
     ·rw[Ev.zz2 (by simp;omega)];refine g.to ?_;have:zwn v.str[k]=false:=by simp[zwn];omega
      rw[this];rfl
     ·rw[Ev.kz1 (by simp;omega),Ev.yz2 (kz7 b)];by_cases D:v.str[k].toNat>126
      ·rw[show decide ((v.str[k].toNat:Int)>126)=true by simp;omega];refine g.to ?_;have:zwn v.str[k]=false:=by simp[zwn];omega
       rw[this];rfl
      ·rw[show decide ((v.str[k].toNat:Int)>126)=false by simp;omega,zud,Ev.kz1 (by rfl),wrk (by omega),zz1.kz4,zz1.kz4];have:zwn v.str[k]=true:=by simp[zwn];omega
       rw[this,Bool.true_and];exact d
   refine(loop ⟨v.kind,v.num,v.truth,[],v.list⟩ 0 (Qbu _)).to ?_;simp only[List.drop_zero,s,decide_true,Bool.true_and,List.isEmpty_nil];cases nul v.num <;> cases v.truth <;> cases v.list.isEmpty <;> cases v.str.all zwn <;> rfl
  ·rw[Ev.zz2 (by simp;omega),Ev.yz0];simp[s]
 rw[Qbx j,Ev.kz1 (by simpa using j)];by_cases i:v.kind=4
 ·rw[Qbw i,Ev.zz2 (by simpa using i)]
  have loop:∀w:zz1,∀k,k<=v.list.length->Ev (λn=>z7n n (k:Int) v.list (v.list.length:Int) w) (zp8 (v.list.drop k)&&(nul w.num&&(!w.truth&&(w.str.isEmpty&&w.list.isEmpty)))):=λw=>
   down (by
    rw[zuo,Ev.kz1 (by simp),zz1.kz4]
    simpa[zp8]using zlw) λk b d=>by
    have o:=Qad b;have y:=zrs o;rw[<-Qah (h:=b),zp8];rw[zuo,Ev.zz2 (by simpa using b),Ev.yz2 (kz7 b),zz1.kz4,Ev.kz0 (u _ o (z04x q _ o) (by omega))];cases C:zwh v.list[k]
    ·rw[Ev.zz2 (by rfl),Ev.yz0];rfl
    ·rw[Ev.kz1 (by rfl),wrk (by omega),zz1.kz4,Bool.true_and];exact d
  refine(loop ⟨v.kind,v.num,v.truth,v.str,[]⟩ 0 (Qbu _)).to ?_;simp only[List.drop_zero,List.isEmpty_nil,Bool.and_true];cases nul v.num <;> cases v.truth <;> cases v.str.isEmpty <;> cases zp8 v.list <;> rfl
 ·rw[Qbx i,Ev.kz1 (by simpa using i),Ev.yz0]
def ypo{v:zz1}(h:v.wf)(g:v.size<=8388608):Ev (λn=>zd2 n v) (y35 v):=by
 have d:∀b,Ev (λn=>z5p n b v) (if b then 4 else if zwh v then 0 else 8):=λb=>by
  rw[y6c];cases b
  ·rw[Ev.kz1 (by rfl),zz1.kz4,Ev.kz0 (yv9 v h g)];cases zwh v
   ·rw[Ev.zz2 (by rfl),Ev.yz0];rfl
   ·rw[Ev.kz1 (by rfl),Ev.yz0];rfl
  ·rw[Ev.zz2 (by rfl),Ev.yz0];rfl
 rw[yf6,zz1.kz4,Ev.kz0 (yhp v g)];unfold y35;simp only[Ev.pif];by_cases j:100<zhp v
 ·rw[Qbw (by simp;omega),Qbw (.inl j)];exact d true
 ·rw[Qbx (by simp;omega)];by_cases i:6<zjd v
  ·rw[Qbw (.inr i),show decide ((zjd v:Int)>6)=true by simp;omega];exact d true
  ·rw[Qbx (by omega),show decide ((zjd v:Int)>6)=false by simp;omega];exact d false
def yud:∀v:zz1,v.size<=8388608->Ev (λn=>zc2 n v) (zwh v):=yge λv D I=>by
 have G:=zde v;have hlen:=zmf v.list;rw[yi9,yr5];have l:((v.num.num==0)&&((v.num.den==0)&&true))=nul v.num:=by simp[nul]
 have j:((v.str.length:Int)==0)=v.str.isEmpty:=by cases v.str <;> simp;omega
 have m:((v.list.length:Int)==0)=v.list.isEmpty:=by cases v.list <;> simp;omega
 have z:decide ((v.list.length:Int)>0) = !v.list.isEmpty:=by cases v.list <;> simp
 have A:decide ((v.str.length:Int)>0) = !v.str.isEmpty:=by cases v.str <;> simp
 simp only[l,j,m,z,A];by_cases u:v.kind=1
 ·rw[Qbw u,Ev.zz2 (by simpa using u),Ev.kz0 yrz];cases w:rok v.num <;> cases C:v.truth <;> cases y:v.str.isEmpty <;> simp[Ev.pif,Ev.yz0]
 rw[Qbx u,Ev.kz1 (by simpa using u)];by_cases s:v.kind=2
 ·rw[Qbw s,Ev.zz2 (by simpa using s)];cases w:nul v.num <;> cases y:v.str.isEmpty <;> simp[Ev.pif,Ev.yz0]
 rw[Qbx s,Ev.kz1 (by simpa using s)];by_cases q:v.kind=3
 ·rw[Qbw q,Ev.zz2 (by simpa using q)];have b:Ev (λn=>z1a n true v) false:=by rw[ztb,Ev.zz2 (by rfl),Ev.yz0]
  have loop:∀k,k<=v.str.length->Ev (λn=>z73 n (k:Int) v) ((v.str.drop k).all zwn) :=
   down (by
    rw[zu6,Ev.kz1 (by simp),Ev.yz0]
    simp) λk d g=>by
    have b:Ev (λn=>z7g n (k:Int) true v) false:=by rw[zt2,Ev.zz2 (by rfl),Ev.yz0]
    rw[<-Qah (h:=d),List.all_cons];rw[zu6,Ev.zz2 (by simpa using d),Ev.yz2 (kz7 d),zz1.kz4];by_cases L:v.str[k].toNat<32
    ·rw[Ev.zz2 (by simp;omega)];refine b.to ?_;have:zwn v.str[k]=false:=by simp[zwn];omega
     rw[this];rfl
    ·rw[Ev.kz1 (by simp;omega),Ev.yz2 (kz7 d)];by_cases K:v.str[k].toNat>126
     ·rw[show decide ((v.str[k].toNat:Int)>126)=true by simp;omega];refine b.to ?_;have:zwn v.str[k]=false:=by simp[zwn];omega
      rw[this];rfl
     ·rw[show decide ((v.str[k].toNat:Int)>126)=false by simp;omega,zt2,Ev.kz1 (by rfl),wrk (by omega),zz1.kz4];have:zwn v.str[k]=true:=by simp[zwn];omega
      rw[this,Bool.true_and];exact g
  have good:Ev (λn=>z1a n false v) (v.str.all zwn):=by
   rw[ztb,Ev.kz1 (by rfl),zz1.kz4];simpa using loop 0 (Qbu _)
  rw[zz1.kz4];cases w:nul v.num
  ·rw[Ev.zz2 (by rfl)];exact b
  rw[Ev.kz1 (by rfl)];cases C:v.truth
  ·rw[Ev.kz1 (by rfl)];cases E:v.list.isEmpty
   ·rw[Ev.zz2 (by rfl)];exact b
   ·rw[Ev.kz1 (by rfl)];by_cases i:v.str.length<=60
    ·rw[show decide ((v.str.length:Int)>60)=false by simp;omega];simpa[i]using good
    ·rw[show decide ((v.str.length:Int)>60)=true by simp;omega];simpa[i]using b
  ·rw[Ev.zz2 (by rfl)];exact b
 rw[Qbx q,Ev.kz1 (by simpa using q)];by_cases o:v.kind=4
 ·rw[Qbw o,Ev.zz2 (by simpa using o)];have b:Ev (λn=>z2t n true v) false:=by rw[zty,Ev.zz2 (by rfl),Ev.yz0]
  have loop:∀k,k<=v.list.length->Ev (λn=>z81 n (k:Int) v) (zp8 (v.list.drop k)) :=
   down (by
    rw[zuc,Ev.kz1 (by simp),Ev.yz0]
    simp[zp8]) λk d g=>by
    have B:=Qad d;have F:=zrs B;rw[<-Qah (h:=d),zp8];rw[zuc,Ev.zz2 (by simpa using d),Ev.yz2 (kz7 d),zz1.kz4,Ev.kz0 (D _ B (by omega))];cases J:zwh v.list[k]
    ·rw[Ev.zz2 (by rfl),Ev.yz0];rfl
    ·rw[Ev.kz1 (by rfl),wrk (by omega),zz1.kz4,Bool.true_and];exact g
  have good:Ev (λn=>z2t n false v) (zp8 v.list):=by
   rw[zty,Ev.kz1 (by rfl),zz1.kz4];simpa using loop 0 (Qbu _)
  rw[zz1.kz4];cases w:nul v.num
  ·rw[Ev.zz2 (by rfl)];exact b
  rw[Ev.kz1 (by rfl)];cases C:v.truth
  ·rw[Ev.kz1 (by rfl)];cases E:v.str.isEmpty
   ·exact b
   ·simpa using good
  ·rw[Ev.zz2 (by rfl)];exact b
 ·rw[Qbx o,Ev.kz1 (by simpa using o),Ev.yz0]
def ys0{v:zz1}(g:v.size<=8388608):Ev (λn=>zdb n v) (y35 v):=by
 have d:∀b,Ev (λn=>z6b n b v) (if b then 4 else if zwh v then 0 else 8):=λb=>by
  rw[y6f];cases b
  ·rw[Ev.kz1 (by rfl),zz1.kz4,Ev.kz0 (yud v g)];cases zwh v
   ·rw[Ev.zz2 (by rfl),Ev.yz0];rfl
   ·rw[Ev.kz1 (by rfl),Ev.yz0];rfl
  ·rw[Ev.zz2 (by rfl),Ev.yz0];rfl
 rw[yg8,zz1.kz4,Ev.kz0 (y93 v g)];unfold y35;by_cases i:100<zhp v
 ·rw[Ev.zz2 (by simp;omega),Qbw (.inl i)];exact d true
 ·rw[Ev.kz1 (by simp;omega),Ev.kz0 (ytq v g)];by_cases h:6<zjd v
  ·rw[Qbw (.inr h),show decide ((zjd v:Int)>6)=true by simp;omega];exact d true
  ·rw[Qbx (by omega),show decide ((zjd v:Int)>6)=false by simp;omega];exact d false
def vext{a b:zz1}(z:a.kind=b.kind)(y:a.num.num=b.num.num)(w:a.num.den=b.num.den)(u:a.truth=b.truth)(o:a.str=b.str)(n:a.list=b.list):a=b:=by
 have⟨k,⟨p,q⟩,t,s,l⟩:=a;have⟨m,⟨i,h⟩,d,g,j⟩:=b
 simp_all
def yrl{α:Type}{x y:α}{l m:List α}:eqB (x::l) (y::m)=(eqB x y&&eqB l m):=by
 cases h:(eqB x y&&eqB l m)
 ·rw[yzw];intro b;injection b with g d
  rw[Bool.and_eq_false_iff,yzw,yzw]at h;exact h.elim (λh=>h g) (λh=>h d)
 ·rw[z9s];rw[Qag,z9s,z9s]at h;rw[h.1,h.2]
def yd1:∀a b:zz1,a.size<=8388608->Ev (λn=>z3l n a b) (eqB a b):=yge (P:=λa=>∀b:zz1,a.size<=8388608->Ev (λn=>z3l n a b) (eqB a b)) λa y b B=>by
 have A:=zde a;have hlen:=zmf a.list;have d:a≠b->Ev (λn=>z16 n true b a) (eqB a b):=λh=>by rw[zuz,Ev.zz2 (by rfl),Ev.yz0,yzw.2 h]
 rw[yk5,zz1.kz4,zz1.kz4];by_cases q:a.kind=b.kind
 case neg=>rw[Ev.zz2 (by simpa using q)];exact d λh=>q (by rw[h])
 rw[Ev.kz1 (by simpa using q)];by_cases o:a.num.num=b.num.num∧a.num.den=b.num.den
 case neg=>rw[Ev.zz2 (by simp;omega)];exact d λh=>o (by rw[h];exact⟨rfl,rfl⟩)
 rw[Ev.kz1 (by simp[o])];by_cases m:a.truth=b.truth
 case neg=>rw[Ev.zz2 (by simpa using m)];exact d λh=>m (by rw[h])
 rw[Ev.kz1 (by simp[m])];by_cases l:a.str=b.str
 case neg=>rw[Ev.zz2 (by simpa using l)];exact d λh=>l (by rw[h])
 rw[Ev.kz1 (by simp[l])];by_cases w:a.list.length=b.list.length
 case neg=>rw[show((a.list.length:Int) != (b.list.length:Int))=true by simp;omega];exact d λh=>w (by rw[h])
 rw[show((a.list.length:Int) != (b.list.length:Int))=false by simp;omega,zuz,Ev.kz1 (by rfl),zz1.kz4,zz1.kz4]
 have loop:∀k,k<=a.list.length->Ev (λn=>z7c n (k:Int) (a.list.length:Int) b a) (eqB (a.list.drop k) (b.list.drop k)) :=
  down (by
   rw[zug,Ev.kz1 (by simp),Ev.yz0,List.drop_length,w,List.drop_length,zgl]) λk i s=>by
   have g:k<b.list.length:=by omega
   have u:=Qad i;have z:=zrs u;rw[<-Qah (h:=i),<-Qah (h:=g),yrl];rw[zug,Ev.zz2 (by simpa using i),Ev.yz2 (kz7 i),Ev.yz2 (kz7 g),zz1.kz4,zz1.kz4,Ev.kz0 (y _ u _ (by omega))];cases C:eqB a.list[k] b.list[k]
   ·rw[Ev.zz2 (by rfl),Ev.yz0];rfl
   ·rw[Ev.kz1 (by rfl),wrk (by omega),zz1.kz4,zz1.kz4,Bool.true_and];exact s
 refine(loop 0 (Qbu _)).to ?_;rw[List.drop_zero,List.drop_zero];by_cases j:a.list=b.list
 ·rw[z9s.2 j,z9s.2 (vext q o.1 o.2 m l j)]
 ·rw[yzw.2 j,yzw.2 λh=>j (by rw[h])]
def yu3:∀a b:zz1,a.size<=8388608->Ev (λn=>z3g n a b) (eqB a b):=yge (P:=λa=>∀b:zz1,a.size<=8388608->Ev (λn=>z3g n a b) (eqB a b)) λa y b B=>by
 have A:=zde a;have hlen:=zmf a.list;have d:a≠b->Ev (λn=>z18 n true b a) (eqB a b):=λh=>by rw[ztl,Ev.zz2 (by rfl),Ev.yz0,yzw.2 h]
 rw[yh5,zz1.kz4,zz1.kz4];by_cases q:a.kind=b.kind
 case neg=>rw[Ev.zz2 (by simpa using q)];exact d λh=>q (by rw[h])
 rw[Ev.kz1 (by simpa using q)];by_cases o:a.num.num=b.num.num∧a.num.den=b.num.den
 case neg=>rw[Ev.zz2 (by simp;omega)];exact d λh=>o (by rw[h];exact⟨rfl,rfl⟩)
 rw[Ev.kz1 (by simp[o])];by_cases m:a.truth=b.truth
 case neg=>rw[Ev.zz2 (by simpa using m)];exact d λh=>m (by rw[h])
 rw[Ev.kz1 (by simp[m])];by_cases l:a.str=b.str
 case neg=>rw[Ev.zz2 (by simpa using l)];exact d λh=>l (by rw[h])
 rw[Ev.kz1 (by simp[l])];by_cases w:a.list.length=b.list.length
 case neg=>rw[show((a.list.length:Int) != (b.list.length:Int))=true by simp;omega];exact d λh=>w (by rw[h])
 rw[show((a.list.length:Int) != (b.list.length:Int))=false by simp;omega,ztl,Ev.kz1 (by rfl),zz1.kz4,zz1.kz4]
 have loop:∀k,k<=a.list.length->Ev (λn=>z74 n (k:Int) b a) (eqB (a.list.drop k) (b.list.drop k)) :=
  down (by
   rw[zui,Ev.kz1 (by simp),Ev.yz0,List.drop_length,w,List.drop_length,zgl]) λk i s=>by
   have g:k<b.list.length:=by omega
   have u:=Qad i;have z:=zrs u;rw[<-Qah (h:=i),<-Qah (h:=g),yrl];rw[zui,Ev.zz2 (by simpa using i),Ev.yz2 (kz7 i),Ev.yz2 (kz7 g),zz1.kz4,zz1.kz4,Ev.kz0 (y _ u _ (by omega))];cases C:eqB a.list[k] b.list[k]
   ·rw[Ev.zz2 (by rfl),Ev.yz0];rfl
   ·rw[Ev.kz1 (by rfl),wrk (by omega),zz1.kz4,zz1.kz4,Bool.true_and];exact s
 refine(loop 0 (Qbu _)).to ?_;rw[List.drop_zero,List.drop_zero];by_cases j:a.list=b.list
 ·rw[z9s.2 j,z9s.2 (vext q o.1 o.2 m l j)]
 ·rw[yzw.2 j,yzw.2 λh=>j (by rw[h])]
def zic{α:Type}{l:List α}{k:Nat}(h:k<l.length):l.take k++[l[k]]=l.take (k+1):=by
 rw[List.take_add_one,Qab h];rfl
def yq1:∀v:zz1,v.size<=8388608->∀d:Int,∃b,Ev (λn=>zat n v d) b:=yge λv m u d=>by
 have s:=zde v;have hlen:=zmf v.list
 have loop:∀k,k<=v.list.length->∀d:Int,∃b,Ev (λn=>z61 n (k:Int) d v) b :=
  down (λd=>⟨false,by rw[zr1,Ev.kz1 (by simp),Ev.yz0]⟩) λk h j d=>by
   have l:=Qad h;have q:=zrs l;have⟨b,o⟩:=m _ l (by omega) (IntKind.i64.wrap (d-1));have⟨c,i⟩:=j d;refine⟨if b then true else c,?_⟩;rw[zr1,Ev.zz2 (by simpa using h),Ev.yz2 (kz7 h),zz1.kz4,Ev.kz0 o,zz1.kz4,wrk (by omega)];cases b
   ·rw[Ev.kz1 (by rfl)];exact i
   ·rw[Ev.zz2 (by rfl),Ev.yz0];rfl
 have g:∀d b,∃c,Ev (λn=>z3d n d b v) c:=λd b=>by
  cases b
  ·have⟨c,i⟩:=loop 0 (Qbu _) d;exact⟨c,by rw[zrp,Ev.kz1 (by rfl),zz1.kz4];exact i⟩
  ·exact⟨true,by rw[zrp,Ev.zz2 (by rfl),Ev.yz0]⟩
 simp only[yd8,zz1.kz4,Ev.pif];split
 ·exact g _ _
 split
 ·exact g _ _
 ·exact g _ _
def yss{v:zz1}(d:v.size<=8388608):∃b,Ev (λn=>zd9 n v) b:=by
 have⟨b,g⟩:=yq1 v d 10;cases b
 ·exact⟨_,by rw[zww,zz1.kz4,Ev.kz0 g,Ev.kz1 (by rfl),Ev.kz0 (y93 v d)];exact Ev.yz0.2 rfl⟩
 ·exact⟨true,by rw[zww,zz1.kz4,Ev.kz0 g,Ev.zz2 (by rfl),Ev.yz0]⟩
def yen{s:B8}(N:s.length<=8388608):Ev (λn=>z2e n s) (zmo s):=by
 have l:∀q,Ev (λn=>z0g n true s q) false:=λq=>by rw[zu9,Ev.zz2 (by rfl),Ev.yz0]
 have step:∀k (j:k<s.length) (r:Bool),((if k=0 then isLet s[k]else zi5 s[k])=false->r=false)->((if k=0 then isLet s[k]else zi5 s[k])=true->Ev (λn=>z1b n s (k+1)) r)->Ev (λn=>z1b n s k) r:=λk j r A J=>by
  have o:∀b,(if k=0 then isLet s[k]else zi5 s[k]) = !b->(b=false->(zi0 s k).2=1)->Ev (λn=>z0g n b s (k+(zi0 s k).2)) r:=λb z B=>by
   cases b
   ·rw[zu9,Ev.kz1 (by rfl),B rfl];exact J z
   ·exact(l _).to (A z).symm
  rw[zub,Ev.zz2 (by simpa using j)];by_cases d:s[k].toNat<128
  ·have D:=z03k j d;rw[D]at o;rw[D]
   have C:∀b,b=isLet s[k]->Ev (λn=>z7x n (s[k].toNat:Int) (k:Int) b s (k+1)) r:=λb z=>by
    subst z;rw[ztw];cases u:isLet s[k]
    ·rw[Ev.zz2 (by rfl)];by_cases g:k=0
     ·rw[Ev.zz2 (by simpa using g)];exact o true (by rw[Qbw g,u];rfl) (by simp)
     ·rw[Ev.kz1 (by simpa using g)];by_cases m:s[k].toNat=45
      ·have:s[k]=45:=UInt8.toNat_inj.1 (by simpa using m);rw[Ev.kz1 (by simp;omega)];exact o false (by rw[Qbx g,zi5,this];rfl) (λ_=>rfl)
      ·have w:(s[k]==45)=false:=by
        simp only[beq_eq_false_iff_ne];intro h;rw[h]at m;exact m rfl
       rw[Ev.zz2 (by simp;omega)];by_cases F:s[k].toNat<48
       ·rw[Ev.zz2 (by simp;omega)];refine o true ?_ (by simp);rw[Qbx g,zi5,u,w,ykv];simp;omega
       ·rw[Ev.kz1 (by simp;omega)];refine o _ ?_ (λ_=>rfl);rw[Qbx g,zi5,u,w,ykv];have L:decide (48<=s[k].toNat)=true:=by rw[Qar];omega
        have K:decide ((s[k].toNat:Int)>57) = !decide (s[k].toNat<=57):=by
         by_cases E:s[k].toNat<=57
         ·rw[show decide (s[k].toNat<=57)=true by rw[Qar];exact E];simp only[Bool.not_true,decide_eq_false_iff_not];omega
         ·rw[show decide (s[k].toNat<=57)=false by rw[decide_eq_false_iff_not];exact E];simp only[Bool.not_false,Qar];omega
        rw[L,K];simp
    ·rw[Ev.kz1 (by rfl)];refine o false ?_ (λ_=>rfl);split
     ·exact u
     ·rw[zi5,u];rfl
   simp only;by_cases F:97<=s[k].toNat
   ·rw[Ev.zz2 (by simp;omega)];exact C _ (by simp[isLet,F];omega)
   ·rw[Ev.kz1 (by simp;omega)];exact C _ (by simp[isLet];omega)
  ·have⟨B,O⟩:=yyj j (by omega);have G:isLet s[k]=false:=by simp[isLet];omega
   have M:zi5 s[k]=false:=by
    rw[zi5,G,ykv];have:(s[k]==45)=false:=by simp only[beq_eq_false_iff_ne];intro h;rw[h]at d;exact d (by decide)
    rw[this];simp;omega
   have y:(if k=0 then isLet s[k]else zi5 s[k])=false:=by split <;> assumption
   rw[Ev.zz2 (by simp;omega),show decide (((zi0 s k).1:Int)<=122)=false by simp;omega,ztw,Ev.zz2 (by rfl)];by_cases g:k=0
   ·rw[Ev.zz2 (by simpa using g)];exact(l _).to (A y).symm
   ·rw[Ev.kz1 (by simpa using g),Ev.zz2 (by simp;omega),Ev.kz1 (by simp;omega),show decide (((zi0 s k).1:Int)>57)=true by simp;omega];exact(l _).to (A y).symm
 have rest:∀k,k<=s.length->1<=k->Ev (λn=>z1b n s k) ((s.drop k).all zi5) :=
  down (Q:=λk=>1<=k->Ev (λn=>z1b n s k) ((s.drop k).all zi5)) (λ_=>by
   rw[zub,Ev.kz1 (by simp),Ev.yz0];simp) λk j I B=>by
   rw[<-Qah (h:=j),List.all_cons];refine step k j _ (λh =>?_) λh =>?_
   ·rw[Qbx (by omega)]at h;rw[h];rfl
   ·rw[Qbx (by omega)]at h;rw[h];exact I (by omega)
 rw[yjk]
 cases s with
 |nil=>rw[Ev.zz2 (by rfl),ztf,Ev.zz2 (by rfl),Ev.yz0];rfl
 |cons c t=>
  rw[Ev.kz1 (by simp;omega),ztf];by_cases i:(c::t).length<=40
  ·rw[Ev.kz1 (by simp at i ⊢;omega)];refine step 0 (by simp) _ (λh =>?_) λh =>?_
   ·rw[Qbw rfl]at h;simp only[List.getElem_cons_zero]at h;simp[zmo,h]
   ·rw[Qbw rfl]at h;simp only[List.getElem_cons_zero]at h;refine(rest 1 (by simp) (Qbv _)).to ?_;simp[zmo,h];intro _;simpa using i
  ·rw[Ev.zz2 (by simp at i ⊢;omega),Ev.yz0];simp[zmo];intro _ _;simpa using i
def ynt{c:UInt8}:Ev (λn=>zbi n (c.toNat:Int)) (isLet c):=by
 rw[yal];simp only[Ev.pif,Ev.yz0,isLet,Qar];split
 ·have:97<=c.toNat:=by omega
  simp[this];omega
 ·have:¬97<=c.toNat:=by omega
  simp[this]
def ys4{c:UInt8}:Ev (λn=>zd7 n (c.toNat:Int)) (ykv c):=by
 rw[ycr];simp only[Ev.pif,Ev.yz0,ykv,Qar];split
 ·have:48<=c.toNat:=by omega
  simp[this];omega
 ·have:¬48<=c.toNat:=by omega
  simp[this]
def z062{c:UInt8}:(((c.toNat:Nat):Int) != 45) = !(c==45):=by
 cases h:c==45 with
 |true=>have:c=45:=by simpa using h
        subst this;rfl
 |false=>
  have:c.toNat≠45:=λb=>by
   have:c=45:=UInt8.toNat_inj.1 (by simpa using b);subst this;cases h
  simp;omega
def ycp{s:B8}(B:s.length<=8388608):Ev (λn=>zca n s) (zmo s):=by
 have q:∀k:Int,Ev (λn=>z15 n s k true) false:=λk=>by rw[zue,Ev.zz2 (by rfl),Ev.yz0]
 have step:∀k (d:k<s.length) (r:Bool),((if k=0 then isLet s[k]else zi5 s[k])=false->r=false)->((if k=0 then isLet s[k]else zi5 s[k])=true->Ev (λn=>z0h n ((k+1:Nat):Int) s) r)->Ev (λn=>z0h n (k:Int) s) r:=λk d r A y=>by
  have o:∀b,(if k=0 then isLet s[k]else zi5 s[k]) = !b->Ev (λn=>z15 n s (k:Int) b) r:=λb u=>by
   cases b
   ·rw[zue,Ev.kz1 (by rfl),wrk (by omega)];exact y u
   ·exact(q _).to (A u).symm
  rw[ztv,Ev.zz2 (by simpa using d),Ev.yz2 (kz7 d),Ev.kz0 ynt];cases g:isLet s[k]
  ·rw[Ev.zz2 (by rfl)];by_cases j:k=0
   ·rw[Ev.zz2 (by simpa using j)];exact o true (by rw[Qbw j,g];rfl)
   ·rw[Ev.kz1 (by simpa using j),Ev.yz2 (kz7 d),z062];cases l:s[k]==45
    ·rw[Ev.zz2 (by rfl),Ev.yz2 (kz7 d),Ev.kz0 ys4];exact o _ (by rw[Qbx j,zi5,g,l];simp)
    ·rw[Ev.kz1 (by rfl)];exact o false (by rw[Qbx j,zi5,g,l];rfl)
  ·rw[Ev.kz1 (by rfl)];exact o false (by split;exact g;rw[zi5,g];rfl)
 have m:∀r:Bool,r=(decide (1<=s.length)&&decide (s.length<=40))->Ev (λn=>z0h n (s.length:Int) s) r:=λr z=>by
  rw[ztv,Ev.kz1 (by simp),z];by_cases i:1<=s.length
  ·rw[Ev.zz2 (by simp;omega),Ev.yz0];simp[i];omega
  ·rw[Ev.kz1 (by simp;omega),Ev.yz0];simp[i]
 have rest:∀k,k<=s.length->1<=k->Ev (λn=>z0h n (k:Int) s) ((s.drop k).all zi5&&decide (s.length<=40)) :=
  down (Q:=λk=>1<=k->Ev (λn=>z0h n (k:Int) s) ((s.drop k).all zi5&&decide (s.length<=40))) (λi=>by
   refine m _ ?_;simp[i]) λk d w i=>by
   rw[<-Qah (h:=d),List.all_cons];refine step k d _ (λh =>?_) λh =>?_
   ·rw[Qbx (by omega)]at h;rw[h];rfl
   ·rw[Qbx (by omega)]at h;rw[h];exact w (by omega)
 rw[yjp]
 cases s with
 |nil=>exact m _ rfl
 |cons c t=>
  refine step 0 (by simp) _ (λh =>?_) λh =>?_
  ·rw[Qbw rfl]at h;simp only[List.getElem_cons_zero]at h;simp[zmo,h]
  ·rw[Qbw rfl]at h;simp only[List.getElem_cons_zero]at h;refine(rest 1 (by simp) (Qbv _)).to ?_;simp[zmo,h]
def zvy(s:B8):Bool:=zmo s&&(!(s==[116,114,117,101]) && !(s==[102,97,108,115,101]))
def ytg{s:B8}(b:s.length<=8388608):Ev (λn=>zeh n s) (zvy s):=by
 rw[yj9,Ev.kz0 (yen b)];unfold zvy;cases zmo s <;> cases h:(s==[116,114,117,101]) <;> simp[Ev.pif,Ev.yz0]
def yrc{s:B8}(b:s.length<=8388608):Ev (λn=>zd0 n s) (zvy s):=by
 rw[yea,Ev.kz0 (ycp b)];unfold zvy;cases zmo s <;> cases h:(s==[116,114,117,101]) <;> simp[Ev.pif,Ev.yz0]
def y2q{P:yz1->Prop}(h:∀e:yz1,(∀x,x∈e.args->P x)->P e)(e:yz1):P e:=h e λx b=>y2q h x
termination_by e
decreasing_by exact yz1.y6a b
mutual
def zap:yz1->Nat
 |⟨_,_,_,l⟩=>1+zzx l
def zzx:kz6->Nat
 |[]=>0
 |x::l=>zap x+zzx l
end
mutual
def zi6:yz1->Nat
 |⟨_,_,_,l⟩=>max 1 (zmu l)
def zmu:kz6->Nat
 |[]=>0
 |x::l=>max (1+zi6 x) (zmu l)
end
def zen(e:yz1):zap e=1+zzx e.args:=by cases e;rw[zap]
def ygl(e:yz1):zi6 e=max 1 (zmu e.args):=by cases e;rw[zi6]
def y03{l:kz6}{x:yz1}(h:x∈l):x.size<=(l.map yz1.size).sum:=by
 induction l with
 |nil=>cases h
 |cons y l b=>
  rcases Qbl.1 h with rfl|h
  ·simp
  ·have:=b h;simp;omega
def zbz(e:yz1):(e.args.map yz1.size).sum+e.name.length+e.value.size+4<=e.size:=by rw[yz1.size_eq];omega
def zp1{e x:yz1}(h:x∈e.args):x.size<=e.size:=by have:=y03 h;have:=zbz e;omega
def zcq(l:kz6):l.length<=(l.map yz1.size).sum:=by
 induction l with
 |nil=>simp
 |cons x l b=>have:=zbz x;simp;omega
def zu7:∀e:yz1,zap e<=e.size:=y2q λe g=>by
 have:∀l:kz6,(∀x,x∈l->x∈e.args)->zzx l<=(l.map yz1.size).sum:=λl=>by
  induction l with
  |nil=>intro _;simp[zzx]
  |cons x l b=>
   intro d;have:=g x (d x Qak);have:=b λy i=>d y (Qai _ i)
   simp[zzx];omega
 have:=this e.args λ_ h=>h
 have:=zbz e;rw[zen];omega
def yq0:∀e:yz1,zi6 e<=zap e:=y2q λe g=>by
 have:∀l:kz6,(∀x,x∈l->x∈e.args)->zmu l<=1+zzx l:=λl=>by
  induction l with
  |nil=>intro _;simp[zzx,zmu]
  |cons x l b=>
   intro d;have:=g x (d x Qak);have:=b λy i=>d y (Qai _ i)
   simp[zzx,zmu];omega
 have:=this e.args λ_ h=>h
 rw[zen,ygl];omega
def ygk(l:kz6):zzx l<=(l.map yz1.size).sum:=by
 induction l with
 |nil=>simp[zzx]
 |cons x l b=>have:=zu7 x;simp[zzx];omega
def yp4:∀e:yz1,e.size<=8388608->Ev (λn=>z9c n e) ((zap e:Int),(zi6 e:Int)):=y2q λe l B=>by
 have w:=zbz e;have hlen:=zcq e.args
 have loop:∀k,k<=e.args.length->∀d p:Nat,p+zzx (e.args.drop k)<=8388609->d<=8388609->Ev (λn=>z44 n (k:Int) (d:Int) (p:Int) e.args (e.args.length:Int)) (((p+zzx (e.args.drop k):Nat):Int),((max d (zmu (e.args.drop k)):Nat):Int)) :=
  down (λd p g m=>by
   rw[zpu,Ev.kz1 (by simp),Ev.yz0]
   simp[zzx,zmu]) λk b i d p g m=>by
   have j:=Qad b;have u:=zp1 j;rw[<-Qah (h:=b)]at g ⊢;simp only[zzx,zmu]at g ⊢;have y:=zu7 e.args[k];have z:=yq0 e.args[k];rw[zpu,Ev.zz2 (by simpa using b),Ev.yz2 (kz7 b),yz1.kz4,Ev.kz0 (l _ j (by omega)),wI (x:=_+1) (by omega),wI (x:=(zi6 _:Int)+1) (by omega),wI (x:=(p:Int)+_) (by omega)];have s:(k:Int)+1=((k+1:Nat):Int):=by omega
   have q:(zi6 e.args[k]:Int)+1=((1+zi6 e.args[k]:Nat):Int):=by omega
   have o:(p:Int)+(zap e.args[k]:Int)=((p+zap e.args[k]:Nat):Int):=by omega
   rw[s,q,o,ybq];refine(i (max d (1+zi6 e.args[k])) (p+zap e.args[k]) (by omega) (by omega)).to ?_
   congr 2 <;> omega
 rw[yb2];have A:=ygk e.args;have:=loop 0 (Qbu _) 1 1 (by simp;omega) (by omega);refine this.to ?_;rw[zen,ygl,List.drop_zero]
def y8u:∀e:yz1,e.size<=8388608->Ev (λn=>z8f n e) (zap e:Int):=y2q λe j w=>by
 have q:=zbz e;have hlen:=zcq e.args;rw[yc8,yz1.kz4,zen]
 have loop:∀k,k<=e.args.length->∀p:Nat,p+zzx (e.args.drop k)<=8388609->Ev (λn=>z5b n (k:Int) (p:Int) e) ((p+zzx (e.args.drop k):Nat):Int) :=
  down (λp d=>by
   rw[zqt,Ev.kz1 (by simp),Ev.yz0]
   simp[zzx]) λk b g p d=>by
   have i:=Qad b;have o:=zp1 i;rw[<-Qah (h:=b)]at d ⊢;simp only[zzx]at d ⊢;have s:=zu7 e.args[k];rw[zqt,Ev.zz2 (by simpa using b),Ev.yz2 (kz7 b),yz1.kz4,Ev.kz0 (j _ i (by omega)),wI (x:=_+1) (by omega),wI (x:=(p:Int)+_) (by omega)];have m:(k:Int)+1=((k+1:Nat):Int):=by omega
   have l:(p:Int)+(zap e.args[k]:Int)=((p+zap e.args[k]:Nat):Int):=by omega
   rw[m,l,yz1.kz4];refine(g (p+zap e.args[k]) (by omega)).to ?_
   congr 1;omega
 have u:=ygk e.args;exact loop 0 (Qbu _) 1 (by simp;omega)
def yul:∀e:yz1,e.size<=8388608->Ev (λn=>zc5 n e) (zi6 e:Int):=y2q λe i w=>by
 have q:=zbz e;have hlen:=zcq e.args;rw[yiz,yz1.kz4,ygl]
 have loop:∀k,k<=e.args.length->∀p:Nat,p<=8388609->Ev (λn=>z7f n (k:Int) (p:Int) e) ((max p (zmu (e.args.drop k)):Nat):Int) :=
  down (λp j=>by
   rw[zuh,Ev.kz1 (by simp),Ev.yz0]
   simp[zmu]) λk b d p j=>by
   have g:=Qad b;have o:=zp1 g;rw[<-Qah (h:=b)];simp only[zmu];have s:=zu7 e.args[k];have u:=yq0 e.args[k];rw[zuh,Ev.zz2 (by simpa using b),Ev.yz2 (kz7 b),yz1.kz4,Ev.kz0 (i _ g (by omega)),wI (x:=_+1) (by omega),wI (x:=1+_) (by omega)];have m:(k:Int)+1=((k+1:Nat):Int):=by omega
   have l:1+(zi6 e.args[k]:Int)=((1+zi6 e.args[k]:Nat):Int):=by omega
   rw[m,l,yz1.kz4,ybq];refine(d (max p (1+zi6 e.args[k])) (by omega)).to ?_
   congr 1;omega
 exact loop 0 (Qbu _) 1 (by omega)
def zan(op:Int):Int :=
 if op=1∨op=2 then 0 else if (3<=op∧op<=10)∨op=13∨op=14∨op=17 then 2 else if op=11∨op=15∨op=16 then 1 else if op=12 then 3 else if op=18 then -1 else -2
def ops(op:Int):op=1∨op=2∨op=3∨op=4∨op=5∨op=6∨op=7∨op=8∨op=9∨op=10∨op=11∨op=12∨op=13∨op=14∨op=15∨op=16∨op=17∨op=18∨(op<1∨18<op):=by omega
def yt6{op:Int}:Ev (λn=>zee n op) (zan op):=by
 rcases ops op with rfl|rfl|rfl|rfl|rfl|rfl|rfl|rfl|rfl|rfl|rfl|rfl|rfl|rfl|rfl|rfl|rfl|rfl|h
 case inr.inr.inr.inr.inr.inr.inr.inr.inr.inr.inr.inr.inr.inr.inr.inr.inr.inr=>
  have e:zan op = -2:=by unfold zan;rw[Qbx (by omega),Qbx (by omega),Qbx (by omega),Qbx (by omega),Qbx (by omega)]
  rw[e];have n (j:Int) (d:1<=j) (b:j<=18):(op==j)=false:=by simp;omega
  simp[y1j,ztx,ztr,zt5,zur,zup,zuj,Ev.pif,Ev.yz0,n]
 all_goals simp[y1j,ztx,ztr,zt5,zur,zup,zuj,Ev.pif,Ev.yz0,zan]
def yuk{op:Int}:Ev (λn=>zej n op) (zan op):=by
 rcases ops op with rfl|rfl|rfl|rfl|rfl|rfl|rfl|rfl|rfl|rfl|rfl|rfl|rfl|rfl|rfl|rfl|rfl|rfl|h
 case inr.inr.inr.inr.inr.inr.inr.inr.inr.inr.inr.inr.inr.inr.inr.inr.inr.inr=>
  have e:zan op = -2:=by unfold zan;rw[Qbx (by omega),Qbx (by omega),Qbx (by omega),Qbx (by omega),Qbx (by omega)]
  rw[e];have n (j:Int) (i:1<=j) (g:j<=18):(op==j)=false:=by simp;omega
  rw[y27,Ev.kz1 (n 1 (by omega) (by omega)),n 2 (by omega) (by omega),zu8,Ev.kz1 (by rfl)];have b:Ev (λm=>z01 m op false) (-2):=by simp[zsz,zti,Ev.pif,Ev.yz0,n]
  by_cases d:op>=3
  ·rw[Ev.zz2 (by simpa using d),Ev.kz1 (by simp;omega),Ev.kz1 (n 13 (by omega) (by omega)),Ev.kz1 (n 14 (by omega) (by omega)),n 17 (by omega) (by omega)];exact b
  ·rw[Ev.kz1 (by simpa using d),Ev.kz1 (n 13 (by omega) (by omega)),Ev.kz1 (n 14 (by omega) (by omega)),n 17 (by omega) (by omega)];exact b
 all_goals simp[y27,zu8,zsz,zti,Ev.pif,Ev.yz0,zan]
def yph(op:Int)(v:zz1)(b:B8):Bool :=
 if op=1 then y35 v==0&&(v.kind != 4&&b.isEmpty)else if op=2 then zvy b&&eqB v v0 else b.isEmpty&&eqB v v0
def yo5(op:Int)(k:Nat):Bool:=zan op != -2&&(decide (zan op<0)||(k:Int)==zan op)
mutual
def zr6:yz1->Bool
 |⟨op,v,b,l⟩=>yo5 op l.length&&(yph op v b&&zep l)
def zep:kz6->Bool
 |[]=>true
 |x::l=>zr6 x&&zep l
end
def ysn(e:yz1):zr6 e=(yo5 e.op e.args.length&&(yph e.op e.value e.name&&zep e.args)):=by cases e;rw[zr6]
def zam(e:yz1):Int:=if 100<zap e∨12<zi6 e then 4 else if zr6 e then 0 else 8
def yyb{e:yz1}(h:e.wf):e.value.wf:=by rw[yz1.z2h]at h;exact h.2.1
def z038{e:yz1}(h:e.wf):∀x∈e.args,x.wf:=by rw[yz1.z2h]at h;exact h.2.2.2
def y90(s:B8):(!(s==[])) = !s.isEmpty:=by cases s <;> rfl
def yy1:∀e:yz1,e.wf->e.size<=8388608->Ev (λn=>zdt n e) (zr6 e):=y2q λe I F N=>by
 have M:=zbz e;have hlen:=zcq e.args
 have B:∀k,k<=e.args.length->∃i:Int,Ev (λn=>kza n (k:Int) e.args (e.args.length:Int)) i∧decide (i>=0) = !zep (e.args.drop k) :=
  down ⟨-1,by rw[z0k,Ev.kz1 (by simp),Ev.yz0],by simp[zep]⟩ λk d A=>by
   have y:=Qad d;have L:=zp1 y
   have q:Ev (λn=>zd5 n e.args[k]) (!zr6 e.args[k]):=by
    rw[ygr,yz1.kz4,Ev.kz0 (I _ y (z038 F _ y) (by omega)),Ev.yz0]
   have⟨i,j,l⟩:=A;rw[<-Qah (h:=d),zep];cases G:zr6 e.args[k]
   ·refine⟨k,?_,by simp⟩;rw[z0k,Ev.zz2 (by simpa using d),Ev.yz2 (kz7 d),yz1.kz4,Ev.kz0 q,Ev.zz2 (by rw[G];rfl),Ev.yz0]
   ·refine⟨i,?_,by rw[l];rfl⟩;rw[z0k,Ev.zz2 (by simpa using d),Ev.yz2 (kz7 d),yz1.kz4,Ev.kz0 q,Ev.kz1 (by rw[G];rfl),wrk (by omega)];exact j
 have s:Ev (λn=>z6h n e) (zep e.args):=by
  have⟨i,j,l⟩:=B 0 (Qbu _);have K:Ev (λn=>zzj n e.args) i:=by rw[zeq];exact j
  have m:Ev (λn=>zzf n e.args) (!zep e.args):=by
   rw[zdg,Ev.kz0 K,Ev.yz0,l];rfl
  rw[yak,Ev.kz0 m,Ev.yz0,Bool.not_not]
 have u:∀b,Ev (λn=>z6g n b e) (!b&&zep e.args):=λb=>by
  rw[yba];cases b
  ·rw[Ev.kz1 (by rfl),yz1.kz4];exact s
  ·rw[Ev.zz2 (by rfl),Ev.yz0];rfl
 have E:∀b,Ev (λn=>z9l n b e) (!b&&zep e.args):=λb=>by
  rw[ya9];cases b
  ·rw[Ev.kz1 (by rfl),yz1.kz4];exact s
  ·rw[Ev.zz2 (by rfl),Ev.yz0];rfl
 have D:∀b,Ev (λn=>z9o n b e) (!b&&zep e.args):=λb=>by
  rw[yah];cases b
  ·rw[Ev.kz1 (by rfl),yz1.kz4];exact s
  ·rw[Ev.zz2 (by rfl),Ev.yz0];rfl
 have w:∀b,Ev (λn=>z6f n b e) (!b&&(yph e.op e.value e.name&&zep e.args)):=λb=>by
  rw[y9s];cases b
  case true=>rw[Ev.zz2 (by rfl),Ev.yz0];rfl
  rw[Ev.kz1 (by rfl)];have g:Ev (λn=>z3l n e.value (zz1.mk 0 (yz6.mk 0 0) false [] [])) (eqB e.value v0):=yd1 e.value v0 (by omega);by_cases j:e.op=1
  ·rw[Ev.zz2 (by simpa using j),zz1.kz4,Ev.kz0 (ypo (yyb F) (by omega)),yz1.kz4,y90];simp only[yph,Qbw j];by_cases m:y35 e.value=0
   ·rw[Ev.kz1 (by simpa using m)];by_cases d:e.value.kind=4
    ·rw[Ev.zz2 (by simpa using d)];refine(u true).to ?_;simp[m,d]
    ·rw[Ev.kz1 (by simpa using d)];have C:(e.value.kind != 4)=true:=by simpa using d
     refine(u _).to ?_;simp[m,C]
   ·rw[Ev.zz2 (by simpa using m)];refine(u true).to ?_;simp[m]
  rw[Ev.kz1 (by simpa using j)];by_cases l:e.op=2
  ·rw[Ev.zz2 (by simpa using l),Ev.kz0 (ytg (by omega)),zz1.kz4,yz1.kz4];simp only[yph,Qbx j,Qbw l];cases J:zvy e.name
   ·rw[Ev.zz2 (by rfl)];exact(E true).to (by simp)
   ·rw[Ev.kz1 (by rfl),Ev.kz0 g];exact(E _).to (by simp)
  ·rw[Ev.kz1 (by simpa using l),y90,zz1.kz4,yz1.kz4];simp only[yph,Qbx j,Qbx l];cases J:e.name.isEmpty
   ·rw[Ev.zz2 (by rfl)];exact(D true).to (by simp)
   ·rw[Ev.kz1 (by rfl),Ev.kz0 g];exact(D _).to (by simp)
 rw[ynz,Ev.kz0 yt6,ysn,yz1.kz4];unfold yo5;by_cases o:zan e.op = -2
 ·rw[Ev.zz2 (by simpa using o)];exact(w true).to (by simp[o])
 rw[Ev.kz1 (by simpa using o)];by_cases z:zan e.op>=0
 ·rw[Ev.zz2 (by simpa using z)];refine(w _).to ?_;rw[show decide (zan e.op<0)=false by simpa using z,show(zan e.op != -2)=true by simpa using o];simp only[bne,Bool.not_not,Bool.true_and,Bool.false_or]
 ·rw[Ev.kz1 (by simpa using z)];refine(w _).to ?_;rw[show decide (zan e.op<0)=true by simp;omega,show(zan e.op != -2)=true by simpa using o];simp
def yv0:∀e:yz1,e.size<=8388608->Ev (λn=>zcb n e) (zr6 e):=y2q λe B E=>by
 have D:=zbz e;have hlen:=zcq e.args
 have loop:∀k,k<=e.args.length->Ev (λn=>z77 n (k:Int) e) (zep (e.args.drop k)) :=
  down (by rw[zv0,Ev.kz1 (by simp),Ev.yz0];simp[zep]) λk d w=>by
   have A:=Qad d;have C:=zp1 A;rw[<-Qah (h:=d),zep];rw[zv0,Ev.zz2 (by simpa using d),Ev.yz2 (kz7 d),yz1.kz4,Ev.kz0 (B _ A (by omega))];cases G:zr6 e.args[k]
   ·rw[Ev.zz2 (by rfl),Ev.yz0];rfl
   ·rw[Ev.kz1 (by rfl),wrk (by omega),yz1.kz4,Bool.true_and];exact w
 have q:∀b,Ev (λn=>z14 n b e) (!b&&zep e.args):=λb=>by
  rw[y7m];cases b
  ·rw[Ev.kz1 (by rfl),yz1.kz4];exact loop 0 (Qbu _)
  ·rw[Ev.zz2 (by rfl),Ev.yz0];rfl
 have z:decide ((e.name.length:Int)>0) = !e.name.isEmpty:=by cases e.name <;> simp
 have o:∀b,Ev (λn=>z0f n b e) (!b&&((if e.op=2 then zvy e.name else e.name.isEmpty)&&zep e.args)):=λb=>by
  rw[y79];cases b
  case true=>rw[Ev.zz2 (by rfl),Ev.yz0];rfl
  rw[Ev.kz1 (by rfl),yz1.kz4,z];by_cases j:e.op=2
  ·rw[Ev.zz2 (by simpa using j),Qbw j,Ev.kz0 (yrc (by omega))];cases F:zvy e.name
   ·rw[Ev.zz2 (by rfl)];exact(q true).to (by simp)
   ·rw[Ev.kz1 (by rfl),Ev.kz1 (by simpa using j)];exact(q false).to (by simp)
  ·rw[Ev.kz1 (by simpa using j),Ev.zz2 (by simpa using j),Qbx j];exact(q _).to (by simp)
 have s:∀b,Ev (λn=>z4i n b e) (!b&&(yph e.op e.value e.name&&zep e.args)):=λb=>by
  rw[y7y];cases b
  case true=>rw[Ev.zz2 (by rfl),Ev.yz0];rfl
  rw[Ev.kz1 (by rfl),zz1.kz4,yz1.kz4];have i:Ev (λn=>z3g n e.value (zz1.mk 0 (yz6.mk 0 0) false [] [])) (eqB e.value v0):=yu3 e.value v0 (by omega);by_cases g:e.op=1
  ·rw[Ev.zz2 (by simpa using g),Ev.kz0 (ys0 (by omega))];simp only[yph,Qbw g];by_cases l:y35 e.value=0
   ·rw[Ev.kz1 (by simpa using l)];by_cases d:e.value.kind=4
    ·rw[Ev.zz2 (by simpa using d)];refine(o true).to ?_;simp[l,d]
    ·rw[Ev.kz1 (by simpa using d),Ev.kz1 (by simpa using g)];have y:(e.value.kind != 4)=true:=by simpa using d
     refine(o _).to ?_;simp[l,y,g]
   ·rw[Ev.zz2 (by simpa using l)];refine(o true).to ?_;simp[l]
  ·rw[Ev.kz1 (by simpa using g),Ev.zz2 (by simpa using g),Ev.kz0 i];refine(o _).to ?_;simp only[yph,Qbx g];split
   ·cases eqB e.value v0 <;> cases zvy e.name <;> simp
   ·cases eqB e.value v0 <;> cases e.name.isEmpty <;> simp
 rw[yhk,Ev.kz0 yuk,ysn,yz1.kz4];unfold yo5;by_cases m:zan e.op = -2
 ·rw[Ev.zz2 (by simpa using m)];exact(s true).to (by simp[m])
 rw[Ev.kz1 (by simpa using m)];by_cases u:zan e.op>=0
 ·rw[Ev.zz2 (by simpa using u)];refine(s _).to ?_;rw[show decide (zan e.op<0)=false by simpa using u,show(zan e.op != -2)=true by simpa using m];simp only[bne,Bool.not_not,Bool.true_and,Bool.false_or]
 ·rw[Ev.kz1 (by simpa using u)];refine(s _).to ?_;rw[show decide (zan e.op<0)=true by simp;omega,show(zan e.op != -2)=true by simpa using m];simp
def zvd{e:yz1}(h:e.wf)(g:e.size<=8388608):Ev (λn=>z3o n e) (zam e):=by
 have d:∀b,Ev (λn=>z6z n b e) (if b then 4 else if zr6 e then 0 else 8):=λb=>by
  rw[y8h];cases b
  ·rw[Ev.kz1 (by rfl),yz1.kz4,Ev.kz0 (yy1 e h g)];cases zr6 e
   ·rw[Ev.zz2 (by rfl),Ev.yz0];rfl
   ·rw[Ev.kz1 (by rfl),Ev.yz0];rfl
  ·rw[Ev.zz2 (by rfl),Ev.yz0];rfl
 rw[yie,yz1.kz4,Ev.kz0 (yp4 e g)];unfold zam;simp only[Ev.pif];by_cases j:100<zap e
 ·rw[Qbw (by simp;omega),Qbw (.inl j)];exact d true
 ·rw[Qbx (by simp;omega)];by_cases i:12<zi6 e
  ·rw[Qbw (.inr i),show decide ((zi6 e:Int)>12)=true by simp;omega];exact d true
  ·rw[Qbx (by omega),show decide ((zi6 e:Int)>12)=false by simp;omega];exact d false
def zjc{e:yz1}(g:e.size<=8388608):Ev (λn=>z2a n e) (zam e):=by
 have d:∀b,Ev (λn=>z5l n b e) (if b then 4 else if zr6 e then 0 else 8):=λb=>by
  rw[y5i];cases b
  ·rw[Ev.kz1 (by rfl),yz1.kz4,Ev.kz0 (yv0 e g)];cases zr6 e
   ·rw[Ev.zz2 (by rfl),Ev.yz0];rfl
   ·rw[Ev.kz1 (by rfl),Ev.yz0];rfl
  ·rw[Ev.zz2 (by rfl),Ev.yz0];rfl
 rw[yfr,yz1.kz4,Ev.kz0 (y8u e g)];unfold zam;by_cases i:100<zap e
 ·rw[Ev.zz2 (by simp;omega),Qbw (.inl i)];exact d true
 ·rw[Ev.kz1 (by simp;omega),Ev.kz0 (yul e g)];by_cases h:12<zi6 e
  ·rw[Qbw (.inr h),show decide ((zi6 e:Int)>12)=true by simp;omega];exact d true
  ·rw[Qbx (by omega),show decide ((zi6 e:Int)>12)=false by simp;omega];exact d false
def y8q{e:yz1}(h:zam e=0):zr6 e=true∧zap e<=100∧zi6 e<=12:=by
 unfold zam at h;split at h
 ·cases h
 ·split at h
  ·exact⟨‹_›,by omega,by omega⟩
  ·cases h
def yqu:∀e:yz1,e.size<=8388608->∀d:Int,∃b,Ev (λn=>zas n e d) b:=y2q λe o y d=>by
 have w:=zbz e;have hlen:=zcq e.args
 have loop:∀k,k<=e.args.length->∀d:Int,∃b,Ev (λn=>z5u n (k:Int) d e) b :=
  down (λd=>⟨false,by rw[zr9,Ev.kz1 (by simp),Ev.yz0]⟩) λk i l d=>by
   have m:=Qad i;have u:=zp1 m;have⟨b,s⟩:=o _ m (by omega) (IntKind.i64.wrap (d-1));have⟨c,j⟩:=l d;refine⟨if b then true else c,?_⟩;rw[zr9,Ev.zz2 (by simpa using i),Ev.yz2 (kz7 i),yz1.kz4,Ev.kz0 s,yz1.kz4,wrk (by omega)];cases b
   ·rw[Ev.kz1 (by rfl)];exact j
   ·rw[Ev.zz2 (by rfl),Ev.yz0];rfl
 have h:∀d b,∃c,Ev (λn=>z1l n d b e) c:=λd b=>by
  cases b
  ·have⟨c,j⟩:=loop 0 (Qbu _) d;exact⟨c,by rw[zq4,Ev.kz1 (by rfl),yz1.kz4];exact j⟩
  ·exact⟨true,by rw[zq4,Ev.zz2 (by rfl),Ev.yz0]⟩
 have⟨g,q⟩:=yss (v:=e.value) (by omega);simp only[yfw,yz1.kz4,zz1.kz4,Ev.pif,Ev.kz0 q];split
 ·exact h _ _
 split
 ·exact h _ _
 split
 ·exact h _ _
 ·exact h _ _
def zq7{e:yz1}(d:e.size<=8388608):∃b,Ev (λn=>z63 n e) b:=by
 have⟨b,g⟩:=yqu e d 16;cases b
 ·exact⟨_,by rw[zyz,yz1.kz4,Ev.kz0 g,Ev.kz1 (by rfl),Ev.kz0 (y8u e d)];exact Ev.yz0.2 rfl⟩
 ·exact⟨true,by rw[zyz,yz1.kz4,Ev.kz0 g,Ev.zz2 (by rfl),Ev.yz0]⟩
def zyn(l:kz6):l.length<=zzx l:=by
 induction l with
 |nil=>simp
 |cons x l b=>have:=zen x;simp[zzx];omega
mutual
def zoa:yz1->List B8->List B8
 |⟨op,_,d,l⟩,b=>zds l (if op=2∧d∉b then b++[d]else b)
def zds:kz6->List B8->List B8
 |[],b=>b
 |x::l,b=>zds l (zoa x b)
end
def y6q(e:yz1)(b:List B8):zoa e b=zds e.args (if e.op=2∧e.name∉b then b++[e.name]else b):=by cases e;rw[zoa]
mutual
def ztm:yz1->List B8->List B8
 |⟨op,_,d,l⟩,b=>zdw l (if op=2 then ins b d else b)
def zdw:kz6->List B8->List B8
 |[],b=>b
 |x::l,b=>zdw l (ztm x b)
end
def ycx(e:yz1)(b:List B8):ztm e b=zdw e.args (if e.op=2 then ins b e.name else b):=by cases e;rw[ztm]
def yqv:∀(e:yz1) (a b:List B8),a.Nodup->zhh b->(∀x,x∈a↔x∈b)->(zoa e a).Nodup∧zhh (ztm e b)∧(∀x,x∈zoa e a↔x∈ztm e b)∧(zoa e a).length<=a.length+zap e∧(ztm e b).length<=b.length+zap e:=y2q λe B a b m k d=>by
 have w:∀(l:kz6),(∀x∈l,x∈e.args)->∀a b:List B8,a.Nodup->zhh b->(∀x,x∈a↔x∈b)->(zds l a).Nodup∧zhh (zdw l b)∧(∀x,x∈zds l a↔x∈zdw l b)∧(zds l a).length<=a.length+zzx l∧(zdw l b).length<=b.length+zzx l:=λl=>by
  induction l with
  |nil=>intro _ a b m k d;simp only[zds,zdw,zzx];exact⟨m,k,d,Qbv _,Qbv _⟩
  |cons x l z=>
   intro A a b m k d;have⟨E,n,D,G,F⟩:=B x (A x Qak) a b m k d;have⟨j,i,g,o,s⟩:=z (λy u=>A y (Qai _ u)) _ _ E n D;simp only[zds,zdw,zzx];exact⟨j,i,g,by omega,by omega⟩
 rw[y6q,ycx,zen];by_cases n:e.op=2
 ·rw[Qbw n];by_cases q:e.name∈a
  ·rw[Qbx (by simp[q])]
   have⟨j,i,g,o,s⟩:=w e.args (λ_ h=>h) a (ins b e.name) m (zv6 k) (λx=>by
    rw[y5p,<-d]
    exact⟨.inl,λh=>h.elim id λh=>by rw[h];exact q⟩)
   have:=y5n e.name b;exact⟨j,i,g,by omega,by omega⟩
  ·rw[Qbw ⟨n,q⟩]
   have⟨j,i,g,o,s⟩:=w e.args (λ_ h=>h) (a++[e.name]) (ins b e.name) (by
    rw[List.nodup_append];refine⟨m,by simp,λx C y u =>?_⟩
    rw[Qbc.1 u];intro h;subst h;exact q C) (zv6 k) (λx=>by
    rw[y5p,<-d,Qbb,Qbc])
   have:=y5n e.name b;rw[Qap,List.length_singleton]at o;exact⟨j,i,g,by omega,by omega⟩
 ·rw[Qbx n,Qbx (λh=>n h.1)];have⟨j,i,g,o,s⟩:=w e.args (λ_ h=>h) a b m k d;exact⟨j,i,g,by omega,by omega⟩
def ypv(e:yz1):yzm (zoa e [])=ztm e []:=by
 have⟨g,d,b,_⟩:=yqv e [] [] (by simp) (by simp[zhh]) (by simp);exact zi7 (zdn g) d λx=>by rw[(z2z _).mem_iff,b]
def yey:∀(e:yz1) (a:List B8),(zoa e a).length<=a.length+zap e:=y2q λe g a=>by
 have j:∀(l:kz6),(∀x∈l,x∈e.args)->∀a:List B8,(zds l a).length<=a.length+zzx l:=λl=>by
  induction l with
  |nil=>intro _ a;simp[zds,zzx]
  |cons x l b=>
   intro d a;have m:=g x (d x Qak) a;have k:=b (λy i=>d y (Qai _ i)) (zoa x a);simp only[zds,zzx];omega
 rw[y6q,zen];have:=j e.args (λ_ h=>h) (if e.op=2∧e.name∉a then a++[e.name]else a);have k:(if e.op=2∧e.name∉a then a++[e.name]else a).length<=a.length+1:=by split <;> simp
 omega
def ykz:∀(e:yz1) (a:List B8),(ztm e a).length<=a.length+zap e:=y2q λe g a=>by
 have j:∀(l:kz6),(∀x∈l,x∈e.args)->∀a:List B8,(zdw l a).length<=a.length+zzx l:=λl=>by
  induction l with
  |nil=>intro _ a;simp[zdw,zzx]
  |cons x l b=>
   intro d a;have n:=g x (d x Qak) a;have m:=b (λy i=>d y (Qai _ i)) (ztm x a);simp only[zdw,zzx];omega
 rw[ycx,zen];have k:=y5n e.name a;have:=j e.args (λ_ h=>h) (if e.op=2 then ins a e.name else a);split at this
 ·rename_i h;rw[Qbw h];omega
 ·rename_i h;rw[Qbx h];omega
def yx7{l:List B8}(o:l.length<=8388608){s:B8}:∃i:Int,Ev (λn=>yzt n s l) (i,l)∧decide (i>=0)=decide (s∈l):=by
 have loop:∀k,k<=l.length->∃i:Int,Ev (λn=>kzk n (k:Int) s (l.length:Int) l) (i,l)∧decide (i>=0)=decide (s∈l.drop k) :=
  down ⟨-1,by rw[z3i,Ev.kz1 (by simp),Ev.yz0],by simp⟩ λk b m=>by
   have⟨i,j,g⟩:=m;by_cases d:s=l[k]
   ·refine⟨k,?_,?_⟩
    ·rw[z3i,Ev.zz2 (by simpa using b),Ev.yz2 (kz7 b),Ev.zz2 (by simpa using d),Ev.yz0]
    ·have:s∈l.drop k:=by rw[<-Qah (h:=b),d];exact Qak
     simp[this]
   ·refine⟨i,?_,?_⟩
    ·rw[z3i,Ev.zz2 (by simpa using b),Ev.yz2 (kz7 b),Ev.kz1 (by simpa using d),wrk (by omega)];exact j
    ·rw[g]
     have:(s∈l.drop k)↔(s∈l.drop (k+1)):=by
      rw[<-Qah (h:=b),Qbl];exact⟨λh=>h.elim (λh=>(d h).elim) id,.inr⟩
     exact decide_eq_decide.2 this.symm
 have⟨i,j,g⟩:=loop 0 (Qbu _);exact⟨i,by rw[zk9];exact j,by simpa using g⟩
def yve:∀(e:yz1) (b:List B8),b.length+zap e<=8388608->Ev (λn=>zc3 n e b) (zoa e b):=y2q λe u b d=>by
 rw[zen]at d
 have loop:∀k,k<=e.args.length->∀b:List B8,b.length+zzx (e.args.drop k)<=8388608->Ev (λn=>z7u n (k:Int) e.args (e.args.length:Int) b) (zds (e.args.drop k) b) :=
  down (λb d=>by rw[zte,Ev.kz1 (by simp),Ev.yz0];simp[zds]) λk j q b d=>by
   have w:=Qad j;have hlen:=zyn e.args;rw[<-Qah (h:=j)]at d ⊢;simp only[zds,zzx]at d ⊢;have:=yey e.args[k] b
   have B:k<=8388609:=by
    have:=zyn e.args;omega
   rw[zte,Ev.zz2 (by simpa using j),Ev.yz2 (kz7 j),yz1.kz4,Ev.kz0 (u _ w _ (by omega)),wrk (by omega)];exact q _ (by omega)
 have o:∀b:List B8,b.length+zzx e.args<=8388608->Ev (λn=>z7h n b e) (zds e.args b):=λb d=>by
  rw[y78];simpa using loop 0 (Qbu _) b (by simpa using d)
 rw[yit,y6q];by_cases m:e.op=2
 ·have⟨i,A,z⟩:=yx7 (l:=b) (by omega) (s:=e.name)
  have y:Ev (λn=>kzp n e.name b) (decide (e.name∈b),b):=by
   rw[zia,Ev.kz0 A,Ev.yz0,z]
  rw[Ev.zz2 (by simpa using m),Ev.kz0 y,yz1.kz4,zua];by_cases g:e.name∈b
  ·rw[Ev.kz1 (by simpa using g),Qbx (by simp[g]),yz1.kz4];exact o b (by omega)
  ·rw[Ev.zz2 (by simpa using g),Qbw ⟨m,g⟩,Ev.yz2 (z69 (by simp;omega)),yz1.kz4];exact o _ (by simp;omega)
 ·rw[Ev.kz1 (by simpa using m),Qbx (λh=>m h.1),yz1.kz4,zua,Ev.kz1 (by rfl),yz1.kz4];exact o _ (by omega)
def ytb{α:Type}{p:α->Bool}:∀{l:List α},(∀x∈l,p x=true)->l.takeWhile p=l∧l.dropWhile p=[]
 |[],_=>⟨rfl,rfl⟩
 |x::l,h=>by
  have b:=h x Qak;have⟨i,g⟩:=ytb (l:=l) λy d=>h y (Qai _ d)
  rw[List.takeWhile_cons_of_pos b,List.dropWhile_cons_of_pos b,i,g];exact⟨rfl,rfl⟩
def yx4{l:List B8}{k:Nat}(d:k<=l.length)(s:B8) :
  y3p (l++[[]]) ((k+1:Nat):Int) (k:Int)=some (l.take k++[(l++[[]])[k]'(by simp;omega)]++l.drop k)∧((l.take k++[(l++[[]])[k]'(by simp;omega)]++l.drop k).set k s=l.take k++s::l.drop k):=by
 constructor
 ·unfold y3p;rw[Qbw (by simp;omega)]
  congr 1
  have o:((k+1:Nat):Int).toNat=k+1:=by simp
  have n:((k:Nat):Int).toNat=k:=by simp
  rw[o,n];have m:min ((l++[[]]).length-k) ((l++[[]]).length-(k+1))=l.length-k:=by simp;omega
  rw[m,show k+1+(l.length-k)=l.length+1 by omega];have j:(l++[[]]).drop (l.length+1)=[]:=List.drop_of_length_le (by simp)
  have i:((l++[[]]).drop k).take (l.length-k)=l.drop k:=by
   rw[List.drop_append_of_le_length d,List.take_append_of_le_length (by simp),List.take_of_length_le (by simp)]
  have h:(l++[[]]).take (k+1)=l.take k++[(l++[[]])[k]'(by simp;omega)]:=by
   have b:k<(l++[[]]).length:=by simp;omega
   rw[<-zic b,List.take_append_of_le_length d]
  rw[j,i,h,List.append_nil]
 ·have g:(l.take k).length=k:=by simp;omega
  rw[Qaz,List.set_append,Qbx (by omega),g,Nat.sub_self];rfl
def ytk:∀(e:yz1) (b:List B8),b.length+zap e<=8388608->Ev (λn=>zce n e b) (ztm e b):=y2q λe E b l=>by
 rw[zen]at l
 have loop:∀k,k<=e.args.length->∀b:List B8,b.length+zzx (e.args.drop k)<=8388608->Ev (λn=>z80 n (k:Int) b e) (zdw (e.args.drop k) b) :=
  down (λb l=>by rw[zu3,Ev.kz1 (by simp),Ev.yz0];simp[zdw]) λk j q b l=>by
   have z:=Qad j;have hlen:=zyn e.args;rw[<-Qah (h:=j)]at l ⊢;simp only[zdw,zzx]at l ⊢;have:=ykz e.args[k] b;rw[zu3,Ev.zz2 (by simpa using j),Ev.yz2 (kz7 j),yz1.kz4,Ev.kz0 (E _ z _ (by omega)),wrk (by omega),yz1.kz4];exact q _ (by omega)
 have y:∀b:List B8,b.length+zzx e.args<=8388608->Ev (λn=>z4g n b e) (zdw e.args b):=λb l=>by
  rw[y6n,yz1.kz4];simpa using loop 0 (Qbu _) b (by simpa using l)
 rw[yim,yz1.kz4,ycx];by_cases w:e.op=2
 case neg=>rw[Ev.kz1 (by simpa using w),Qbx w];exact y _ (by omega)
 rw[Ev.zz2 (by simpa using w),Qbw w];have K:=y5n e.name b
 have u:∀k,k<=b.length->b.takeWhile (λx=>Op.bytesLess x e.name)=b.take k->b.dropWhile (λx=>Op.bytesLess x e.name)=b.drop k->Ev (λn=>z71 n (k:Int) false e b) (zdw e.args (ins b e.name)):=λk j F J=>by
  have g:=z03a e.name b;rw[F,J]at g
  have put:ins b e.name=b.take k++e.name::b.drop k->Ev (λn=>z6y n (k:Int) true e b) (zdw e.args (ins b e.name)):=λG=>by
   have⟨D,C⟩:=yx4 j e.name;have z:ext b [[]]=some (b++[[]]):=z69 (by simp;omega);have B:yqn (b++[[]]) ((k+1:Nat):Int)=some ():=by unfold yqn;rw[Qbw (by simp;omega)]
   have A:yqn (b++[[]]) (k:Int)=some ():=by unfold yqn;rw[Qbw (by simp;omega)]
   have I:ix (b.take k++[(b++[[]])[k]'(by simp;omega)]++b.drop k) (k:Int)=some ((b++[[]])[k]'(by simp;omega)):=by
    rw[z023,Qaz,Qav (by simp;omega)];simp[Nat.min_eq_left j]
   rw[zuk,Ev.zz2 (by rfl),Ev.yz2 z,wrk (by omega),Ev.yz2 B,Ev.yz2 A,Ev.yz2 D,Ev.yz2 I,yz1.kz4,Int.toNat_natCast,C,<-G];exact y _ (by omega)
  rw[zt0,Ev.kz1 (by rfl),yz1.kz4];by_cases L:k=b.length
  ·rw[Ev.zz2 (by simp;omega)];exact put (by rw[g,Qbx (by rw[List.drop_of_length_le (by omega)];simp)])
  ·have s:k<b.length:=by omega
   rw[Ev.kz1 (by simp;omega),Ev.yz2 (kz7 s)];have m:(b.drop k).head?=some b[k]:=by rw[<-Qah (h:=s)];rfl
   by_cases o:b[k]=e.name
   ·rw[show(!(b[k]==e.name))=false by simpa using o,zuk,Ev.kz1 (by rfl),yz1.kz4];have:ins b e.name=b:=by rw[g,Qbw (by rw[m,o])]
    rw[this];exact y _ (by omega)
   ·rw[show(!(b[k]==e.name))=true by simpa using o];exact put (by rw[g,Qbx (by rw[m];simpa using o)])
 have place:∀k,k<=b.length->(b.take k).all (λx=>Op.bytesLess x e.name)=true->Ev (λn=>z4k n (k:Int) e b) (zdw e.args (ins b e.name)) :=
  down (Q:=λk=>(b.take k).all (λx=>Op.bytesLess x e.name)=true->Ev (λn=>z4k n (k:Int) e b) (zdw e.args (ins b e.name))) (λd=>by
   rw[List.take_length]at d;rw[Qat]at d;rw[ztz,Ev.kz1 (by simp),yz1.kz4];refine u _ (Qbv _) ?_ ?_
   ·rw[List.take_length];exact(ytb d).1
   ·rw[List.drop_length];exact(ytb d).2) λk j q d=>by
   have i:b=b.take k++b.drop k:=(List.take_append_drop k b).symm;rw[ztz,Ev.zz2 (by simpa using j),Ev.yz2 (kz7 j),yz1.kz4];cases l:Op.bytesLess b[k] e.name
   ·rw[Qat]at d;refine u k (by omega) ?_ ?_
    ·conv=>lhs;rw[i]
     rw[List.takeWhile_append_of_pos d,<-Qah (h:=j),List.takeWhile_cons_of_neg (by simp[l]),List.append_nil]
    ·conv=>lhs;rw[i]
     rw[List.dropWhile_append_of_pos d,<-Qah (h:=j),List.dropWhile_cons_of_neg (by simp[l])]
   ·rw[zt0,Ev.zz2 (by rfl),wrk (by omega),yz1.kz4];refine q ?_;rw[<-zic j,List.all_append,d];simp[l]
 exact place 0 (Qbu _) (by simp)
def zar(e:yz1):List B8×Int:=if zam e≠0 then ([],zam e)else (ztm e [],0)
def yek{e:yz1}(g:e.wf)(h:e.size<=8388608):Ev (λn=>zc0 n e) (zar e):=by
 rw[yjy,yz1.kz4,Ev.kz0 (zvd g h)];unfold zar;by_cases d:zam e=0
 case neg=>rw[Ev.zz2 (by simpa using d),Ev.yz0,Qbw d]
 have⟨_,j,_⟩:=y8q d;have i:=yey e []
 have b:Ev (λn=>zzp n (zoa e [])) (ztm e []):=by
  refine .same (λn =>?_) (.pure rfl);unfold zzp;rw[Qbw (by simp at i;omega),zys,ypv]
 rw[Ev.kz1 (by simpa using d),Qbx (by simpa using d),Ev.kz0 (yve e [] (by simp;omega)),Ev.kz0 b,Ev.yz0]
def ysp{e:yz1}(d:e.size<=8388608):Ev (λn=>zcv n e) (zar e):=by
 rw[yem,yz1.kz4,Ev.kz0 (zjc d)];unfold zar;by_cases b:zam e=0
 case neg=>rw[Ev.zz2 (by simpa using b),Ev.kz0 (zjc d),Ev.yz0,Qbw b]
 have⟨_,g,_⟩:=y8q b;rw[Ev.kz1 (by simpa using b),Qbx (by simpa using b),Ev.kz0 (ytk e [] (by simp;omega)),Ev.yz0]
def zw6{α:Type}{f:α->Nat}:∀{l:List α}{x:α},x∈l->f x<=(l.map f).sum
 |y::l,x,h=>by
  simp only[List.map_cons,List.sum_cons]
  rcases Qbl.1 h with h|h
  ·subst h;omega
  ·have:=zw6 (f:=f) h;omega
def zw1{α:Type}{f:α->Nat}(b:∀x,1<=f x):∀l:List α,l.length<=(l.map f).sum
 |[]=>by simp
 |x::l=>by have:=zw1 b l;have:=b x;simp only[List.length_cons,List.map_cons,List.sum_cons];omega
def zft(l:kz6):yz1:=⟨18,⟨0,⟨0,0⟩,false,[],[]⟩,[],l⟩
def zpb(l:kz6):(zft l).size=(l.map yz1.size).sum+12:=by
 rw[yz1.size_eq];show 1+zz1.size _+0+1+((l.map yz1.size).sum+1)+1=_;rw[zz1.size_eq];show 1+(1+(1+1+1)+1+(0+1)+(0+1)+1)+0+1+((l.map yz1.size).sum+1)+1=_;omega
def yqk{l:kz6}(h:∀x∈l,x.wf):(zft l).wf:=by
 rw[yz1.z2h];refine⟨by show(IntKind.u8.min<=18∧18<=IntKind.u8.max);decide,?_,trivial,h⟩;rw[zz1.z2h];refine⟨by show(IntKind.u8.min<=0∧0<=IntKind.u8.max);decide,?_,trivial,trivial,by simp[zft]⟩;rw[yz6.z2h];exact⟨by show(IntKind.i64.min<=0∧0<=IntKind.i64.max);decide,by show(IntKind.i64.min<=0∧0<=IntKind.i64.max);decide⟩
section
variable {p:zz0}{t:zz9}{r:kz3}{c:yz5}{a:zz3}{x:kzb}{e:yz1}
def y2o(h:t∈p.attrs):t.size+2<=p.size:=by have:=zw6 (f:=zz9.size) h;rw[zz0.size_eq];omega
def zn2(h:r∈p.rules):r.size+2<=p.size:=by have:=zw6 (f:=kz3.size) h;rw[zz0.size_eq];omega
def y2b:t.value.size+t.name.length+2<=t.size:=by rw[zz9.size_eq];omega
def zwf(h:c∈r.cases):c.size+2<=r.size:=by have:=zw6 (f:=yz5.size) h;rw[kz3.size_eq];omega
def z00e:r.name.length+2<=r.size:=by rw[kz3.size_eq];omega
def z05i{s:B8}(h:s∈r.params):s.length+2<=r.size:=by have:=zw6 (f:=λs:B8=>s.length+1) h;rw[kz3.size_eq];omega
def yl0:c.when_.size+2<=c.size:=by rw[yz5.size_eq];omega
def y1s(h:a∈c.do_):a.size+2<=c.size:=by have:=zw6 (f:=zz3.size) h;rw[yz5.size_eq];omega
def z05f:a.name.length+2<=a.size:=by rw[zz3.size_eq];omega
def yl9:(a.args.map yz1.size).sum+5<=a.size:=by rw[zz3.size_eq];omega
def ye1(h:x∈a.items):x.size+2<=a.size:=by have:=zw6 (f:=kzb.size) h;rw[zz3.size_eq];omega
def z05h:x.name.length+2<=x.size:=by rw[kzb.size_eq];omega
def ykd:(x.args.map yz1.size).sum+4<=x.size:=by rw[kzb.size_eq];omega
def zl0:p.attrs.length<=p.size:=by have:=zw1 (f:=zz9.size) (λx=>by rw[zz9.size_eq];omega) p.attrs;rw[zz0.size_eq];omega
def zfw:p.rules.length<=p.size:=by have:=zw1 (f:=kz3.size) (λx=>by rw[kz3.size_eq];omega) p.rules;rw[zz0.size_eq];omega
def y2k:r.params.length<=r.size:=by have:=zw1 (f:=λs:B8=>s.length+1) (λx=>by omega) r.params;rw[kz3.size_eq];omega
def zxs:r.cases.length<=r.size:=by have:=zw1 (f:=yz5.size) (λx=>by rw[yz5.size_eq];omega) r.cases;rw[kz3.size_eq];omega
def zxt:c.do_.length<=c.size:=by have:=zw1 (f:=zz3.size) (λx=>by rw[zz3.size_eq];omega) c.do_;rw[yz5.size_eq];omega
def y4h:a.items.length<=a.size:=by have:=zw1 (f:=kzb.size) (λx=>by rw[kzb.size_eq];omega) a.items;rw[zz3.size_eq];omega
def z024:a.args.length<=a.size:=by have:=zcq a.args;have:=@yl9 a;omega
def z00b:x.args.length<=x.size:=by have:=zcq x.args;have:=@ykd x;omega
def yvs(h:p.wf)(b:t∈p.attrs):t.value.wf:=by rw[zz0.z2h]at h;have:=h.1 t b;rw[zz9.z2h]at this;exact this.2
def yro(h:p.wf)(b:r∈p.rules):r.wf:=by rw[zz0.z2h]at h;exact h.2 r b
def ywe(h:r.wf)(b:c∈r.cases):c.wf:=by rw[kz3.z2h]at h;exact h.2.2 c b
def z027(h:c.wf):c.when_.wf:=by rw[yz5.z2h]at h;exact h.2.1
def yvy(h:c.wf)(b:a∈c.do_):a.wf:=by rw[yz5.z2h]at h;exact h.2.2 a b
def z05c(h:a.wf):(0<=a.kind∧a.kind<=255)∧(0<=a.axis∧a.axis<=255):=by rw[zz3.z2h]at h;exact⟨h.1,h.2.1⟩
def wf_aa(h:a.wf):(zft a.args).wf:=by rw[zz3.z2h]at h;exact yqk h.2.2.2.1
def wf_ae(h:a.wf)(b:e∈a.args):e.wf:=by rw[zz3.z2h]at h;exact h.2.2.2.1 e b
def z05d(h:a.wf)(b:x∈a.items):x.wf:=by rw[zz3.z2h]at h;exact h.2.2.2.2 x b
def wf_xa(h:x.wf):(zft x.args).wf:=by rw[kzb.z2h]at h;exact yqk h.2.2
def wf_xe(h:x.wf)(b:e∈x.args):e.wf:=by rw[kzb.z2h]at h;exact h.2.2 e b
end
def z05t{α:Type}{a b:List α}(h:¬a.length=b.length):((a.length:Int) != (b.length:Int))=true:=by simp;omega
def z028{α:Type}{a b:List α}(h:a.length=b.length):((a.length:Int) != (b.length:Int))=false:=by simp;omega
def zje{α:Type}{F:Nat->List α->List α->Option Bool}{L:Nat->Int->List α->List α->Int->Option Bool}{S:Nat->α->α->Option Bool}{a b:List α}
  (u:∀n,F (n+1) a b=pIf ((a.length:Int) != (b.length:Int)) (some false) (L n 0 b a (a.length:Int)))
  (j:∀n (k:Int),L (n+1) k b a (a.length:Int)=pIf (decide (k<(a.length:Int))) ((ix a k).bind λo=>(ix b k).bind λm=>(S n o m).bind λl=>pIf (!l) (some false) (L n (IntKind.i64.wrap (k+1)) b a (a.length:Int))) (some true))
  (w:a.length<=8388608) (s:∀x∈a,∀y,Ev (λn=>S n x y) (eqB x y)):Ev (λn=>F n a b) (eqB a b):=by
 rw[Ev.zjx u];by_cases hlen:a.length=b.length
 case neg=>rw[Ev.zz2 (z05t hlen),Ev.yz0,yzw.2 (λh=>hlen (by rw[h]))]
 rw[Ev.kz1 (z028 hlen)]
 have:=z00p (L:=λn k=>L n k b a (a.length:Int)) (fail:=false) (r:=true) hlen
  (by rw[Ev.zjx (λn=>j n _),Ev.kz1 (by simp),Ev.yz0]) λk d g v q=>by
   rw[Ev.zjx (λn=>j n _),Ev.zz2 (by simpa using d),Ev.yz2 (kz7 d),Ev.yz2 (kz7 g),Ev.kz0 (s _ (Qad d) _)];by_cases i:a[k]=b[k]
   ·rw[i,zgl,Ev.kz1 (by rfl),wrk (by omega)];exact q
   ·rw[yzw.2 i,Ev.zz2 (by rfl),Ev.yz0];rfl
 cases h:eqB a b <;> rw[h]at this <;> exact this
def y7i{α:Type}{L:Nat->Int->List α->Int->Option Int}{S:Nat->α->Option Bool}{l:List α}{p:α->Bool}
  (g:∀n (k:Int),L (n+1) k l (l.length:Int)=pIf (decide (k<(l.length:Int))) ((ix l k).bind λo=>(S n o).bind λm=>pIf m (some k) (L n (IntKind.i64.wrap (k+1)) l (l.length:Int))) (some (-1)))
  (u:l.length<=8388608) (j:∀x∈l,Ev (λn=>S n x) (p x)):∃i:Int,Ev (λn=>L n 0 l (l.length:Int)) i∧decide (i>=0)=l.any p:=by
 have:∀k,k<=l.length->∃i:Int,Ev (λn=>L n (k:Int) l (l.length:Int)) i∧decide (i>=0)=(l.drop k).any p :=
  down ⟨-1,by rw[Ev.zjx (λn=>g n _),Ev.kz1 (by simp),Ev.yz0],by simp⟩ λk b ⟨i,s,q⟩=>by
   cases d:p l[k]with
   |true=>
    refine⟨k,?_,?_⟩
    ·rw[Ev.zjx (λn=>g n _),Ev.zz2 (by simpa using b),Ev.yz2 (kz7 b),Ev.kz0 (j _ (Qad b)),d,Ev.zz2 rfl,Ev.yz0]
    ·rw[<-Qah (h:=b),List.any_cons,d];simp
   |false=>
    refine⟨i,?_,?_⟩
    ·rw[Ev.zjx (λn=>g n _),Ev.zz2 (by simpa using b),Ev.yz2 (kz7 b),Ev.kz0 (j _ (Qad b)),d,Ev.kz1 rfl,wrk (by omega)];exact s
    ·rw[<-Qah (h:=b),List.any_cons,d,q];simp
 simpa using this 0 (Qbu _)
def y0l:∀a b:yz1,a.size<=8388608->Ev (λn=>z2s n a b) (eqB a b):=y2q (P:=λa=>∀b:yz1,a.size<=8388608->Ev (λn=>z2s n a b) (eqB a b)) λa l b s=>by
 have q:=zbz a;have hlen:=zcq a.args;rw[ypc];by_cases i:a.op=b.op
 case neg=>rw[Ev.kz1 (by simpa using i),Ev.yz0,yzw.2 (λh=>i (by rw[h]))]
 rw[Ev.zz2 (by simpa using i)];by_cases g:a.name=b.name
 case neg=>rw[Ev.kz1 (by simpa using g),Ev.yz0,yzw.2 (λh=>g (by rw[h]))]
 rw[Ev.zz2 (by simpa using g),zz1.kz4,zz1.kz4,Ev.kz0 (yd1 _ _ (by omega))];by_cases d:a.value=b.value
 case neg=>rw[yzw.2 d,Ev.kz1 rfl,Ev.yz0,yzw.2 (λh=>d (by rw[h]))]
 rw[d,zgl,Ev.zz2 rfl,Ev.kz0 (zje (S:=λn x y=>z2s n x.re y.re) (λn=>yz8.eq_2 _ _ n) (λn k=>yz7.eq_2 _ _ _ _ n) (by omega) λx j y=>by rw[yz1.kz4,yz1.kz4];exact l x j y (by have:=zp1 j;omega)),Ev.yz0];have⟨C,B,A,o⟩:=a;have⟨z,w,u,m⟩:=b;cases i;cases g;cases d;by_cases h:o=m
 ·cases h;rw[zgl,zgl]
 ·rw[yzw.2 h,yzw.2 (λe=>h (by injection e))]
def y1c{c d:Bool}{A:Nat->Option Bool}(h:c=true->Ev A d):Ev (λn=>pIf c (A n) (some false)) (c&&d):=by
 cases c
 ·exact Ev.pure rfl
 ·exact h rfl
def yme{α:Type}[BEq α][LawfulBEq α](a b:α):(a==b)=eqB a b:=by
 by_cases h:a=b
 ·subst h;simp
 ·rw[yzw.2 h];simpa using h
def y0i{α:Type}{a b:α}{c:Bool}(h:a=b↔c=true):eqB a b=c:=by
 cases c
 ·exact yzw.2 λe=>by simpa using h.1 e
 ·exact z9s.2 (h.2 rfl)
def z04s(a b:zz9):eqB a b=(eqB a.name b.name&&eqB a.value b.value):=y0i (by
 have⟨i,h⟩:=a;have⟨g,d⟩:=b;simp only[zz9.mk.injEq,Qag,z9s])
def z043(a b:kzb):eqB a b=(eqB a.kind b.kind&&(eqB a.name b.name&&eqB a.args b.args)):=y0i (by
 have⟨k,j,i⟩:=a;have⟨h,g,d⟩:=b;simp only[kzb.mk.injEq,Qag,z9s])
def yxy(a b:zz3):eqB a b=(eqB a.kind b.kind&&(eqB a.axis b.axis&&(eqB a.name b.name&&(eqB a.args b.args&&eqB a.items b.items)))):=y0i (by
 have⟨o,n,m,l,k⟩:=a;have⟨j,i,h,g,d⟩:=b;simp only[zz3.mk.injEq,Qag,z9s])
def z04h(a b:yz5):eqB a b=(eqB a.weight b.weight&&(eqB a.when_ b.when_&&eqB a.do_ b.do_)):=y0i (by
 have⟨k,j,i⟩:=a;have⟨h,g,d⟩:=b;simp only[yz5.mk.injEq,Qag,z9s])
def z04z(a b:kz3):eqB a b=(eqB a.name b.name&&(eqB a.params b.params&&eqB a.cases b.cases)):=y0i (by
 have⟨k,j,i⟩:=a;have⟨h,g,d⟩:=b;simp only[kz3.mk.injEq,Qag,z9s])
def z058(a b:zz0):eqB a b=(eqB a.attrs b.attrs&&eqB a.rules b.rules):=y0i (by
 have⟨i,h⟩:=a;have⟨g,d⟩:=b;simp only[zz0.mk.injEq,Qag,z9s])
def ifB(c:Bool):(if c=true then true else false)=c:=by cases c <;> rfl
def yer{a b:kz6}(g:(a.map yz1.size).sum<=8000000):Ev (λn=>z60 n a b) (eqB a b):=by
 have:=zcq a;rw[y59,Ev.kz0 (zje (S:=λn x y=>z2s n x.re y.re) (λn=>yz8.eq_2 _ _ n) (λn k=>yz7.eq_2 _ _ _ _ n) (by omega) λx d y=>by rw[yz1.kz4,yz1.kz4];exact y0l x y (by have:=y03 d;omega)),Ev.yz0]
def yqa{a b:kzb}(d:a.size<=8000000):Ev (λn=>z3z n a b) (eqB a b):=by
 have:=@ykd a;rw[y3y,z043,yme,yme];refine y1c λ_=>y1c λ_ =>?_
 rw[Ev.kz0 (yer (by omega)),Ev.yz0]
def yid{a b:zz3}(g:a.size<=8000000):Ev (λn=>z1u n a b) (eqB a b):=by
 have:=@yl9 a;have:=@y4h a;rw[zxo,yxy,yme,yme,yme];refine y1c λ_=>y1c λ_=>y1c λ_ =>?_
 rw[Ev.kz0 (yer (by omega))];refine y1c λ_ =>?_
 rw[Ev.kz0 (zje (S:=λn x y=>z3z n x y) (λn=>yzj.eq_2 _ _ n) (λn k=>kz9.eq_2 _ _ _ _ n) (by omega) λx d y=>yqa (by have:=ye1 d;omega)),Ev.yz0]
def ys7{a b:yz5}(g:a.size<=8000000):Ev (λn=>z4c n a b) (eqB a b):=by
 have:=@yl0 a;have:=@zxt a;rw[y46,z04h,yme,yz1.kz4,yz1.kz4];refine y1c λ_ =>?_
 rw[Ev.kz0 (y0l _ _ (by omega))];refine y1c λ_ =>?_
 rw[Ev.kz0 (zje (S:=λn x y=>z1u n x y) (λn=>yzc.eq_2 _ _ n) (λn k=>zz8.eq_2 _ _ _ _ n) (by omega) λx d y=>yid (by have:=y1s d;omega)),Ev.yz0]
def yyy{a b:List B8}(g:a.length<=8000000):Ev (λn=>z0o n a b) (eqB a b):=by
 refine zje (S:=λn x y=>some (eqB x y)) (λn=>z0o.eq_2 _ _ n) (λn k =>?_) (by omega) (λx d y=>Ev.pure rfl);rw[z05.eq_2];simp only[yme,Option.bind_some]
def yq6{a b:kz3}(g:a.size<=8000000):Ev (λn=>z98 n a b) (eqB a b):=by
 have:=@y2k a;have:=@zxs a;rw[yab,z04z,yme];refine y1c λ_ =>?_
 rw[Ev.kz0 (yyy (by omega))];refine y1c λ_ =>?_
 rw[Ev.kz0 (zje (S:=λn x y=>z4c n x.re y.re) (λn=>zzk.eq_2 _ _ n) (λn k=>zza.eq_2 _ _ _ _ n) (by omega) λx d y=>by rw[yz5.kz4,yz5.kz4];exact ys7 (by have:=zwf d;omega)),Ev.yz0]
def yqe{a b:zz9}(d:a.size<=8000000):Ev (λn=>z99 n a b) (eqB a b):=by
 have:=@y2b a;rw[yb6,z04s,yme,yz1.kz4,yz1.kz4];refine y1c λ_ =>?_
 rw[Ev.kz0 (y0l _ _ (by omega)),Ev.yz0]
def yv8{a b:zz0}(g:a.size<=8000000):Ev (λn=>zc7 n a b) (eqB a b):=by
 have:=@zl0 a;have:=@zfw a;rw[yip,z058,Ev.kz0 (zje (S:=λn x y=>z99 n x.re y.re) (λn=>yzk.eq_2 _ _ n) (λn k=>yza.eq_2 _ _ _ _ n) (by omega) λx d y=>by rw[zz9.kz4,zz9.kz4];exact yqe (by have:=y2o d;omega))];refine y1c λ_ =>?_
 rw[Ev.kz0 (zje (S:=λn x y=>z98 n x y) (λn=>kzj.eq_2 _ _ n) (λn k=>yz9.eq_2 _ _ _ _ n) (by omega) λx d y=>yq6 (by have:=zn2 d;omega)),Ev.yz0]
def yu4{c:yz5}(E:c.size<=8000000):∃b,Ev (λn=>z7r n c) b:=by
 have:=@yl0 c;have:=@zxt c;have list:∀l:kz6,Ev (λn=>z2g n l) (zft l):=λl=>by rw[y1i,Ev.yz0];rfl
 have y:∃b,Ev (λn=>z0b n 0 c) b:=by
  refine zut (L:=λn k=>z0b n k c) (len:=c.do_.length) ⟨false,by rw[zl5,Ev.kz1 (by simp),Ev.yz0]⟩ λk h v B =>?_
  have C:=Qad h;have D:=y1s C;have:=@yl9 c.do_[k];have:=@y4h c.do_[k]
  have u:∃b,Ev (λn=>z0c n 0 (k:Int) c) b:=by
   refine zut (L:=λn j=>z0c n j (k:Int) c) (len:=c.do_[k].items.length) ⟨v,by rw[zl3,Ev.yz2 (kz7 h),Ev.kz1 (by simp),wrk (by omega),yz5.kz4];exact B⟩ λj m w A =>?_
   have:=ye1 (Qad m);have:=@ykd c.do_[k].items[j]
   have s:∀b,∃d,Ev (λn=>z1h n (k:Int) (j:Int) b c) d:=λb=>by
    cases b
    ·exact⟨w,by rw[zl4,Ev.kz1 (by rfl),wrk (by omega),yz5.kz4];exact A⟩
    ·exact⟨true,by rw[zl4,Ev.zz2 (by rfl),Ev.yz0]⟩
   have⟨g,i⟩:=zq7 (e:=zft c.do_[k].items[j].args) (by rw[zpb];omega);simp only[zl3,Ev.yz2 (kz7 h)];simp only[Ev.zz2 (show decide ((j:Int)<(c.do_[k].items.length:Int))=true by simpa using m),Ev.yz2 (kz7 h),Ev.yz2 (kz7 m),Ev.kz0 (list _),yz1.kz4,yz5.kz4,Ev.kz0 i,Ev.pif];split <;> exact s _
  have q:∀b,∃d,Ev (λn=>z0d n (k:Int) b c) d:=λb=>by
   cases b
   ·have⟨d,o⟩:=u;exact⟨d,by rw[zl1,Ev.kz1 (by rfl),yz5.kz4];exact o⟩
   ·exact⟨true,by rw[zl1,Ev.zz2 (by rfl),Ev.yz0]⟩
  have⟨g,i⟩:=zq7 (e:=zft c.do_[k].args) (by rw[zpb];omega);simp only[zl5,Ev.zz2 (show decide ((k:Int)<(c.do_.length:Int))=true by simpa using h),Ev.yz2 (kz7 h),Ev.kz0 (list _),yz1.kz4,yz5.kz4,Ev.kz0 i,Ev.pif];split
  ·exact q _
  ·split <;> exact q _
 have z:∀b,∃d,Ev (λn=>z1i n b c) d:=λb=>by
  cases b
  ·have⟨d,o⟩:=y;exact⟨d,by rw[zkz,Ev.kz1 (by rfl),yz5.kz4];exact o⟩
  ·exact⟨true,by rw[zkz,Ev.zz2 (by rfl),Ev.yz0]⟩
 have⟨g,i⟩:=zq7 (e:=c.when_) (by omega);simp only[y3c,Ev.pif,yz5.kz4,yz1.kz4,Ev.kz0 i];split <;> exact z _
def great{p:zz0}(E:p.size<=8000000):∃b,Ev (λn=>zct n p) b:=by
 have:=@zl0 p;have:=@zfw p
 have z:∃b,Ev (λn=>z3b n 0 p) b:=by
  refine zut (L:=λn k=>z3b n k p) (len:=p.rules.length) ⟨false,by rw[zrf,Ev.kz1 (by simp),Ev.yz0]⟩ λk h v o =>?_
  have D:=zn2 (Qad h);have:=@y2k p.rules[k];have:=@zxs p.rules[k]
  have u:∃b,Ev (λn=>z35 n 0 (k:Int) p.rules[k] p) b:=by
   refine zut (L:=λn j=>z35 n j (k:Int) p.rules[k] p) (len:=p.rules[k].cases.length) ⟨v,by rw[zqi,Ev.kz1 (by simp),wrk (by omega)];exact o⟩ λj l w m =>?_
   have⟨g,q⟩:=yu4 (c:=p.rules[k].cases[j]) (by have:=zwf (Qad l);omega);simp only[zqi (a:=(j:Int)),Ev.zz2 (show decide ((j:Int)<(p.rules[k].cases.length:Int))=true by simpa using l),Ev.yz2 (kz7 l),yz5.kz4,Ev.kz0 q];simp only[Ev.pif];split
   ·exact⟨true,Ev.pure rfl⟩
   ·exact⟨w,by rw[wrk (by omega)];exact m⟩
  have y:∃b,Ev (λn=>z3f n 0 (k:Int) p.rules[k] p) b:=by
   have⟨d,i⟩:=u;refine zut (L:=λn j=>z3f n j (k:Int) p.rules[k] p) (len:=p.rules[k].params.length) ⟨d,by rw[zq6,Ev.kz1 (by simp)];exact i⟩ λj l w m =>?_
   simp only[zq6 (a:=(j:Int)),Ev.zz2 (show decide ((j:Int)<(p.rules[k].params.length:Int))=true by simpa using l),Ev.yz2 (kz7 l),Ev.pif];split
   ·exact⟨true,Ev.pure rfl⟩
   ·exact⟨w,by rw[wrk (by omega)];exact m⟩
  have s:∀b,∃d,Ev (λn=>z3e n (k:Int) b p.rules[k] p) d:=λb=>by
   cases b
   ·have⟨d,i⟩:=y;exact⟨d,by rw[zrd,Ev.kz1 (by rfl)];exact i⟩
   ·exact⟨true,by rw[zrd,Ev.zz2 (by rfl),Ev.yz0]⟩
  simp only[zrf,Ev.zz2 (show decide ((k:Int)<(p.rules.length:Int))=true by simpa using h),Ev.yz2 (kz7 h),Ev.pif];split
  ·exact s _
  ·split <;> exact s _
 have B:∃b,Ev (λn=>z38 n 0 p) b:=by
  have⟨d,i⟩:=z;refine zut (L:=λn k=>z38 n k p) (len:=p.attrs.length) ⟨d,by rw[zql,Ev.kz1 (by simp)];exact i⟩ λk h v o =>?_
  have:=y2o (Qad h);have:=@y2b p.attrs[k]
  have A:∀b,∃d,Ev (λn=>z5t n (k:Int) b p) d:=λb=>by
   cases b
   ·exact⟨v,by rw[zre,Ev.kz1 (by rfl),wrk (by omega)];exact o⟩
   ·exact⟨true,by rw[zre,Ev.zz2 (by rfl),Ev.yz0]⟩
  have⟨g,q⟩:=zq7 (e:=p.attrs[k].value) (by omega);simp only[zql,Ev.zz2 (show decide ((k:Int)<(p.attrs.length:Int))=true by simpa using h),Ev.yz2 (kz7 h),yz1.kz4,Ev.kz0 q,Ev.pif];split <;> exact A _
 have C:∀b,∃d,Ev (λn=>z6c n b p) d:=λb=>by
  cases b
  ·have⟨d,i⟩:=B;exact⟨d,by rw[zqf,Ev.kz1 (by rfl)];exact i⟩
  ·exact⟨true,by rw[zqf,Ev.zz2 (by rfl),Ev.yz0]⟩
 simp only[yg0,Ev.pif];split <;> exact C _
def y3d(c:yz5):Bool:=decide (10<c.do_.length)||c.do_.any λa=>decide (10<a.items.length)
def y3w(r:kz3):Bool:=decide (4<r.params.length)||(decide (6<r.cases.length)||r.cases.any y3d)
def y64(p:zz0):Bool:=decide (20<p.attrs.length)||(decide (40<p.rules.length)||p.rules.any y3w)
def gt4{k:Nat}:decide ((k:Int)>4)=decide (4<k):=decide_eq_decide.2 (by omega)
def gt6{k:Nat}:decide ((k:Int)>6)=decide (6<k):=decide_eq_decide.2 (by omega)
def gt10{k:Nat}:decide ((k:Int)>10)=decide (10<k):=decide_eq_decide.2 (by omega)
def gt20{k:Nat}:decide ((k:Int)>20)=decide (20<k):=decide_eq_decide.2 (by omega)
def gt40{k:Nat}:decide ((k:Int)>40)=decide (40<k):=decide_eq_decide.2 (by omega)
def orB{c d:Bool}{γ:Type}{x y:γ}:(if (c||d)=true then x else y)=if c=true then x else if d=true then x else y:=by cases c <;> rfl
def yta{p:zz0}(F:p.size<=8000000):Ev (λn=>zei n p) (y64 p):=by
 have:=@zl0 p;have:=@zfw p
 have y:Ev (λn=>z4n n 0 p.rules (p.rules.length:Int)) (if p.rules.any y3w=true then true else false):=by
  refine zly (L:=λn k=>z4n n k p.rules (p.rules.length:Int)) (by rw[zum,Ev.kz1 (by simp),Ev.yz0]) λk d v A =>?_
  have:=zn2 (Qad d);have:=@y2k p.rules[k];have:=@zxs p.rules[k]
  have u:Ev (λn=>z4t n 0 p.rules[k].cases p.rules (p.rules.length:Int) (k:Int) (p.rules[k].cases.length:Int)) (if p.rules[k].cases.any y3d=true then true else v):=by
   refine zly (L:=λn j=>z4t n j p.rules[k].cases p.rules (p.rules.length:Int) (k:Int) (p.rules[k].cases.length:Int)) (by rw[zt1,Ev.kz1 (by simp),wrk (by omega)];exact A) λj g w z =>?_
   have:=zwf (Qad g);have:=@zxt p.rules[k].cases[j]
   have o:∀b,Ev (λn=>z79 n p.rules[k].cases p.rules (p.rules.length:Int) (k:Int) (p.rules[k].cases.length:Int) (j:Int) b) (if b=true then true else w):=λb=>by
    cases b
    ·rw[ztp,Ev.kz1 (by rfl),wrk (by omega)];exact z
    ·rw[ztp,Ev.zz2 (by rfl),Ev.yz0];rfl
   have⟨i,D,C⟩:=y7i (S:=λn x=>zba n x) (l:=p.rules[k].cases[j].do_) (p:=λa=>decide (10<a.items.length)) (L:=λn k l m=>yze n k l m) (λn k=>yze.eq_2 _ _ _ n) (by omega) λx E=>by
    rw[y9r,Ev.yz0];exact gt10
   have B:Ev (λn=>kze n p.rules[k].cases[j].do_) (p.rules[k].cases[j].do_.any λa=>decide (10<a.items.length)):=by
    rw[zcp,Ev.kz0 (by rw[ze6];exact D),Ev.yz0,C]
   rw[zt1,Ev.zz2 (by simpa using g),Ev.yz2 (kz7 g),y3d,orB,Ev.pif,gt10];split
   ·exact o true
   ·rw[Ev.kz0 B];exact o _
  have q:∀b,Ev (λn=>z7v n p.rules (p.rules.length:Int) (k:Int) b p.rules[k]) (if b=true then true else if p.rules[k].cases.any y3d=true then true else v):=λb=>by
   cases b
   ·rw[zt8,Ev.kz1 (by rfl)];exact u
   ·rw[zt8,Ev.zz2 (by rfl),Ev.yz0];rfl
  rw[zum,Ev.zz2 (by simpa using d),Ev.yz2 (kz7 d),y3w,orB,orB,Ev.pif,gt4,gt6];split
  ·exact q true
  ·exact q _
 have s:∀b,Ev (λn=>z7q n b p) (b||p.rules.any y3w):=λb=>by
  cases b
  ·rw[ztq,Ev.kz1 (by rfl),ifB]at *;exact y
  ·rw[ztq,Ev.zz2 (by rfl),Ev.yz0];rfl
 rw[yha,Ev.pif,gt20,gt40,y64];split
 ·rename_i h;rw[h];exact s true
 ·rename_i h;simp only[h,Bool.false_or];exact s _
def yup{p:zz0}(C:p.size<=8000000):Ev (λn=>zed n p) (y64 p):=by
 have:=@zl0 p;have:=@zfw p
 have y:Ev (λn=>z4o n 0 p) (if p.rules.any y3w=true then true else false):=by
  refine zly (L:=λn k=>z4o n k p) (by rw[zu2,Ev.kz1 (by simp),Ev.yz0]) λk g v A =>?_
  have:=zn2 (Qad g);have:=@y2k p.rules[k];have:=@zxs p.rules[k]
  have s:Ev (λn=>z4j n 0 (k:Int) p.rules[k] p) (if p.rules[k].cases.any y3d=true then true else v):=by
   refine zly (L:=λn j=>z4j n j (k:Int) p.rules[k] p) (by rw[zt9,Ev.kz1 (by simp),wrk (by omega)];exact A) λj d w z =>?_
   have:=zwf (Qad d);have:=@zxt p.rules[k].cases[j]
   have q:Ev (λn=>z4p n 0 (j:Int) (k:Int) p.rules[k] p) (if (p.rules[k].cases[j].do_.any λa=>decide (10<a.items.length))=true then true else w):=by
    refine zly (L:=λn i=>z4p n i (j:Int) (k:Int) p.rules[k] p) (by rw[ztt,Ev.yz2 (kz7 d),Ev.kz1 (by simp),wrk (by omega)];exact z) λi o u B =>?_
    rw[ztt,Ev.yz2 (kz7 d),Ev.zz2 (by simpa using o),Ev.yz2 (kz7 d),Ev.yz2 (kz7 o),Ev.pif,gt10,wrk (by omega),Ev.yz0];split
    ·rfl
    ·exact B
   rw[zt9,Ev.zz2 (by simpa using d),Ev.yz2 (kz7 d),y3d,orB,Ev.pif,gt10];split
   ·exact Ev.pure rfl
   ·exact q
  have l:∀b,Ev (λn=>z7p n (k:Int) b p.rules[k] p) (if b=true then true else if p.rules[k].cases.any y3d=true then true else v):=λb=>by
   cases b
   ·rw[zuf,Ev.kz1 (by rfl)];exact s
   ·rw[zuf,Ev.zz2 (by rfl),Ev.yz0];rfl
  rw[zu2,Ev.zz2 (by simpa using g),Ev.yz2 (kz7 g),y3w,orB,orB,Ev.pif,gt4,gt6];split
  ·exact l true
  ·exact l _
 have m:∀b,Ev (λn=>z7l n b p) (b||p.rules.any y3w):=λb=>by
  cases b
  ·rw[zus,Ev.kz1 (by rfl),ifB]at *;exact y
  ·rw[zus,Ev.zz2 (by rfl),Ev.yz0];rfl
 rw[yhz,Ev.pif,gt20,gt40,y64];split
 ·rename_i h;rw[h];exact m true
 ·rename_i h;simp only[h,Bool.false_or];exact m _
def kept:List B8:=[[116,114,117,101],[102,97,108,115,101],[115,120],[115,121],[115,122]]
def zcr(s:B8):Bool:=zmo s && !(kept.any λx=>s==x)
def zm4{s:B8}(b:s.length<=8388608):Ev (λn=>z3k n s) (zcr s):=by
 have⟨i,h,g⟩:=y7i (S:=λn x=>some (s==x)) (l:=kept) (p:=λx=>s==x) (L:=λn k l m=>zzi n k l s m) (λn k=>zzi.eq_2 _ _ _ _ n) (by decide) λx j=>Ev.pure rfl
 have d:Ev (λn=>zzt n kept s) (kept.any λx=>s==x):=by
  rw[zkn,Ev.kz0 (by rw[zdj];exact h),Ev.yz0,g]
 rw[ycj,Ev.kz0 (yen b),zcr];refine y1c λ_ =>?_
 exact(Ev.kz0 d).2 (Ev.pure rfl)
def zpy{s:B8}(b:s.length<=8388608):Ev (λn=>z54 n s) (zcr s):=by
 have d:Ev (λn=>zbc n s) ((s==[115,120])||((s==[115,121])||(s==[115,122]))):=by
  rw[yam,Ev.pif];split
  ·rename_i h;rw[h];exact Ev.pure rfl
  ·rename_i h;rw[Ev.pif];simp only[h,Bool.false_or];split
   ·rename_i h;rw[h];exact Ev.pure rfl
   ·rename_i h;simp only[h,Bool.false_or];exact Ev.pure rfl
 have e:zcr s=(zmo s&&(!(s==[116,114,117,101])&&(!(s==[102,97,108,115,101]) && !((s==[115,120])||((s==[115,121])||(s==[115,122])))))):=by
  simp only[zcr,kept,List.any_cons,List.any_nil,Bool.or_false,Bool.not_or]
 rw[yhc,Ev.kz0 (ycp b),e];refine y1c λ_=>y1c λ_=>y1c λ_ =>?_
 rw[Ev.kz0 d,Ev.yz0]
def yku:zcr []=false:=rfl
def yvf{α:Type}{l:List α}:decide ((l.length:Int)>0) = !l.isEmpty:=by cases l <;> simp
def sc_t{α:Type}{k:Int}{l:List α}(h:¬(k=5↔l≠[])):(!((k==5)==decide ((l.length:Int)>0)))=true:=by
 rw[yvf];cases l <;> by_cases q:k=5 <;> simp_all
def sc_f{α:Type}{k:Int}{l:List α}(h:k=5↔l≠[]):(!((k==5)==decide ((l.length:Int)>0)))=false:=by
 rw[yvf];cases l <;> by_cases q:k=5 <;> simp_all
def own(k:Int):Int:=if k=2∨k=3 then 3 else if k=4∨k=6 then 1 else 0
def y8e{k:Int}:Ev (λn=>zbl n k) (own k):=by
 have d:∀b,Ev (λn=>z95 n b) (if b=true then 1 else 0):=λb=>by cases b <;> rw[y9q] <;> exact Ev.pure rfl
 have g:∀b,Ev (λn=>z9j n k b) (if b=true then 3 else if k=4∨k=6 then 1 else 0):=λb=>by
  rw[y9z,Ev.pif];split
  ·exact Ev.pure rfl
  ·rw[Ev.pif];split
   ·rename_i h;rw[Qbw (.inl (by simpa using h))];exact d true
   ·rename_i h;have h:k≠4:=by simpa using h
    refine(d _).to ?_;by_cases q:k=6 <;> simp[q,h]
 rw[yok,Ev.pif,own];split
 ·rename_i h;rw[Qbw (.inl (by simpa using h))];exact g true
 ·rename_i h;have h:k≠2:=by simpa using h
  refine(g _).to ?_;by_cases q:k=3 <;> simp[q,h]
def ykm{k:Int}:Ev (λn=>zdx n k) (own k):=by
 have d:∀b,Ev (λn=>z9b n b) (if b=true then 1 else 0):=λb=>by cases b <;> rw[ya5] <;> exact Ev.pure rfl
 have g:∀b,Ev (λn=>z9k n k b) (if b=true then 3 else if k=4∨k=6 then 1 else 0):=λb=>by
  rw[yae,Ev.pif];split
  ·exact Ev.pure rfl
  ·rw[Ev.pif];split
   ·rename_i h;rw[Qbw (.inl (by simpa using h))];exact d true
   ·rename_i h;have h:k≠4:=by simpa using h
    refine(d _).to ?_;by_cases q:k=6 <;> simp[q,h]
 rw[ymx,Ev.pif,own];split
 ·rename_i h;rw[Qbw (.inl (by simpa using h))];exact g true
 ·rename_i h;have h:k≠2:=by simpa using h
  refine(g _).to ?_;by_cases q:k=3 <;> simp[q,h]
def yc3(x:kzb):Bool:=decide (1<=x.kind)&&(decide (x.kind<=3)&&(zcr x.name&&(!x.args.isEmpty&&(zam (zft x.args)==0))))
def yur(a:zz3):Prop:=(1<=a.kind∧a.kind<=6)∧(a.axis<=if a.kind=4∨a.kind=5 then 2 else 0)∧(if a.kind<=4 then zcr a.name=true else a.name=[])∧zam (zft a.args)=0∧(own a.kind<=a.args.length)∧(4<a.kind->(a.args.length:Int)=own a.kind)∧(a.kind=5↔a.items≠[])∧a.items.all yc3=true
def z4u(a:zz3):Bool:=@decide (yur a) (Classical.propDecidable _)
def zx4{a:zz3}:z4u a=true↔yur a:=@decide_eq_true_iff _ (Classical.propDecidable _)
def zb8{a:zz3}(h:¬yur a):z4u a=false:=@decide_eq_false _ (Classical.propDecidable _) h
def ykx{l:kz6}(b:(zft l).wf)(d:(l.map yz1.size).sum<=8000000):Ev (λn=>z3o n (zft l)) (zam (zft l)):=zvd b (by rw[zpb];omega)
def neI{k:Int}:(k != 0) = !(k==0):=rfl
def yua{a:zz3}(G:a.wf)(hs:a.size<=8000000):Ev (λn=>z6d n a) (z4u a):=by
 have:=@yl9 a;have:=@y4h a;have:=@z05f a;have list:∀l:kz6,Ev (λn=>za8 n l) (zft l):=λl=>by rw[yjs,Ev.yz0];rfl
 have⟨⟨h5,P⟩,W,H⟩:=z05c G
 have Q:Ev (λn=>z04 n 0 a.items (a.items.length:Int)) (if a.items.all yc3=true then true else false):=by
  refine zck (L:=λn k=>z04 n k a.items (a.items.length:Int)) (by rw[zk7,Ev.kz1 (by simp),Ev.yz0]) λk I v R =>?_
  have D:=Qad I;have:=ye1 D;have:=@ykd a.items[k];have:=@z05h a.items[k]
  have s:∀b,Ev (λn=>kzr n a.items (a.items.length:Int) (k:Int) (!b)) (if b=true then v else false):=λb=>by
   cases b
   ·rw[zks,Ev.zz2 (by rfl),Ev.yz0];rfl
   ·rw[zks,Ev.kz1 (by rfl),wrk (by omega)];exact R
  rw[zk7,Ev.zz2 (by simpa using I),Ev.yz2 (kz7 I),yc3];generalize a.items[k]=x at *;by_cases i:1<=x.kind
  case neg=>rw[Ev.zz2 (by simp;omega),Qbr i];exact s false
  rw[Ev.kz1 (by simp;omega),Qbs i];by_cases m:x.kind<=3
  case neg=>rw[Ev.zz2 (by simp;omega),Qbr m];exact s false
  rw[Ev.kz1 (by simp;omega),Qbs m,Ev.kz0 (zm4 (by omega))];cases h3:zcr x.name
  ·exact s false
  rw[Ev.kz1 (by rfl)];cases J:x.args.isEmpty
  case true=>rw[Ev.zz2 (by rw[List.isEmpty_iff.1 J];rfl)];exact s false
  have o:x.args≠[]:=by intro h;rw[h]at J;cases J
  have o:x.args.length≠0:=by intro h;exact o (List.length_eq_zero_iff.1 h)
  rw[Ev.kz1 (by simpa using o),Ev.kz0 (list _),yz1.kz4,Ev.kz0 (ykx (wf_xa (z05d G D)) (by omega)),neI];exact s _
 have B:∀b,(b=false->((1<=a.kind∧a.kind<=6)∧(a.axis<=if a.kind=4∨a.kind=5 then 2 else 0)∧(if a.kind<=4 then zcr a.name=true else a.name=[])∧zam (zft a.args)=0∧(own a.kind<=a.args.length)∧(4<a.kind->(a.args.length:Int)=own a.kind)))->(b=true->¬yur a)->Ev (λn=>zzw n b a) (z4u a):=λb y u=>by
  cases b
  case true=>rw[zkc,Ev.zz2 (by rfl),Ev.yz0,zb8 (u rfl)]
  have⟨Z,Y,E,X,U,T⟩:=y rfl;rw[zkc,Ev.kz1 (by rfl)];by_cases h:a.kind=5↔a.items≠[]
  case neg=>
   rw[Ev.zz2 (sc_t h),Ev.yz0,zb8 (λq=>h q.2.2.2.2.2.2.1)]
  rw[Ev.kz1 (sc_f h)];refine Q.to ?_;by_cases q:a.items.all yc3=true
  ·rw[Qbw q,zx4.2 ⟨Z,Y,E,X,U,T,h,q⟩]
  ·rw[Qbx q,zb8 (λz=>q z.2.2.2.2.2.2.2)]
 have C:∀c:Bool,(c=decide (1<=a.kind∧a.kind<=4))->((1<=a.kind∧a.kind<=6)∧(a.axis<=if a.kind=4∨a.kind=5 then 2 else 0))->∀b,(b=false->(if a.kind<=4 then zcr a.name=true else a.name=[]))->(b=true->¬yur a)->Ev (λn=>z03 n c b a) (z4u a):=λc d j b y u=>by
  cases b
  case true=>rw[zkh,Ev.zz2 (by rfl),Ev.yz0,zb8 (u rfl)]
  have E:=y rfl;rw[zkh,Ev.kz1 (by rfl),Ev.kz0 (list _),yz1.kz4,Ev.kz0 (ykx (wf_aa G) (by omega))];by_cases i:zam (zft a.args)=0
  case neg=>rw[Ev.zz2 (by simpa using i)];exact B true (λh=>by cases h) λ_ q=>i q.2.2.2.1
  rw[Ev.kz1 (by simpa using i),Ev.kz0 y8e];by_cases m:own a.kind<=a.args.length
  case neg=>rw[Ev.zz2 (by simp;omega)];exact B true (λh=>by cases h) λ_ q=>m q.2.2.2.2.1
  rw[Ev.kz1 (by simp;omega)];cases A:c
  ·rw[Ev.zz2 (by rfl),Ev.kz0 y8e];have g:4<a.kind:=by rw[A]at d;have:=of_decide_eq_false d.symm;omega
   refine B _ (λh=>⟨j.1,j.2,E,i,m,λ_=>by simpa using h⟩) λh q =>?_
   have:=q.2.2.2.2.2.1 g;simp[this]at h
  ·rw[Ev.kz1 (by rfl)];have g:a.kind<=4:=by rw[A]at d;have:=Qac d.symm;omega
   exact B _ (λh=>⟨j.1,j.2,E,i,m,λh=>by omega⟩) λh=>by cases h
 have F:∀c:Bool,(c=decide (1<=a.kind∧a.kind<=4))->∀b,(b=false->((1<=a.kind∧a.kind<=6)∧(a.axis<=if a.kind=4∨a.kind=5 then 2 else 0)))->(b=true->¬yur a)->Ev (λn=>z06 n c b a) (z4u a):=λc d b y u=>by
  cases b
  case true=>rw[zjz,Ev.zz2 (by rfl),Ev.yz0,zb8 (u rfl)]
  have j:=y rfl;rw[zjz,Ev.kz1 (by rfl),Ev.kz0 (zm4 (by omega))];by_cases g:a.kind<=4
  ·rw[Qbs (by omega)]at d;subst d;cases w:zcr a.name
   ·exact C true (by rw[Qbs (by omega)]) j true (λh=>by cases h) λ_ q=>by have:=q.2.2.1;rw[Qbw g,w]at this;cases this
   ·exact C true (by rw[Qbs (by omega)]) j false (λ_=>by rw[Qbw g,w]) λh=>by cases h
  ·rw[Qbr (by omega)]at d;subst d;cases w:zcr a.name
   ·rw[Ev.kz1 (by rfl),Ev.zz2 (by rfl)];refine C false (by rw[Qbr (by omega)]) j _ (λh=>by rw[Qbx g];simpa using h) λh q =>?_
    have:=q.2.2.1;rw[Qbx g]at this;rw[this]at h;cases h
   ·exact C false (by rw[Qbr (by omega)]) j true (λh=>by cases h) λ_ q=>by
     have:=q.2.2.1;rw[Qbx g]at this;rw[this,yku]at w;cases w
 have K:∀c:Bool,(c=decide (1<=a.kind∧a.kind<=4))->∀x:Int,x=(if a.kind=4∨a.kind=5 then 2 else 0)->Ev (λn=>z0p n c x a) (z4u a):=λc d x D=>by
  rw[zv3];by_cases i:1<=a.kind
  case neg=>rw[Ev.zz2 (by simp;omega)];exact F c d true (λh=>by cases h) λ_ q=>i q.1.1
  rw[Ev.kz1 (by simp;omega)];by_cases m:a.kind<=6
  case neg=>rw[Ev.zz2 (by simp;omega)];exact F c d true (λh=>by cases h) λ_ q=>m q.1.2
  rw[Ev.kz1 (by simp;omega),D];refine F c d _ (λh=>⟨⟨i,m⟩,by have:=of_decide_eq_false h;omega⟩) λh q =>?_
  have:=Qac h;have:=q.2.1;omega
 have M:∀c:Bool,(c=decide (1<=a.kind∧a.kind<=4))->∀b:Bool,b=decide (a.kind=4∨a.kind=5)->Ev (λn=>z0u n c 0 b a) (z4u a):=λc d b O=>by
  rw[zw7];by_cases h:a.kind=4∨a.kind=5
  ·rw[O,Qbs h,Ev.zz2 rfl];exact K c d _ (by rw[Qbw h])
  ·rw[O,Qbr h,Ev.kz1 rfl];exact K c d _ (by rw[Qbx h])
 have N:∀c:Bool,(c=decide (1<=a.kind∧a.kind<=4))->Ev (λn=>z0v n c a) (z4u a):=λc d=>by
  rw[zvi];by_cases h:a.kind=4
  ·rw[Ev.zz2 (by simpa using h)];exact M c d true (by rw[Qbs (.inl h)])
  ·rw[Ev.kz1 (by simpa using h)];exact M c d _ (by by_cases q:a.kind=5 <;> simp[q,h])
 rw[y0o];by_cases h:1<=a.kind
 ·rw[Ev.zz2 (by simpa using h)];exact N _ (by simp[h])
 ·rw[Ev.kz1 (by simpa using h)];exact N _ (by simp[h])
def yvj{a:zz3}(Z:a.wf)(hs:a.size<=8000000):Ev (λn=>zbh n a) (z4u a):=by
 have:=@yl9 a;have:=@y4h a;have:=@z05f a;have list:∀l:kz6,Ev (λn=>z2g n l) (zft l):=λl=>by rw[y1i,Ev.yz0];rfl
 have⟨⟨hc,h9⟩,h8,h7⟩:=z05c Z
 have X:Ev (λn=>z2d n 0 a) (if a.items.all yc3=true then true else false):=by
  refine zck (L:=λn k=>z2d n k a) (by rw[zpp,Ev.kz1 (by simp),Ev.yz0]) λk i v H =>?_
  have Y:=Qad i;have:=ye1 Y;have:=@ykd a.items[k];have:=@z05h a.items[k]
  have o:∀b,Ev (λn=>z08 n (k:Int) (!b) a) (if b=true then v else false):=λb=>by
   cases b
   ·rw[zou,Ev.zz2 (by rfl),Ev.yz0];rfl
   ·rw[zou,Ev.kz1 (by rfl),wrk (by omega)];exact H
  rw[zpp,Ev.zz2 (by simpa using i),Ev.yz2 (kz7 i),yc3];generalize a.items[k]=x at *;by_cases A:1<=x.kind
  case neg=>rw[Ev.zz2 (by simp;omega),Qbr A];exact o false
  rw[Ev.kz1 (by simp;omega),Qbs A];by_cases y:x.kind<=3
  case neg=>rw[Ev.zz2 (by simp;omega),Qbr y];exact o false
  rw[Ev.kz1 (by simp;omega),Qbs y,Ev.kz0 (zpy (by omega))];cases w:zcr x.name
  ·exact o false
  rw[Ev.kz1 (by rfl)];cases E:x.args.isEmpty
  case true=>rw[Ev.zz2 (by rw[List.isEmpty_iff.1 E];rfl)];exact o false
  have j:x.args≠[]:=by intro h;rw[h]at E;cases E
  have j:x.args.length≠0:=by intro h;exact j (List.length_eq_zero_iff.1 h)
  rw[Ev.kz1 (by simpa using j),Ev.kz0 (list _),yz1.kz4,Ev.kz0 (zjc (by rw[zpb];omega)),neI];exact o _
 have M:((1<=a.kind∧a.kind<=6)∧(a.axis<=if a.kind=4∨a.kind=5 then 2 else 0)∧(if a.kind<=4 then zcr a.name=true else a.name=[])∧zam (zft a.args)=0∧(own a.kind<=a.args.length)∧(4<a.kind->(a.args.length:Int)=own a.kind))->Ev (λn=>z42 n a) (z4u a):=λ⟨J,I,g3,G,F,P⟩=>by
  rw[y49];by_cases h:a.kind=5↔a.items≠[]
  case neg=>
   rw[Ev.zz2 (sc_t h),Ev.yz0,zb8 (λq=>h q.2.2.2.2.2.2.1)]
  rw[Ev.kz1 (sc_f h)];refine X.to ?_;by_cases q:a.items.all yc3=true
  ·rw[Qbw q,zx4.2 ⟨J,I,g3,G,F,P,h,q⟩]
  ·rw[Qbx q,zb8 (λz=>q z.2.2.2.2.2.2.2)]
 have s:(1<=a.kind∧a.kind<=6)∧(a.axis<=if a.kind=4∨a.kind=5 then 2 else 0)∧zam (zft a.args)=0∧own a.kind<=a.args.length->4<a.kind->∀b:Bool,(b=true↔¬(a.name=[]∧(a.args.length:Int)=own a.kind))->Ev (λn=>kzx n b a) (z4u a):=λ⟨J,I,G,F⟩ i b u=>by
  cases b
  case true=>rw[zox,Ev.zz2 (by rfl),Ev.yz0,zb8];exact λq=>u.1 rfl ⟨by have:=q.2.2.1;rwa[Qbx (by omega)]at this,q.2.2.2.2.2.1 i⟩
  have⟨U,T⟩:=Classical.byContradiction λq=>Bool.noConfusion (u.2 q)
  rw[zox,Ev.kz1 (by rfl)];exact M ⟨J,I,by rw[Qbx (by omega)];exact U,G,F,λ_=>T⟩
 have N:(1<=a.kind∧a.kind<=6)∧(a.axis<=if a.kind=4∨a.kind=5 then 2 else 0)∧zam (zft a.args)=0∧own a.kind<=a.args.length->Ev (λn=>z3s n a) (z4u a):=λd=>by
  have K:decide ((a.name.length:Int)>0) = !(a.name==[]):=by rw[yvf];cases a.name <;> rfl
  rw[y2v];by_cases m:a.kind=5
  ·rw[Ev.zz2 (by simpa using m),ziy,Ev.zz2 (by rfl),K];have C:own a.kind=0:=by rw[m];rfl
   by_cases g:a.name=[]
   case neg=>rw[Ev.zz2 (by simpa using g)];exact s d (by omega) true (by simp[g])
   rw[Ev.kz1 (by simpa using g),Ev.zz2 (by simpa using m)];by_cases R:(a.args.length:Int)=0
   ·rw[Ev.kz1 (Qbr (by omega)),Ev.kz1 (by rw[m];rfl)];exact s d (by omega) false ⟨λh=>(Bool.noConfusion h),λh=>(h ⟨g,by rw[C];exact R⟩).elim⟩
   ·rw[Ev.zz2 (Qbs (by omega))];exact s d (by omega) true ⟨λ_ h=>R (by rw[<-C];exact h.2),λ_=>rfl⟩
  rw[Ev.kz1 (by simpa using m)];by_cases D:a.kind=6
  ·rw[show(a.kind==6)=true by simpa using D,ziy,Ev.zz2 (by rfl),K];have C:own a.kind=1:=by rw[D];rfl
   by_cases g:a.name=[]
   case neg=>rw[Ev.zz2 (by simpa using g)];exact s d (by omega) true (by simp[g])
   rw[Ev.kz1 (by simpa using g),Ev.kz1 (by simpa using m),Ev.zz2 (by simpa using D)];have:=d.2.2.2;refine s d (by omega) _ ?_;rw[C]at this ⊢;simp only[Qar,g,true_and];omega
  ·rw[show(a.kind==6)=false by simpa using D,ziy,Ev.kz1 (by rfl),Ev.kz0 (zpy (by omega))];have i:a.kind<=4:=by have:=d.1;omega
   cases g:zcr a.name
   ·rw[Ev.zz2 (by rfl),Ev.yz0,zb8];exact λq=>by have:=q.2.2.1;rw[Qbw i,g]at this;cases this
   ·rw[Ev.kz1 (by rfl)];exact M ⟨d.1,d.2.1,by rw[Qbw i,g],d.2.2.1,d.2.2.2,λh=>by omega⟩
 have O:(1<=a.kind∧a.kind<=6)∧zam (zft a.args)=0∧own a.kind<=a.args.length->∀b:Bool,b=decide (a.kind=4∨a.kind=5)->Ev (λn=>z47 n b a) (z4u a):=λd b u=>by
  rw[y3r];by_cases h:a.kind=4∨a.kind=5
  ·rw[u,Qbs h,Ev.zz2 rfl];by_cases q:a.axis<=2
   ·rw[Ev.kz1 (by simp;omega)];exact N ⟨d.1,by rw[Qbw h];exact q,d.2⟩
   ·rw[Ev.zz2 (by simp;omega),Ev.yz0,zb8];exact λz=>q (by have:=z.2.1;rwa[Qbw h]at this)
  ·rw[u,Qbr h,Ev.kz1 rfl];by_cases q:a.axis<=0
   ·rw[Ev.kz1 (by simp;omega)];exact N ⟨d.1,by rw[Qbx h];exact q,d.2⟩
   ·rw[Ev.zz2 (by simp;omega),Ev.yz0,zb8];exact λz=>q (by have:=z.2.1;rwa[Qbx h]at this)
 have B:∀b:Bool,(b=false->(1<=a.kind∧a.kind<=6)∧zam (zft a.args)=0∧own a.kind<=a.args.length)->(b=true->¬yur a)->Ev (λn=>z0r n b a) (z4u a):=λb Q W=>by
  cases b
  case true=>rw[zpo,Ev.zz2 (by rfl),Ev.yz0,zb8 (W rfl)]
  rw[zpo,Ev.kz1 (by rfl)];by_cases h:a.kind=4
  ·rw[Ev.zz2 (by simpa using h)];exact O (Q rfl) true (by rw[Qbs (.inl h)])
  ·rw[Ev.kz1 (by simpa using h)];exact O (Q rfl) _ (by by_cases q:a.kind=5 <;> simp[q,h])
 rw[yaf];by_cases A:1<=a.kind
 case neg=>rw[Ev.zz2 (by simp;omega)];exact B true (λh=>by cases h) λ_ q=>A q.1.1
 rw[Ev.kz1 (by simp;omega)];by_cases y:a.kind<=6
 case neg=>rw[Ev.zz2 (by simp;omega)];exact B true (λh=>by cases h) λ_ q=>y q.1.2
 rw[Ev.kz1 (by simp;omega),Ev.kz0 (list _),yz1.kz4,Ev.kz0 (zjc (by rw[zpb];omega))];by_cases w:zam (zft a.args)=0
 case neg=>rw[Ev.zz2 (by simpa using w)];exact B true (λh=>by cases h) λ_ q=>w q.2.2.2.1
 rw[Ev.kz1 (by simpa using w),Ev.kz0 ykm];exact B _ (λh=>⟨⟨A,y⟩,w,by have:=of_decide_eq_false h;omega⟩) λh q=>by have:=Qac h;have:=q.2.2.2.2.1;omega
end
end Go.Proofs.YthlmhmebajjkbaaGreatDoor
