/-
  What each function comes to, by its body, by a program of this repo.
-/
import Derived.Test.YthphaiccgnkobaaGreatDoorLib8
import Derived.Test.YthphaiccgnkobaaGreatDoorRun2
import Derived.Lib.Bytealg
import Derived.Test.YthphaiccgnkobaaGreatDoorLib9
namespace Go.Proofs.YthphaiccgnkobaaGreatDoor
open Go Go.Ab
set_option linter.unusedSimpArgs false
set_option linter.defProp false
def y90{r}(a):=evS (zad · a) r (zad.eq_2 a)
def zdh{r}(a):=evS (zzh · a) r (zzh.eq_2 a)
def zbz{r}(a):=evS (kza · a) r (kza.eq_2 a)
def ygh{r}(a):=evS (zdm · a) r (zdm.eq_2 a)
def zqv{r}(a b):=evS (z5x · a b) r (z5x.eq_2 a b)
def zrs{r}(a b c):=evS (z3i · a b c) r (z3i.eq_2 a b c)
def zsw{r}(a b c d e):=evS (z7b · a b c d e) r (z7b.eq_2 a b c d e)
def zsg{r}(a b c d e f):=evS (z39 · a b c d e f) r (z39.eq_2 a b c d e f)
def zrd{r}(a b c d e f g):=evS (z6p · a b c d e f g) r (z6p.eq_2 a b c d e f g)
def yg9{r}(a):=evS (zbo · a) r (zbo.eq_2 a)
def zru{r}(a b):=evS (z9o · a b) r (z9o.eq_2 a b)
def zsq{r}(a b):=evS (z0h · a b) r (z0h.eq_2 a b)
def zrv{r}(a b c d e):=evS (z78 · a b c d e) r (z78.eq_2 a b c d e)
def zrc{r}(a b c):=evS (kzv · a b c) r (kzv.eq_2 a b c)
def zcq{r}(a b):=evS (kz9 · a b) r (kz9.eq_2 a b)
def zhh{r}(a b):=evS (zzj · a b) r (zzj.eq_2 a b)
def yen{r}(a):=evS (z2n · a) r (z2n.eq_2 a)
def ya5{r}(a):=evS (z8m · a) r (z8m.eq_2 a)
def zm7{r}(a b c d e):=evS (z32 · a b c d e) r (z32.eq_2 a b c d e)
def y0d{r}(a):=evS (zdu · a) r (zdu.eq_2 a)
def zt1{r}(a b c):=evS (zzp · a b c) r (zzp.eq_2 a b c)
def zqx{r}(a b c):=evS (z6b · a b c) r (z6b.eq_2 a b c)
def zr0{r}(a b c):=evS (z5w · a b c) r (z5w.eq_2 a b c)
def zsd{r}(a b c):=evS (z9m · a b c) r (z9m.eq_2 a b c)
def y6b{r}:=evS (z9j ·) r (z9j.eq_2)
def zs0{r}(a):=evS (z0e · a) r (z0e.eq_2 a)
def y6e{r}(a):=evS (z79 · a) r (z79.eq_2 a)
def zl5{r}(a b c d e):=evS (z1v · a b c d e) r (z1v.eq_2 a b c d e)
def zyh{r}(a b):=evS (z1w · a b) r (z1w.eq_2 a b)
def yg8{r}(a):=evS (zbb · a) r (zbb.eq_2 a)
def ymy{r}(a b):=evS (zfc · a b) r (zfc.eq_2 a b)
def y95{r}(a b):=evS (z8u · a b) r (z8u.eq_2 a b)
def ybm{r}(a):=evS (z7v · a) r (z7v.eq_2 a)
def y4s{r}(a):=evS (z0r · a) r (z0r.eq_2 a)
def yhq{r}(a):=evS (zbk · a) r (zbk.eq_2 a)
def zrk{r}(a b c):=evS (z6z · a b c) r (z6z.eq_2 a b c)
def zro{r}(a b c d):=evS (z65 · a b c d) r (z65.eq_2 a b c d)
def zsl{r}(a b c d):=evS (z6h · a b c d) r (z6h.eq_2 a b c d)
def y6v{r}(a):=evS (z1q · a) r (z1q.eq_2 a)
def ybn{r}(a):=evS (z7p · a) r (z7p.eq_2 a)
def y4g{r}(a b):=evS (z41 · a b) r (z41.eq_2 a b)
def yif{r}(a):=evS (zdr · a) r (zdr.eq_2 a)
def yg3{r}(a b):=evS (z3r · a b) r (z3r.eq_2 a b)
def zs4{r}(a b c):=evS (z0b · a b c) r (z0b.eq_2 a b c)
def zt3{r}(a b c d):=evS (z66 · a b c d) r (z66.eq_2 a b c d)
def ylu{r}(a):=evS (zct · a) r (zct.eq_2 a)
def y99{r}(a b):=evS (z5f · a b) r (z5f.eq_2 a b)
def ya8{r}(a b):=evS (z5g · a b) r (z5g.eq_2 a b)
def y9y{r}(a b):=evS (z8w · a b) r (z8w.eq_2 a b)
def y9c{r}(a b):=evS (z8r · a b) r (z8r.eq_2 a b)
def y8q{r}(a):=evS (z5e · a) r (z5e.eq_2 a)
def zck{r}(a):=evS (yzb · a) r (yzb.eq_2 a)
def ze0{r}(a):=evS (zzd · a) r (zzd.eq_2 a)
def zzy{r}(a b c):=evS (kz6 · a b c) r (kz6.eq_2 a b c)
def ybu{r}(a):=evS (zca · a) r (zca.eq_2 a)
def ygg{r}(a):=evS (z0i · a) r (z0i.eq_2 a)
def y5g{r}(a b):=evS (z6f · a b) r (z6f.eq_2 a b)
def y4c{r}(a):=evS (z8i · a) r (z8i.eq_2 a)
def zh7{r}(a):=evS (zzo · a) r (zzo.eq_2 a)
def zfu{r}(a):=evS (yzg · a) r (yzg.eq_2 a)
def y0x{r}(a):=evS (z2k · a) r (z2k.eq_2 a)
def ylq{r}(a):=evS (zb1 · a) r (zb1.eq_2 a)
def y9u{r}(a b):=evS (z8o · a b) r (z8o.eq_2 a b)
def y8n{r}(a):=evS (z8l · a) r (z8l.eq_2 a)
def y05{r}(a):=evS (z5d · a) r (z5d.eq_2 a)
def zte{r}(a b):=evS (zzz · a b) r (zzz.eq_2 a b)
def ztj{r}(a b c d):=evS (yzz · a b c d) r (yzz.eq_2 a b c d)
def zty{r}(a b c):=evS (z00 · a b c) r (z00.eq_2 a b c)
def zhr{r}(a b c):=evS (yzs · a b c) r (yzs.eq_2 a b c)
def zil{r}(a b c):=evS (zzr · a b c) r (zzr.eq_2 a b c)
def zhe{r}(a b):=evS (kzm · a b) r (kzm.eq_2 a b)
def zhj{r}(a b c):=evS (zzs · a b c) r (zzs.eq_2 a b c)
def zhf{r}(a b c d):=evS (yzi · a b c d) r (yzi.eq_2 a b c d)
def y9g{r}(a):=evS (zam · a) r (zam.eq_2 a)
def zmj{r}(a b c d):=evS (z16 · a b c d) r (z16.eq_2 a b c d)
def zmw{r}(a b c d e):=evS (z30 · a b c d e) r (z30.eq_2 a b c d e)
def zm9{r}(a b c):=evS (z17 · a b c) r (z17.eq_2 a b c)
def zmo{r}(a b c d e):=evS (z2x · a b c d e) r (z2x.eq_2 a b c d e)
def zm5{r}(a b c d e f):=evS (z1j · a b c d e f) r (z1j.eq_2 a b c d e f)
def zne{r}(a b c d e f g h):=evS (z1g · a b c d e f g h) r (z1g.eq_2 a b c d e f g h)
def zno{r}(a b c d e f g h i):=evS (z1f · a b c d e f g h i) r (z1f.eq_2 a b c d e f g h i)
def zhv{r}(a b):=evS (yzk · a b) r (yzk.eq_2 a b)
def z2l{r}(a b c d):=evS (zze · a b c d) r (zze.eq_2 a b c d)
def zg5{r}(a b):=evS (yzh · a b) r (yzh.eq_2 a b)
def ygs{r}(a b):=evS (zbg · a b) r (zbg.eq_2 a b)
def zs7{r}(a b c):=evS (z9q · a b c) r (z9q.eq_2 a b c)
def y5x{r}(a b):=evS (z69 · a b) r (z69.eq_2 a b)
def zra{r}(a b c d):=evS (z71 · a b c d) r (z71.eq_2 a b c d)
def ygc{r}(a):=evS (zdl · a) r (zdl.eq_2 a)
def ya3{r}(a b c):=evS (zal · a b c) r (zal.eq_2 a b c)
def zft{r}(a b c):=evS (zzm · a b c) r (zzm.eq_2 a b c)
def z0y{r}(a b c d e):=evS (zza · a b c d e) r (zza.eq_2 a b c d e)
def zee{r}(a b c):=evS (zzf · a b c) r (zzf.eq_2 a b c)
def yi3{r}(a b c):=evS (zbn · a b c) r (zbn.eq_2 a b c)
def ydb{r}(a):=evS (zci · a) r (zci.eq_2 a)
def zp6{r}(a b c d):=evS (z48 · a b c d) r (z48.eq_2 a b c d)
def zpi{r}(a b c d e f g):=evS (z4s · a b c d e f g) r (z4s.eq_2 a b c d e f g)
def zpk{r}(a b c d e f g h i j):=evS (z4o · a b c d e f g h i j) r (z4o.eq_2 a b c d e f g h i j)
def y5q{r}(a b c):=evS (z9n · a b c) r (z9n.eq_2 a b c)
def zfl{r}(a b c):=evS (kzj · a b c) r (kzj.eq_2 a b c)
def z0l{r}(a b c d e):=evS (yz8 · a b c d e) r (yz8.eq_2 a b c d e)
def ze3{r}(a b c):=evS (yzd · a b c) r (yzd.eq_2 a b c)
def yb5{r}(a):=evS (z88 · a) r (z88.eq_2 a)
def zp0{r}(a b c d):=evS (z4j · a b c d) r (z4j.eq_2 a b c d)
def zoo{r}(a b c d e f g):=evS (z2b · a b c d e f g) r (z2b.eq_2 a b c d e f g)
def y3t{r}(a b c d e f g h):=evS (z4i · a b c d e f g h) r (z4i.eq_2 a b c d e f g h)
def zo1{r}(a b c d e f g h i j):=evS (z4l · a b c d e f g h i j) r (z4l.eq_2 a b c d e f g h i j)
def ycr{r}(a):=evS (z54 · a) r (z54.eq_2 a)
def zok{r}(a b c d e f g h i):=evS (z42 · a b c d e f g h i) r (z42.eq_2 a b c d e f g h i)
def y3f{r}(a b c d e f g h i j):=evS (z3x · a b c d e f g h i j) r (z3x.eq_2 a b c d e f g h i j)
def zps{r}(a b c d e f g h i):=evS (z4q · a b c d e f g h i) r (z4q.eq_2 a b c d e f g h i)
def zop{r}(a b c d e f g h i j k l m):=evS (z4u · a b c d e f g h i j k l m) r (z4u.eq_2 a b c d e f g h i j k l m)
def zoy{r}(a b c d e f g h i j k l m o):=evS (z4d · a b c d e f g h i j k l m o) r (z4d.eq_2 a b c d e f g h i j k l m o)
def zo5{r}(a b c d e f g h i j):=evS (z2a · a b c d e f g h i j) r (z2a.eq_2 a b c d e f g h i j)
def zpr{r}(a b c d e f g h i j k l m o p):=evS (z4y · a b c d e f g h i j k l m o p) r (z4y.eq_2 a b c d e f g h i j k l m o p)
def zpj{r}(a b c d e f g h i j k l m o p q):=evS (z2d · a b c d e f g h i j k l m o p q) r (z2d.eq_2 a b c d e f g h i j k l m o p q)
def y5c{r}(a b c d e f g h i j k):=evS (z4b · a b c d e f g h i j k) r (z4b.eq_2 a b c d e f g h i j k)
def zo9{r}(a b c d e f g h i j k l m):=evS (z4m · a b c d e f g h i j k l m) r (z4m.eq_2 a b c d e f g h i j k l m)
def y20{r}(a b c d e f g h i j k l m o p q):=evS (z33 · a b c d e f g h i j k l m o p q) r (z33.eq_2 a b c d e f g h i j k l m o p q)
def y2e{r}(a b c d e f g h i j k l m):=evS (z14 · a b c d e f g h i j k l m) r (z14.eq_2 a b c d e f g h i j k l m)
def yg6{r}(a):=evS (zba · a) r (zba.eq_2 a)
def zr3{r}(a):=evS (z9p · a) r (z9p.eq_2 a)
def zja{r}(a b):=evS (kz4 · a b) r (kz4.eq_2 a b)
def zki{r}(a b):=evS (kz7 · a b) r (kz7.eq_2 a b)
def zn2{r}(a b):=evS (zzx · a b) r (zzx.eq_2 a b)
def zkz{r}(a b):=evS (kzp · a b) r (kzp.eq_2 a b)
def yba{r}(a b):=evS (z9t · a b) r (z9t.eq_2 a b)
def zpm{r}(a b c):=evS (z3y · a b c) r (z3y.eq_2 a b c)
def y4k{r}(a b c d):=evS (z5b · a b c d) r (z5b.eq_2 a b c d)
def y4p{r}(a b c d):=evS (z45 · a b c d) r (z45.eq_2 a b c d)
def zu0{r}(a):=evS (kzr · a) r (kzr.eq_2 a)
def yh8{r}(a):=evS (zdn · a) r (zdn.eq_2 a)
def ykd{r}(a):=evS (zao · a) r (zao.eq_2 a)
def y8y{r}(a b):=evS (z8v · a b) r (z8v.eq_2 a b)
def yi8{r}(a b):=evS (zbf · a b) r (zbf.eq_2 a b)
def y6c{r}(a b c d e):=evS (z3l · a b c d e) r (z3l.eq_2 a b c d e)
def zre{r}(a b c d e f):=evS (z67 · a b c d e f) r (z67.eq_2 a b c d e f)
def y6u{r}(a b c d e f g):=evS (z6k · a b c d e f g) r (z6k.eq_2 a b c d e f g)
def yne{r}(a):=evS (zf2 · a) r (zf2.eq_2 a)
def y9n{r}(a b):=evS (z07 · a b) r (z07.eq_2 a b)
def znb{r}(a b):=evS (z7c · a b) r (z7c.eq_2 a b)
def ya2{r}(a b):=evS (yzq · a b) r (yzq.eq_2 a b)
def zw3{r}(a b c):=evS (z38 · a b c) r (z38.eq_2 a b c)
def zh3{r}(a b c d e):=evS (yzv · a b c d e) r (yzv.eq_2 a b c d e)
def yg7{r}(a):=evS (z7k · a) r (z7k.eq_2 a)
def zrz{r}(a b c d e f):=evS (z6g · a b c d e f) r (z6g.eq_2 a b c d e f)
def zr4{r}(a b c d e):=evS (z3e · a b c d e) r (z3e.eq_2 a b c d e)
def zsy{r}(a b c d e f g h):=evS (z6i · a b c d e f g h) r (z6i.eq_2 a b c d e f g h)
def zt4{r}(a b c d e f g h i j k):=evS (z6a · a b c d e f g h i j k) r (z6a.eq_2 a b c d e f g h i j k)
def y5j{r}(a b):=evS (z6o · a b) r (z6o.eq_2 a b)
def yfj{r}(a b):=evS (zdv · a b) r (zdv.eq_2 a b)
def zfa{r}(a b):=evS (kzf · a b) r (kzf.eq_2 a b)
def z0m{r}(a b c d):=evS (kz8 · a b c d) r (kz8.eq_2 a b c d)
def yro{r}(a b):=evS (zcm · a b) r (zcm.eq_2 a b)
def ydh{r}(a b):=evS (z2i · a b) r (z2i.eq_2 a b)
def zhs{r}(a b c d e):=evS (z4k · a b c d e) r (z4k.eq_2 a b c d e)
def zie{r}(a b c d e f g h):=evS (z4e · a b c d e f g h) r (z4e.eq_2 a b c d e f g h)
def zpe{r}(a b c d e f g h):=evS (z8f · a b c d e f g h) r (z8f.eq_2 a b c d e f g h)
def zwz{r}(a b):=evS (yzr · a b) r (yzr.eq_2 a b)
def zh5{r}(a b c):=evS (yzw · a b c) r (yzw.eq_2 a b c)
def yc0{r}(a b):=evS (za0 · a b) r (za0.eq_2 a b)
def zol{r}(a b c):=evS (z2f · a b c) r (z2f.eq_2 a b c)
def zoh{r}(a b c):=evS (z4r · a b c) r (z4r.eq_2 a b c)
def ybc{r}(a):=evS (z7y · a) r (z7y.eq_2 a)
def zia{r}(a b c):=evS (z4n · a b c) r (z4n.eq_2 a b c)
def zhq{r}(a b c d):=evS (z52 · a b c d) r (z52.eq_2 a b c d)
def zwf{r}(a):=evS (zc0 · a) r (zc0.eq_2 a)
def yax{r}(a b):=evS (z9w · a b) r (z9w.eq_2 a b)
def zny{r}(a b c):=evS (z0v · a b c) r (z0v.eq_2 a b c)
def zon{r}(a b c):=evS (z3z · a b c) r (z3z.eq_2 a b c)
def ych{r}(a):=evS (z84 · a) r (z84.eq_2 a)
def zoz{r}(a b c):=evS (z4p · a b c) r (z4p.eq_2 a b c)
def zwm{r}(a):=evS (z4v · a) r (z4v.eq_2 a)
def zqr{r}(a):=evS (z1m · a) r (z1m.eq_2 a)
def y28{r}(a):=evS (z77 · a) r (z77.eq_2 a)
def zit{r}(a b):=evS (z0p · a b) r (z0p.eq_2 a b)
def ziq{r}(a b):=evS (z0n · a b) r (z0n.eq_2 a b)
def ziy{r}(a b c):=evS (zzu · a b c) r (zzu.eq_2 a b c)
def zir{r}(a b c):=evS (z0o · a b c) r (z0o.eq_2 a b c)
def zis{r}(a b c d):=evS (z0q · a b c d) r (z0q.eq_2 a b c d)
def yd1{r}(a):=evS (z9u · a) r (z9u.eq_2 a)
def zot{r}(a b):=evS (z4g · a b) r (z4g.eq_2 a b)
def zoe{r}(a b):=evS (z2c · a b) r (z2c.eq_2 a b)
def zo3{r}(a b c):=evS (z56 · a b c) r (z56.eq_2 a b c)
def zpb{r}(a b):=evS (z4f · a b) r (z4f.eq_2 a b)
def zp1{r}(a b c d):=evS (z1z · a b c d) r (z1z.eq_2 a b c d)
def zpd{r}(a b c d):=evS (z27 · a b c d) r (z27.eq_2 a b c d)
def zob{r}(a b c d):=evS (z4a · a b c d) r (z4a.eq_2 a b c d)
def ygx{r}(a):=evS (zdw · a) r (zdw.eq_2 a)
def zrp{r}(a b):=evS (z6v · a b) r (z6v.eq_2 a b)
def zsi{r}(a b):=evS (z3b · a b) r (z3b.eq_2 a b)
def zs6{r}(a b c d):=evS (z6m · a b c d) r (z6m.eq_2 a b c d)
def zsc{r}(a b c d):=evS (z3k · a b c d) r (z3k.eq_2 a b c d)
def zsm{r}(a b c d e):=evS (z3j · a b c d e) r (z3j.eq_2 a b c d e)
def ya7{r}(a):=evS (zaa · a) r (zaa.eq_2 a)
def ycg{r}(a):=evS (zc6 · a) r (zc6.eq_2 a)
def yi9{r}(a):=evS (zbh · a) r (zbh.eq_2 a)
def zs5{r}(a b):=evS (kzw · a b) r (kzw.eq_2 a b)
def zry{r}(a b c):=evS (z0g · a b c) r (z0g.eq_2 a b c)
def y8v{r}(a):=evS (zae · a) r (zae.eq_2 a)
def yib{r}(a):=evS (z3s · a) r (z3s.eq_2 a)
def yhi{r}(a):=evS (zbp · a) r (zbp.eq_2 a)
def zrr{r}(a b c):=evS (z6n · a b c) r (z6n.eq_2 a b c)
def y0p{r}(a):=evS (zdt · a) r (zdt.eq_2 a)
def zsh{r}(a b):=evS (z9l · a b) r (z9l.eq_2 a b)
def zr9{r}(a b):=evS (zzq · a b) r (zzq.eq_2 a b)
def zsr{r}(a b):=evS (z6c · a b) r (z6c.eq_2 a b)
def yft{r}(a):=evS (zbl · a) r (zbl.eq_2 a)
def zj5{r}(a b c):=evS (z64 · a b c) r (z64.eq_2 a b c)
def zj6{r}(a b c d):=evS (z6j · a b c d) r (z6j.eq_2 a b c d)
def y9l{r}(a b):=evS (zan · a b) r (zan.eq_2 a b)
def y31{r}(a b):=evS (z2w · a b) r (z2w.eq_2 a b)
def ybb{r}(a):=evS (zc1 · a) r (zc1.eq_2 a)
def y3o{r}(a):=evS (yzx · a) r (yzx.eq_2 a)
def ygw{r}(a):=evS (zbm · a) r (zbm.eq_2 a)
def zsj{r}(a b):=evS (z0f · a b) r (z0f.eq_2 a b)
def zsz{r}(a b):=evS (z6u · a b) r (z6u.eq_2 a b)
def zqz{r}(a b c):=evS (z61 · a b c) r (z61.eq_2 a b c)
def zst{r}(a b):=evS (z1r · a b) r (z1r.eq_2 a b)
def zt5{r}(a b):=evS (z5z · a b) r (z5z.eq_2 a b)
def yeb{r}(a):=evS (zc3 · a) r (zc3.eq_2 a)
def y3v{r}(a b):=evS (z57 · a b) r (z57.eq_2 a b)
def ygl{r}(a b):=evS (z3t · a b) r (z3t.eq_2 a b)
def zr1{r}(a b c):=evS (z0a · a b c) r (z0a.eq_2 a b c)
def zr2{r}(a b c):=evS (z62 · a b c) r (z62.eq_2 a b c)
def yee{r}(a):=evS (zby · a) r (zby.eq_2 a)
def yfe{r}(a):=evS (zbc · a) r (zbc.eq_2 a)
def y6q{r}(a b):=evS (z3g · a b) r (z3g.eq_2 a b)
def y6r{r}(a b):=evS (zzv · a b) r (zzv.eq_2 a b)
def y5s{r}(a b):=evS (z0d · a b) r (z0d.eq_2 a b)
def zr7{r}(a b):=evS (z60 · a b) r (z60.eq_2 a b)
def yd8{r}(a):=evS (z1b · a) r (z1b.eq_2 a)
def y55{r}(a b):=evS (z58 · a b) r (z58.eq_2 a b)
def yl3{r}(a):=evS (zcy · a) r (zcy.eq_2 a)
def yaa{r}(a b):=evS (z8p · a b) r (z8p.eq_2 a b)
def y9d{r}(a):=evS (z8x · a) r (z8x.eq_2 a)
def y8s{r}(a):=evS (zah · a) r (zah.eq_2 a)
def zmt{r}(a b):=evS (kzz · a b) r (kzz.eq_2 a b)
def y2j{r}(a b):=evS (z2y · a b) r (z2y.eq_2 a b)
def y2u{r}(a):=evS (z2s · a) r (z2s.eq_2 a)
def zgs{r}(a b):=evS (z6e · a b) r (z6e.eq_2 a b)
def zmf{r}(a b):=evS (yzn · a b) r (yzn.eq_2 a b)
def y1y{r}(a):=evS (z2r · a) r (z2r.eq_2 a)
def zn1{r}(a b):=evS (z13 · a b) r (z13.eq_2 a b)
def znd{r}(a b c):=evS (zzt · a b c) r (zzt.eq_2 a b c)
def y97{r}(a):=evS (zac · a) r (zac.eq_2 a)
def zni{r}(a b):=evS (z1k · a b) r (z1k.eq_2 a b)
def zm1{r}(a b c):=evS (z35 · a b c) r (z35.eq_2 a b c)
def znc{r}(a b):=evS (z19 · a b) r (z19.eq_2 a b)
def zn3{r}(a b c d):=evS (z1h · a b c d) r (z1h.eq_2 a b c d)
def zn6{r}(a b c d):=evS (z11 · a b c d) r (z11.eq_2 a b c d)
def zmm{r}(a b c d e f):=evS (z1a · a b c d e f) r (z1a.eq_2 a b c d e f)
def zmk{r}(a b c d e f):=evS (z1i · a b c d e f) r (z1i.eq_2 a b c d e f)
def yd0{r}(a):=evS (z7r · a) r (z7r.eq_2 a)
def zom{r}(a b c):=evS (z50 · a b c) r (z50.eq_2 a b c)
def ypu{r}(a b):=evS (zaq · a b) r (zaq.eq_2 a b)
def ybe{r}(a):=evS (z9s · a) r (z9s.eq_2 a)
def zoq{r}(a b):=evS (z47 · a b) r (z47.eq_2 a b)
def ybt{r}(a):=evS (z89 · a) r (z89.eq_2 a)
def zpg{r}(a b c):=evS (z4h · a b c) r (z4h.eq_2 a b c)
def yca{r}(a b):=evS (zce · a b) r (zce.eq_2 a b)
def y4z{r}(a):=evS (z8d · a) r (z8d.eq_2 a)
def zjx{r}(a b):=evS (z1e · a b) r (z1e.eq_2 a b)
def y6o{r}(a):=evS (z9k · a) r (z9k.eq_2 a)
def zl0{r}(a b):=evS (z1x · a b) r (z1x.eq_2 a b)
def zl1{r}(a b):=evS (z0k · a b) r (z0k.eq_2 a b)
def ygp{r}(a b):=evS (zbe · a b) r (zbe.eq_2 a b)
def zrq{r}(a b c):=evS (z3h · a b c) r (z3h.eq_2 a b c)
def zse{r}(a b c d):=evS (z6x · a b c d) r (z6x.eq_2 a b c d)
def zsv{r}(a b c d):=evS (z63 · a b c d) r (z63.eq_2 a b c d)
def y6j{r}(a b):=evS (z3a · a b) r (z3a.eq_2 a b)
def zrg{r}(a b c):=evS (z68 · a b c) r (z68.eq_2 a b c)
def ybf{r}(a):=evS (zch · a) r (zch.eq_2 a)
def y9i{r}(a b):=evS (z8j · a b) r (z8j.eq_2 a b)
def zma{r}(a b c):=evS (z2u · a b c) r (z2u.eq_2 a b c)
def yck{r}(a):=evS (zc7 · a) r (zc7.eq_2 a)
def znx{r}(a b c):=evS (z3v · a b c) r (z3v.eq_2 a b c)
def zpa{r}(a b c d):=evS (z4w · a b c d) r (z4w.eq_2 a b c d)
def yfi{r}(a):=evS (zbj · a) r (zbj.eq_2 a)
def zqw{r}(a b c):=evS (z6d · a b c) r (z6d.eq_2 a b c)
def zrn{r}(a b c d):=evS (z3d · a b c d) r (z3d.eq_2 a b c d)
def zs8{r}(a b c d e f):=evS (z6l · a b c d e f) r (z6l.eq_2 a b c d e f)
def y7b{r}(a b c d e):=evS (z6t · a b c d e) r (z6t.eq_2 a b c d e)
def zt0{r}(a b c d e f):=evS (z5y · a b c d e f) r (z5y.eq_2 a b c d e f)
def ydt{r}(a):=evS (zcf · a) r (zcf.eq_2 a)
def zou{r}(a b c):=evS (z44 · a b c) r (z44.eq_2 a b c)
def zph{r}(a b c):=evS (z25 · a b c) r (z25.eq_2 a b c)
def zo6{r}(a b c d e f):=evS (z2e · a b c d e f) r (z2e.eq_2 a b c d e f)
def zoa{r}(a b c d e f g h):=evS (z4t · a b c d e f g h) r (z4t.eq_2 a b c d e f g h)
def zpf{r}(a b c d e):=evS (z22 · a b c d e) r (z22.eq_2 a b c d e)
def yev{r}(a):=evS (z9x · a) r (z9x.eq_2 a)
def zpn{r}(a b):=evS (z3w · a b) r (z3w.eq_2 a b)
def zpc{r}(a b c d):=evS (z4x · a b c d) r (z4x.eq_2 a b c d)
def ziw{r}(a):=evS (z2g · a) r (z2g.eq_2 a)
def yih{r}(a):=evS (zbd · a) r (zbd.eq_2 a)
def zsf{r}(a b c d e f g h i j k l m o):=evS (z6s · a b c d e f g h i j k l m o) r (z6s.eq_2 a b c d e f g h i j k l m o)
def yfo{r}(a):=evS (z7f · a) r (z7f.eq_2 a)
def zri{r}(a b c d e f g h i j k l m o p q s t u v):=evS (z74 · a b c d e f g h i j k l m o p q s t u v) r (z74.eq_2 a b c d e f g h i j k l m o p q s t u v)
def y2k{r}(a):=evS (z2z · a) r (z2z.eq_2 a)
def y3m{r}(a):=evS (z4z · a) r (z4z.eq_2 a)
def zju{r}(a b c d e f g h):=evS (z1l · a b c d e f g h) r (z1l.eq_2 a b c d e f g h)
def zk2{r}(a b c d e f g h i j k l m o p q s t u v):=evS (z18 · a b c d e f g h i j k l m o p q s t u v) r (z18.eq_2 a b c d e f g h i j k l m o p q s t u v)
def zkf{r}(a b c d e f g h i j k l m o p q s t u v w x y z A B C):=evS (z1c · a b c d e f g h i j k l m o p q s t u v w x y z A B C) r (z1c.eq_2 a b c d e f g h i j k l m o p q s t u v w x y z A B C)
def yij{r}(a):=evS (zdx · a) r (zdx.eq_2 a)
def zss{r}(a b c d e f):=evS (z6y · a b c d e f) r (z6y.eq_2 a b c d e f)
def zr5{r}(a b c d e f):=evS (z73 · a b c d e f) r (z73.eq_2 a b c d e f)
def znr{r}(a b c):=evS (kzl · a b c) r (kzl.eq_2 a b c)
def zd9{r}(a b c d e):=evS (yz7 · a b c d e) r (yz7.eq_2 a b c d e)
def zkp{r}(a b c d e):=evS (yzl · a b c d e) r (yzl.eq_2 a b c d e)
set_option linter.unusedVariables false
theorem z01{α}{x y:List α}(h:x.length+y.length<=268435456):ext x y=some (x++y):=by simp_all[ext,zh1]
def I64(x:Int):Prop := -9223372036854775808<=x∧x<=9223372036854775807
theorem yf0{x}(h:I64 x):Ev (λn=>zbb n x) (x.natAbs:Int):=by
 unfold I64 at h;rw[yg8];simp[Ev.pif,Ev.yz0,Qar]
 grind[wUn,wU]
theorem ytc:∀(b a:Nat),Ev (λn=>z8u n (b:Int) (a:Int)) (Nat.gcd a b:Int):=by
 intro b
 induction b using Nat.strongRecOn with
 |ind b ih=>
  intro a;rw[y95];by_cases hb:b=0
  simp_all[Ev.pif,Ev.yz0]
  have hm:rem .u64 (a:Int) (b:Int)=some ((a % b:Nat):Int):=by
   simp_all[rem,Int.tmod_eq_emod_of_nonneg]
  rw[Ev.kz1 (by simpa using hb),Ev.yz2 hm]
  grind[Nat.mod_lt,Nat.gcd_comm,Nat.gcd_rec]
theorem yvx{a b:Nat}:Ev (λn=>zfc n (a:Int) (b:Int)) (Nat.gcd a b:Int):=by
 rw[ymy];exact ytc b a
def rok(r:yz4):Bool:=decide (1<=r.den)&&decide (r.den<=1000000000)&&decide (r.num.natAbs<=1000000000)&&(Nat.gcd r.num.natAbs r.den.natAbs==1)
theorem zjm{r}:rok r=true↔1<=r.den∧r.den<=1000000000∧r.num.natAbs<=1000000000∧Nat.gcd r.num.natAbs r.den.natAbs=1:=by
 simp[rok,and_assoc]
theorem y7j{r}(h:I64 r.num):Ev (λn=>z7v n r) (if rok r then 0 else 8):=by
 have l0:∀b,Ev (λn=>z0r n b) (if b then 8 else 0):=λb=>by
  simp_all[y4s,Ev.pif,Ev.yz0]
 rw[ybm];simp[Ev.pif,Qar];split;refine(l0 _).to ?_;rw[Qbq rfl,Qbr];rw[zjm];omega;split;refine(l0 _).to ?_;rw[Qbq rfl,Qbr];rw[zjm];omega;rw[Ev.zz0 (yf0 h)];simp[Ev.pif,Qar];split;refine(l0 _).to ?_;rw[Qbq rfl,Qbr];rw[zjm];omega;rw[Ev.zz0 (yf0 h),wU (by omega)];have hd:r.den=(r.den.natAbs:Int):=by omega
 rw[hd,Ev.zz0 yvx];refine(l0 _).to ?_
 have:((((Nat.gcd r.num.natAbs r.den.natAbs:Nat):Int) != 1)=true)↔¬rok r=true:=by
  rw[zjm]
  grind
 by_cases hr:rok r=true
 grind
 grind
theorem z00x(a b:Int):Nat.gcd a.natAbs b.natAbs=Nat.gcd b.natAbs (a.tmod b).natAbs:=by
 grind[Int.natAbs_tmod,Nat.gcd_comm,Nat.gcd_rec]
theorem yhg:∀(m) (b a),b.natAbs=m->I64 a->I64 b->¬a = -9223372036854775808->¬b = -9223372036854775808->Ev (λn=>z2w n b a) (Nat.gcd a.natAbs b.natAbs:Int):=by
 intro m
 induction m using Nat.strongRecOn with
 |ind m ih=>
  intro b a hm ha hb ha0 hb0;unfold I64 at ha hb;rw[y31];by_cases h0:b=0;subst h0;simp only[Ev.pif,Ev.yz0,Qar];rw[Qbr (by simp)]
  grind[wI]
  have hr:rem .i64 a b=some (a.tmod b):=by unfold rem;rw[Qbr h0]
  have h1:(a.tmod b).natAbs<b.natAbs:=by rw[Int.natAbs_tmod];exact Nat.mod_lt _ (by omega)
  rw[Ev.kz1 (by simpa using h0),Ev.yz2 hr];have:=ih _ (by rw[<-hm];exact h1) (a.tmod b) b rfl hb (by unfold I64;omega) hb0 (by omega);rw[z00x a b];exact this
theorem yng{a b}(ha:I64 a)(hb:I64 b)(ha0:¬a = -9223372036854775808)(hb0:¬b = -9223372036854775808):Ev (λn=>zan n a b) (Nat.gcd a.natAbs b.natAbs:Int):=by
 rw[y9l];exact yhg _ b a rfl ha hb ha0 hb0
theorem yoq{r}:Ev (λn=>zc1 n r) (if rok r then 0 else 8):=by
 have l0:∀b,Ev (λn=>yzx n b) (if b then 8 else 0):=λb=>by
  simp_all[y3o,Ev.pif,Ev.yz0]
 rw[ybb];simp[Ev.pif,Qar];split;refine(l0 _).to ?_;rw[Qbq rfl,Qbr];rw[zjm];omega;split;refine(l0 _).to ?_;rw[Qbq rfl,Qbr];rw[zjm];omega;split;refine(l0 _).to ?_;rw[Qbq rfl,Qbr];rw[zjm];omega;split;refine(l0 _).to ?_;rw[Qbq rfl,Qbr];rw[zjm];omega;rw[Ev.zz0 (yng (by unfold I64;omega) (by unfold I64;omega) (by omega) (by omega))];refine(l0 _).to ?_
 have:((((Nat.gcd r.num.natAbs r.den.natAbs:Nat):Int) != 1)=true)↔¬rok r=true:=by
  rw[zjm]
  grind
 by_cases hr:rok r=true
 grind
 grind
def wfR(r:yz4):Prop:=I64 r.num∧I64 r.den
def fdiv(a b:yz4):Int×Int:=(a.num * b.den,a.den * b.num)
theorem z051{r}(h:rok r=true):(-1000000000<=r.num∧r.num<=1000000000)∧(-1000000000<=r.den∧r.den<=1000000000)∧1<=r.den:=by
 rw[zjm]at h;omega
theorem ya9{P:kz0->Prop}(h:∀v:kz0,(∀x,x∈v.list->P x)->P v)(v):P v:=h v λx hx=>ya9 h x
termination_by v
decreasing_by exact kz0.y4o hx
mutual
def zel:kz0->Nat
 |⟨k,_,_,_,l⟩=>if k=4 then 1+z96 l else 1
def z96:zzw->Nat
 |[]=>0
 |x::l=>zel x+z96 l
end
mutual
def zga:kz0->Nat
 |⟨k,_,_,_,l⟩=>if k=4 then max 1 (zky l)else 1
def zky:zzw->Nat
 |[]=>0
 |x::l=>max (1+zga x) (zky l)
end
theorem zqu(v):zel v=if v.kind=4 then 1+z96 v.list else 1:=by cases v;rw[zel]
theorem y3e(v):zga v=if v.kind=4 then max 1 (zky v.list)else 1:=by cases v;rw[zga]
theorem z01c{l:zzw}{x}(h:x∈l):x.size<=(l.map kz0.size).sum:=by
 induction l with
 |nil=>cases h
 |cons y l ih=>
  rcases Qbg.1 h with rfl|h
  simp
  grind
theorem zab(v:kz0):(v.list.map kz0.size).sum+v.str.length+4<=v.size:=by rw[kz0.size_eq];omega
theorem zlu{v x:kz0}(h:x∈v.list):x.size<=v.size:=by have:=z01c h;have:=zab v;omega
theorem zho(l:zzw):l.length<=(l.map kz0.size).sum:=by
 induction l with
 |nil=>simp
 |cons x l ih=>have:=zab x;simp;omega
theorem zy7:∀v:kz0,zel v<=v.size:=ya9 λv ih=>by
 have:∀l:zzw,(∀x,x∈l->x∈v.list)->z96 l<=(l.map kz0.size).sum:=λl=>by
  induction l with
  |nil=>intro _;simp[z96]
  |cons x l ihl=>
   grind[z96]
 grind[zab,zqu]
theorem ypg:∀v:kz0,zga v<=zel v:=ya9 λv ih=>by
 have:∀l:zzw,(∀x,x∈l->x∈v.list)->zky l<=1+z96 l:=λl=>by
  induction l with
  |nil=>intro _;simp[zky]
  |cons x l ihl=>
   grind[z96,zky]
 grind[zqu,y3e]
theorem yar(l):z96 l<=(l.map kz0.size).sum:=by
 induction l with
 |nil=>simp[z96]
 |cons x l ih=>grind[zy7,z96]
theorem ygb:∀v:kz0,v.size<=8388608->Ev (λn=>z79 n v) ((zel v:Int),(zga v:Int)):=ya9 λv ih hs=>by
 have l1:∀d p,Ev (λn=>z1w n d p) (p,d):=λd p=>by rw[zyh,Ev.yz0]
 have hsl:=zab v;have hlen:=zho v.list
 have loop:∀k,k<=v.list.length->∀d p:Nat,p+z96 (v.list.drop k)<=8388609->d<=8388609->Ev (λn=>z1v n (k:Int) (d:Int) (p:Int) v.list (v.list.length:Int)) (((p+z96 (v.list.drop k):Nat):Int),((max d (zky (v.list.drop k)):Nat):Int)) :=
  down (λd p hp hd=>by
   simp_all[zl5,Ev.zz2,z96,zky]) λk hk ihk d p hp hd=>by
   have hx:=Qad hk;have hsx:=zlu hx;rw[<-Qah (h:=hk)]at hp ⊢;simp[z96,zky]at hp ⊢;have hpl:=zy7 v.list[k];have hdl:=ypg v.list[k];rw[zl5,Ev.kz1 (by simpa using hk),Ev.yz2 (zz5 hk),kz0.kz3,Ev.zz0 (ih _ hx (by omega)),wI (x:=_+1) (by omega),wI (x:=(zga _:Int)+1) (by omega),wI (x:=(p:Int)+_) (by omega)];have e1:(k:Int)+1=((k+1:Nat):Int):=by omega
   have e2:(zga v.list[k]:Int)+1=((1+zga v.list[k]:Nat):Int):=by omega
   have e3:(p:Int)+(zel v.list[k]:Int)=((p+zel v.list[k]:Nat):Int):=by omega
   rw[e1,e2,e3,yaj];refine(ihk (max d (1+zga v.list[k])) (p+zel v.list[k]) (by omega) (by omega)).to ?_
   congr 2 <;> omega
 rw[y6e];by_cases hk:v.kind=4;rw[Ev.kz1 (by simpa using hk)];have hv:=yar v.list;have:=loop 0 (Qbo _) 1 1 (by simp;omega) (by omega)
 simp_all[zqu,y3e]
 simp_all[Ev.zz2,zqu,y3e]
theorem y8i:∀v:kz0,v.size<=8388608->Ev (λn=>z7y n v) (zel v:Int):=ya9 λv ih hs=>by
 have hsl:=zab v;have hlen:=zho v.list;rw[ybc,kz0.kz3,zqu];by_cases hk:v.kind=4;rw[Qbq hk];have hkk:=by simpa using hk
 have loop:∀k,k<=v.list.length->∀p:Nat,p+z96 (v.list.drop k)<=8388609->Ev (λn=>z4n n (k:Int) (p:Int) v) ((p+z96 (v.list.drop k):Nat):Int) :=
  down (λp hp=>by
   simp_all[zia,Ev.zz2,zhq,Ev.yz0,z96]) λk hk ihk p hp=>by
   have hx:=Qad hk;have hsx:=zlu hx;rw[<-Qah (h:=hk)]at hp ⊢;simp[z96]at hp ⊢;have hpl:=zy7 v.list[k];rw[zia,Ev.kz1 (by simpa using hk),hkk,kz0.kz3,zhq,Ev.kz1 (by rfl),Ev.yz2 (zz5 hk),kz0.kz3,Ev.zz0 (ih _ hx (by omega)),wI (x:=_+1) (by omega),wI (x:=(p:Int)+_) (by omega)];have e1:(k:Int)+1=((k+1:Nat):Int):=by omega
   have e3:(p:Int)+(zel v.list[k]:Int)=((p+zel v.list[k]:Nat):Int):=by omega
   rw[e1,e3,kz0.kz3];refine(ihk (p+zel v.list[k]) (by omega)).to ?_
   congr 1;omega
 have hv:=yar v.list;exact loop 0 (Qbo _) 1 (by simp;omega);have hkk:(v.kind==4)=false:=by simpa using hk
 have l1:Ev (λn=>z52 n 0 1 false v) 1:=by rw[zhq,Ev.zz2 (by rfl),Ev.yz0]
 rw[zia,hkk,kz0.kz3,Ev.pif];split <;> exact l1
theorem yut:∀v:kz0,v.size<=8388608->Ev (λn=>zbl n v) (zga v:Int):=ya9 λv ih hs=>by
 have hsl:=zab v;have hlen:=zho v.list;rw[yft,kz0.kz3,y3e];by_cases hk:v.kind=4;rw[Qbq hk];have hkk:=by simpa using hk
 have loop:∀k,k<=v.list.length->∀p:Nat,p<=8388609->Ev (λn=>z64 n (k:Int) (p:Int) v) ((max p (zky (v.list.drop k)):Nat):Int) :=
  down (λp hp=>by
   simp_all[zj5,Ev.zz2,zj6,Ev.yz0,zky]) λk hk ihk p hp=>by
   have hx:=Qad hk;have hsx:=zlu hx;rw[<-Qah (h:=hk)];simp[zky];have hpl:=zy7 v.list[k];have hdl:=ypg v.list[k];rw[zj5,Ev.kz1 (by simpa using hk),hkk,kz0.kz3,zj6,Ev.kz1 (by rfl),Ev.yz2 (zz5 hk),kz0.kz3,Ev.zz0 (ih _ hx (by omega)),wI (x:=_+1) (by omega),wI (x:=1+_) (by omega)];have e1:(k:Int)+1=((k+1:Nat):Int):=by omega
   have e3:1+(zga v.list[k]:Int)=((1+zga v.list[k]:Nat):Int):=by omega
   rw[e1,e3,kz0.kz3,yaj];refine(ihk (max p (1+zga v.list[k])) (by omega)).to ?_
   congr 1;omega
 exact loop 0 (Qbo _) 1 (by omega);have hkk:(v.kind==4)=false:=by simpa using hk
 have l1:Ev (λn=>z6j n 0 1 false v) 1:=by rw[zj6,Ev.zz2 (by rfl),Ev.yz0]
 rw[zj5,hkk,kz0.kz3,Ev.pif];split <;> exact l1
def v0:kz0:=⟨0,⟨0,0⟩,false,[],[]⟩
def zuw(c:UInt8):Bool:=decide (32<=c.toNat)&&decide (c.toNat<=126)
def nul(v:yz4):Bool:=v.num==0&&v.den==0
mutual
def ziu:kz0->Bool
 |⟨k,q,t,s,l⟩ =>
  if k=1 then rok q&&(!t&&(s.isEmpty&&l.isEmpty))
  else if k=2 then nul q&&(s.isEmpty&&l.isEmpty)
  else if k=3 then nul q&&(!t&&(l.isEmpty&&(decide (s.length<=60)&&s.all zuw)))
  else if k=4 then nul q&&(!t&&(s.isEmpty&&zqf l))
  else false
def zqf:zzw->Bool
 |[]=>true
 |x::l=>ziu x&&zqf l
end
theorem zrt(v):ziu v =
 if v.kind=1 then rok v.num&&(!v.truth&&(v.str.isEmpty&&v.list.isEmpty))
 else if v.kind=2 then nul v.num&&(v.str.isEmpty&&v.list.isEmpty)
 else if v.kind=3 then nul v.num&&(!v.truth&&(v.list.isEmpty&&(decide (v.str.length<=60)&&v.str.all zuw)))
 else if v.kind=4 then nul v.num&&(!v.truth&&(v.str.isEmpty&&zqf v.list))
 else false:=by cases v;rw[ziu]
def zkj(v:kz0):Int:=if 100<zel v∨6<zga v then 4 else if ziu v then 0 else 8
theorem z06g{v:kz0}(h:v.wf):wfR v.num:=by
 grind[kz0.z5u,yz4.z5u,wfR,I64,IntKind.min,IntKind.max,IntKind.signed,IntKind.bits]
theorem z03o{v:kz0}(h:v.wf):∀x∈v.list,x.wf:=by
 rw[kz0.z5u]at h;exact h.2.2.2.2
theorem zjj{v}:Ev (λn=>z1q n v) (nul v.num&&(!v.truth&&(v.str.isEmpty&&v.list.isEmpty))):=by
 rw[y6v];obtain⟨k,⟨p,q⟩,t,s,l⟩:=v;simp only[Ev.pif,Ev.yz0,nul,Bool.and_true];cases p==0 <;> cases q==0 <;> cases t <;> cases s <;> cases l <;> simp <;> omega
theorem ysp:∀v:kz0,v.wf->v.size<=8388608->Ev (λn=>zbk n v) (ziu v):=ya9 λv ih hw hs=>by
 have hsl:=zab v;have hlen:=zho v.list;rw[yhq,zrt];by_cases h1:v.kind=1;rw[Qbq h1,Ev.kz1 (by simpa using h1),Ev.zz0 (y7j (z06g hw).1)];cases hr:rok v.num
 simp_all[Ev.kz1,Ev.yz0]
 rw[Ev.zz2 (by rfl)];exact zjj;rw[Qbr h1,Ev.zz2 (by simpa using h1)];by_cases h2:v.kind=2;rw[Qbq h2,Ev.kz1 (by simpa using h2)];exact zjj;rw[Qbr h2,Ev.zz2 (by simpa using h2)];by_cases h3:v.kind=3;rw[Qbq h3,Ev.kz1 (by simpa using h3)];by_cases hl:v.str.length<=60;rw[Ev.zz2 (by simp;omega),kz0.kz3]
 have loop:∀w:kz0,∀k,k<=v.str.length->Ev (λn=>z6z n (k:Int) v w) ((v.str.drop k).all zuw&&(nul w.num&&(!w.truth&&(w.str.isEmpty&&w.list.isEmpty)))):=λw=>
  down (by
   simp_all[zrk,Ev.zz2,zjj]) λk hk ihk=>by
   have bad:Ev (λn=>z65 n (k:Int) true v w) false:=by rw[zro,Ev.kz1 (by rfl),Ev.yz0]
   rw[<-Qah (h:=hk),List.all_cons];rw[zrk,Ev.kz1 (by simpa using hk),Ev.yz2 (zz5 hk),kz0.kz3,kz0.kz3];by_cases c1:v.str[k].toNat<32;rw[Ev.kz1 (by simp;omega)]
   grind[zuw]
   rw[Ev.zz2 (by simp;omega),Ev.yz2 (zz5 hk)];by_cases c2:v.str[k].toNat>126
   grind[zuw]
   rw[show decide ((v.str[k].toNat:Int)>126)=false by simp;omega,zro,Ev.zz2 (by rfl),wrk (by omega),kz0.kz3,kz0.kz3]
   simp_all[zuw]
 refine(loop ⟨v.kind,v.num,v.truth,[],v.list⟩ 0 (Qbo _)).to ?_;simp[List.isEmpty_nil]
 grind
 rw[Ev.kz1 (by simp;omega),Ev.yz0];simp[hl];rw[Qbr h3,Ev.zz2 (by simpa using h3)];by_cases h4:v.kind=4;rw[Qbq h4,Ev.kz1 (by simpa using h4)]
 have loop:∀w:kz0,∀k,k<=v.list.length->Ev (λn=>z6h n (k:Int) v.list (v.list.length:Int) w) (zqf (v.list.drop k)&&(nul w.num&&(!w.truth&&(w.str.isEmpty&&w.list.isEmpty)))):=λw=>
  down (by
   simp_all[zsl,Ev.zz2,zqf,zjj]) λk hk ihk=>by
   have hx:=Qad hk;have hsx:=zlu hx;rw[<-Qah (h:=hk),zqf];rw[zsl,Ev.kz1 (by simpa using hk),Ev.yz2 (zz5 hk),kz0.kz3,Ev.zz0 (ih _ hx (z03o hw _ hx) (by omega))];cases hf:ziu v.list[k]
   simp_all[Ev.kz1,Ev.yz0]
   rw[Ev.zz2 (by rfl),wrk (by omega),kz0.kz3,Bool.true_and];exact ihk
 refine(loop ⟨v.kind,v.num,v.truth,v.str,[]⟩ 0 (Qbo _)).to ?_;simp[Bool.and_true]
 grind
 simp_all[Ev.zz2,Ev.yz0]
theorem y8f{v}(hw:v.wf)(hs:v.size<=8388608):Ev (λn=>z7p n v) (zkj v):=by
 have l0:∀b,Ev (λn=>z41 n b v) (if b then 4 else if ziu v then 0 else 8):=λb=>by
  rw[y4g];cases b;rw[Ev.zz2 (by rfl),kz0.kz3,Ev.zz0 (ysp v hw hs)];cases ziu v
  simp_all[Ev.kz1,Ev.yz0]
  simp_all[Ev.zz2,Ev.yz0]
  simp_all[Ev.kz1,Ev.yz0]
 rw[ybn,kz0.kz3,Ev.zz0 (ygb v hs)];unfold zkj;simp only[Ev.pif];by_cases h1:100<zel v;rw[Qbq (by simp;omega),Qbq (.inl h1)];exact l0 true;rw[Qbr (by simp;omega)];by_cases h2:6<zga v;rw[Qbq (.inr h2),show decide ((zga v:Int)>6)=true by simp;omega];exact l0 true;rw[Qbr (by omega),show decide ((zga v:Int)>6)=false by simp;omega];exact l0 false
theorem yt3:∀v:kz0,v.size<=8388608->Ev (λn=>zbm n v) (ziu v):=ya9 λv ih hs=>by
 have hsl:=zab v;have hlen:=zho v.list;rw[ygw,zrt];have hnul:((v.num.num==0)&&((v.num.den==0)&&true))=nul v.num:=by simp[nul]
 have hstr:((v.str.length:Int)==0)=v.str.isEmpty:=by cases v.str <;> simp;omega
 have hlst:((v.list.length:Int)==0)=v.list.isEmpty:=by cases v.list <;> simp;omega
 have hgt:decide ((v.list.length:Int)>0) = !v.list.isEmpty:=by cases v.list <;> simp
 have hgs:decide ((v.str.length:Int)>0) = !v.str.isEmpty:=by cases v.str <;> simp
 simp only[hnul,hstr,hlst,hgt,hgs];by_cases h1:v.kind=1;rw[Qbq h1,Ev.kz1 (by simpa using h1),Ev.zz0 yoq];cases hr:rok v.num <;> cases ht:v.truth <;> cases hss:v.str.isEmpty <;> simp[Ev.pif,Ev.yz0]
 rw[Qbr h1,Ev.zz2 (by simpa using h1)];by_cases h2:v.kind=2;rw[Qbq h2,Ev.kz1 (by simpa using h2)];cases hr:nul v.num <;> cases hss:v.str.isEmpty <;> simp[Ev.pif,Ev.yz0]
 rw[Qbr h2,Ev.zz2 (by simpa using h2)];by_cases h3:v.kind=3;rw[Qbq h3,Ev.kz1 (by simpa using h3)];have bad:Ev (λn=>z0f n true v) false:=by rw[zsj,Ev.kz1 (by rfl),Ev.yz0]
 have loop:∀k,k<=v.str.length->Ev (λn=>z6u n (k:Int) v) ((v.str.drop k).all zuw) :=
  down (by
   rw[zsz,Ev.zz2 (by simp),Ev.yz0]
   simp) λk hk ihk=>by
   have bad:Ev (λn=>z61 n (k:Int) true v) false:=by rw[zqz,Ev.kz1 (by rfl),Ev.yz0]
   rw[<-Qah (h:=hk),List.all_cons];rw[zsz,Ev.kz1 (by simpa using hk),Ev.yz2 (zz5 hk),kz0.kz3];by_cases c1:v.str[k].toNat<32;rw[Ev.kz1 (by simp;omega)];refine bad.to ?_;have:zuw v.str[k]=false:=by simp[zuw];omega
   rw[this];rfl;rw[Ev.zz2 (by simp;omega),Ev.yz2 (zz5 hk)];by_cases c2:v.str[k].toNat>126;rw[show decide ((v.str[k].toNat:Int)>126)=true by simp;omega];refine bad.to ?_;have:zuw v.str[k]=false:=by simp[zuw];omega
   rw[this];rfl;rw[show decide ((v.str[k].toNat:Int)>126)=false by simp;omega,zqz,Ev.zz2 (by rfl),wrk (by omega),kz0.kz3];have:zuw v.str[k]=true:=by simp[zuw];omega
   rw[this,Bool.true_and];exact ihk
 have good:Ev (λn=>z0f n false v) (v.str.all zuw):=by
  rw[zsj,Ev.zz2 (by rfl),kz0.kz3];simpa using loop 0 (Qbo _)
 rw[kz0.kz3];cases hr:nul v.num;rw[Ev.kz1 (by rfl)];exact bad;rw[Ev.zz2 (by rfl)];cases ht:v.truth;rw[Ev.zz2 (by rfl)];cases hl:v.list.isEmpty;rw[Ev.kz1 (by rfl)];exact bad;rw[Ev.zz2 (by rfl)];by_cases h60:v.str.length<=60;rw[show decide ((v.str.length:Int)>60)=false by simp;omega];simpa[h60]using good;rw[show decide ((v.str.length:Int)>60)=true by simp;omega];simpa[h60]using bad;rw[Ev.kz1 (by rfl)];exact bad
 rw[Qbr h3,Ev.zz2 (by simpa using h3)];by_cases h4:v.kind=4;rw[Qbq h4,Ev.kz1 (by simpa using h4)];have bad:Ev (λn=>z1r n true v) false:=by rw[zst,Ev.kz1 (by rfl),Ev.yz0]
 have loop:∀k,k<=v.list.length->Ev (λn=>z5z n (k:Int) v) (zqf (v.list.drop k)) :=
  down (by
   rw[zt5,Ev.zz2 (by simp),Ev.yz0]
   simp[zqf]) λk hk ihk=>by
   have hx:=Qad hk;have hsx:=zlu hx;rw[<-Qah (h:=hk),zqf];rw[zt5,Ev.kz1 (by simpa using hk),Ev.yz2 (zz5 hk),kz0.kz3,Ev.zz0 (ih _ hx (by omega))];cases hf:ziu v.list[k];rw[Ev.kz1 (by rfl),Ev.yz0];rfl;rw[Ev.zz2 (by rfl),wrk (by omega),kz0.kz3,Bool.true_and];exact ihk
 have good:Ev (λn=>z1r n false v) (zqf v.list):=by
  rw[zst,Ev.zz2 (by rfl),kz0.kz3];simpa using loop 0 (Qbo _)
 rw[kz0.kz3];cases hr:nul v.num;rw[Ev.kz1 (by rfl)];exact bad;rw[Ev.zz2 (by rfl)];cases ht:v.truth;rw[Ev.zz2 (by rfl)];cases hl:v.str.isEmpty;exact bad;simpa using good;rw[Ev.kz1 (by rfl)];exact bad;rw[Qbr h4,Ev.zz2 (by simpa using h4),Ev.yz0]
theorem yoo{v}(hs:v.size<=8388608):Ev (λn=>zc3 n v) (zkj v):=by
 have l0:∀b,Ev (λn=>z57 n b v) (if b then 4 else if ziu v then 0 else 8):=λb=>by
  rw[y3v];cases b;rw[Ev.zz2 (by rfl),kz0.kz3,Ev.zz0 (yt3 v hs)];cases ziu v
  simp_all[Ev.kz1,Ev.yz0]
  simp_all[Ev.zz2,Ev.yz0]
  simp_all[Ev.kz1,Ev.yz0]
 rw[yeb,kz0.kz3,Ev.zz0 (y8i v hs)];unfold zkj;by_cases h1:100<zel v;rw[Ev.kz1 (by simp;omega),Qbq (.inl h1)];exact l0 true;rw[Ev.zz2 (by simp;omega),Ev.zz0 (yut v hs)];by_cases h2:6<zga v;rw[Qbq (.inr h2),show decide ((zga v:Int)>6)=true by simp;omega];exact l0 true;rw[Qbr (by omega),show decide ((zga v:Int)>6)=false by simp;omega];exact l0 false
theorem vext{a b:kz0}(h1:a.kind=b.kind)(h2:a.num.num=b.num.num)(h3:a.num.den=b.num.den)(h4:a.truth=b.truth)(h5:a.str=b.str)(h6:a.list=b.list):a=b:=by
 obtain⟨k,⟨p,q⟩,t,s,l⟩:=a;obtain⟨k',⟨p',q'⟩,t',s',l'⟩:=b
 simp_all
theorem ypc{α x y}{l m:List α}:eqB (x::l) (y::m)=(eqB x y&&eqB l m):=by
 cases h:(eqB x y&&eqB l m)
 grind[zjb]
 simp_all[yd4]
theorem yty:∀a b:kz0,a.size<=8388608->Ev (λn=>z3r n a b) (eqB a b):=ya9 (P:=λa=>∀b:kz0,a.size<=8388608->Ev (λn=>z3r n a b) (eqB a b)) λa ih b hs=>by
 have hsl:=zab a;have hlen:=zho a.list;have bad:a≠b->Ev (λn=>z0b n true b a) (eqB a b):=λh=>by simp_all[zs4,Ev.kz1,Ev.yz0,zjb]
 rw[yg3,kz0.kz3,kz0.kz3];by_cases h1:a.kind=b.kind
 case neg=>rw[Ev.kz1 (by simpa using h1)];grind
 rw[Ev.zz2 (by simpa using h1)];by_cases h2:a.num.num=b.num.num∧a.num.den=b.num.den
 case neg=>rw[Ev.kz1 (by simp;omega)];grind
 rw[Ev.zz2 (by simp[h2])];by_cases h3:a.truth=b.truth
 case neg=>rw[Ev.kz1 (by simpa using h3)];grind
 rw[Ev.zz2 (by simp[h3])];by_cases h4:a.str=b.str
 case neg=>rw[Ev.kz1 (by simpa using h4)];grind
 rw[Ev.zz2 (by simp[h4])];by_cases h5:a.list.length=b.list.length
 case neg=>rw[show((a.list.length:Int) != (b.list.length:Int))=true by simp;omega];grind
 rw[show((a.list.length:Int) != (b.list.length:Int))=false by simp;omega,zs4,Ev.zz2 (by rfl),kz0.kz3,kz0.kz3]
 have loop:∀k,k<=a.list.length->Ev (λn=>z66 n (k:Int) (a.list.length:Int) b a) (eqB (a.list.drop k) (b.list.drop k)) :=
  down (by
   rw[zt3,Ev.zz2 (by simp),Ev.yz0,List.drop_length,h5,List.drop_length,yad]) λk hk ihk=>by
   have hk2:k<b.list.length:=by omega
   have hx:=Qad hk;have hsx:=zlu hx;rw[<-Qah (h:=hk),<-Qah (h:=hk2),ypc];rw[zt3,Ev.kz1 (by simpa using hk),Ev.yz2 (zz5 hk),Ev.yz2 (zz5 hk2),kz0.kz3,kz0.kz3,Ev.zz0 (ih _ hx _ (by omega))];cases hf:eqB a.list[k] b.list[k]
   simp_all[Ev.kz1,Ev.yz0]
   rw[Ev.zz2 (by rfl),wrk (by omega),kz0.kz3,kz0.kz3,Bool.true_and];exact ihk
 refine(loop 0 (Qbo _)).to ?_
 grind[vext,zjb]
theorem yu2:∀a b:kz0,a.size<=8388608->Ev (λn=>z3t n a b) (eqB a b):=ya9 (P:=λa=>∀b:kz0,a.size<=8388608->Ev (λn=>z3t n a b) (eqB a b)) λa ih b hs=>by
 have hsl:=zab a;have hlen:=zho a.list;have bad:a≠b->Ev (λn=>z0a n true b a) (eqB a b):=λh=>by simp_all[zr1,Ev.kz1,Ev.yz0,zjb]
 rw[ygl,kz0.kz3,kz0.kz3];by_cases h1:a.kind=b.kind
 case neg=>rw[Ev.kz1 (by simpa using h1)];grind
 rw[Ev.zz2 (by simpa using h1)];by_cases h2:a.num.num=b.num.num∧a.num.den=b.num.den
 case neg=>rw[Ev.kz1 (by simp;omega)];grind
 rw[Ev.zz2 (by simp[h2])];by_cases h3:a.truth=b.truth
 case neg=>rw[Ev.kz1 (by simpa using h3)];grind
 rw[Ev.zz2 (by simp[h3])];by_cases h4:a.str=b.str
 case neg=>rw[Ev.kz1 (by simpa using h4)];grind
 rw[Ev.zz2 (by simp[h4])];by_cases h5:a.list.length=b.list.length
 case neg=>rw[show((a.list.length:Int) != (b.list.length:Int))=true by simp;omega];grind
 rw[show((a.list.length:Int) != (b.list.length:Int))=false by simp;omega,zr1,Ev.zz2 (by rfl),kz0.kz3,kz0.kz3]
 have loop:∀k,k<=a.list.length->Ev (λn=>z62 n (k:Int) b a) (eqB (a.list.drop k) (b.list.drop k)) :=
  down (by
   rw[zr2,Ev.zz2 (by simp),Ev.yz0,List.drop_length,h5,List.drop_length,yad]) λk hk ihk=>by
   have hk2:k<b.list.length:=by omega
   have hx:=Qad hk;have hsx:=zlu hx;rw[<-Qah (h:=hk),<-Qah (h:=hk2),ypc];rw[zr2,Ev.kz1 (by simpa using hk),Ev.yz2 (zz5 hk),Ev.yz2 (zz5 hk2),kz0.kz3,kz0.kz3,Ev.zz0 (ih _ hx _ (by omega))];cases hf:eqB a.list[k] b.list[k]
   simp_all[Ev.kz1,Ev.yz0]
   rw[Ev.zz2 (by rfl),wrk (by omega),kz0.kz3,kz0.kz3,Bool.true_and];exact ihk
 refine(loop 0 (Qbo _)).to ?_
 grind[vext,zjb]
theorem z2m{α:Type}{l:List α}{k}(h):l.take k++[l[k]]=l.take (k+1):=by
 simp_all
theorem yri:∀v:kz0,v.size<=8388608->∀d:Int,∃b,Ev (λn=>za0 n v d) b:=ya9 λv ih hs d=>by
 have hsl:=zab v;have hlen:=zho v.list
 have loop:∀k,k<=v.list.length->∀d:Int,∃b,Ev (λn=>z4r n (k:Int) d v) b :=
  down (λd=>⟨false,by rw[zoh,Ev.zz2 (by simp),Ev.yz0]⟩) λk hk ihk d=>by
   have hx:=Qad hk;have hsx:=zlu hx;obtain⟨b,hb⟩:=ih _ hx (by omega) (IntKind.i64.wrap (d-1));obtain⟨c,hc⟩:=ihk d;refine⟨if b then true else c,?_⟩;rw[zoh,Ev.kz1 (by simpa using hk),Ev.yz2 (zz5 hk),kz0.kz3,Ev.zz0 hb,kz0.kz3,wrk (by omega)];cases b;rw[Ev.zz2 (by rfl)];exact hc
   simp_all[Ev.kz1,Ev.yz0]
 have l0:∀d b,∃c,Ev (λn=>z2f n d b v) c:=λd b=>by
  cases b;obtain⟨c,hc⟩:=loop 0 (Qbo _) d;exact⟨c,by simp_all[zol,Ev.zz2]⟩
  simp_all[zol,Ev.kz1,Ev.yz0]
 simp only[yc0,kz0.kz3,Ev.pif];split;exact l0 _ _;split;exact l0 _ _;exact l0 _ _
theorem yp7{v}(hs:v.size<=8388608):∃b,Ev (λn=>zc0 n v) b:=by
 obtain⟨b,hb⟩:=yri v hs 10;cases b;exact⟨_,by rw[zwf,kz0.kz3,Ev.zz0 hb,Ev.zz2 (by rfl),Ev.zz0 (y8i v hs)];exact Ev.yz0.2 rfl⟩;exact⟨true,by rw[zwf,kz0.kz3,Ev.zz0 hb,Ev.kz1 (by rfl),Ev.yz0]⟩
theorem yjs{v}(h:ziu v=true)(hk:v.kind=1):rok v.num=true:=by
 simp_all[zrt]
theorem y8a{v}(h:zkj v=0):ziu v=true∧zel v<=100∧zga v<=6:=by
 grind[zkj]
theorem ydc{v}(h:ziu v=true):v.kind=1∨v.kind=2∨v.kind=3∨v.kind=4:=by
 rw[zrt]at h;by_cases h1:v.kind=1;exact .inl h1;by_cases h2:v.kind=2;exact .inr (.inl h2);by_cases h3:v.kind=3;omega;by_cases h4:v.kind=4;omega
 simp_all
theorem z06f{v}(h:ziu v=true)(hk:v.kind=4):v.num.num=0∧v.num.den=0∧v.truth=false∧v.str=[]:=by
 simp_all[zrt,nul]
theorem ycx{s:B8}(hs:s.length<=8388608):Ev (λn=>zbo n s) (zm2 s):=by
 have l3t:∀q,Ev (λn=>kzv n true s q) false:=λq=>by rw[zrc,Ev.kz1 (by rfl),Ev.yz0]
 have step:∀k (hk:k<s.length) (r:Bool),((if k=0 then isLet s[k]else zgd s[k])=false->r=false)->((if k=0 then isLet s[k]else zgd s[k])=true->Ev (λn=>z0h n s (k+1)) r)->Ev (λn=>z0h n s k) r:=λk hk r hf ht=>by
  have l3:∀b,(if k=0 then isLet s[k]else zgd s[k]) = !b->(b=false->(zde s k).2=1)->Ev (λn=>kzv n b s (k+(zde s k).2)) r:=λb hb h1=>by
   cases b;rw[zrc,Ev.zz2 (by rfl),h1 rfl];exact ht hb;exact(l3t _).to (hf hb).symm
  rw[zsq,Ev.kz1 (by simpa using hk)];by_cases hlow:s[k].toNat<128;have hd:=yq2 hk hlow;rw[hd]at l3;rw[hd]
  have l2:∀b,b=isLet s[k]->Ev (λn=>z78 n (s[k].toNat:Int) (k:Int) b s (k+1)) r:=λb hb=>by
   subst hb;rw[zrv];cases hl:isLet s[k];rw[Ev.kz1 (by rfl)];by_cases h0:k=0;rw[Ev.kz1 (by simpa using h0)];exact l3 true (by rw[Qbq h0,hl];rfl) (by simp);rw[Ev.zz2 (by simpa using h0)];by_cases h45:s[k].toNat=45;have:s[k]=45:=UInt8.toNat_inj.1 (by simpa using h45);rw[Ev.zz2 (by simp;omega)];exact l3 false (by rw[Qbr h0,zgd,this];rfl) (λ_=>rfl)
   have hne:(s[k]==45)=false:=by
    simp only[beq_eq_false_iff_ne];intro h;rw[h]at h45;exact h45 rfl
   rw[Ev.kz1 (by simp;omega)];by_cases c1:s[k].toNat<48;rw[Ev.kz1 (by simp;omega)];refine l3 true ?_ (by simp);rw[Qbr h0,zgd,hl,hne,yjy];simp;omega;rw[Ev.zz2 (by simp;omega)];refine l3 _ ?_ (λ_=>rfl);rw[Qbr h0,zgd,hl,hne,yjy];have e1:decide (48<=s[k].toNat)=true:=by rw[Qar];omega
   have e3:decide ((s[k].toNat:Int)>57) = !decide (s[k].toNat<=57):=by
    by_cases c2:s[k].toNat<=57;rw[show decide (s[k].toNat<=57)=true by rw[Qar];exact c2];simp only[Bool.not_true,decide_eq_false_iff_not];omega;rw[show decide (s[k].toNat<=57)=false by rw[decide_eq_false_iff_not];exact c2];simp only[Bool.not_false,Qar];omega
   rw[e1,e3];simp;rw[Ev.zz2 (by rfl)];refine l3 false ?_ (λ_=>rfl);split;exact hl;rw[zgd,hl];rfl
  simp only;by_cases c1:97<=s[k].toNat;rw[Ev.kz1 (by simp;omega)];exact l2 _ (by simp[isLet,c1];omega);rw[Ev.zz2 (by simp;omega)];exact l2 _ (by simp[isLet];omega);obtain⟨h1,h2⟩:=yxn hk (by omega);have nl:isLet s[k]=false:=by simp[isLet];omega
  have nm:zgd s[k]=false:=by
   rw[zgd,nl,yjy];have:(s[k]==45)=false:=by simp only[beq_eq_false_iff_ne];intro h;rw[h]at hlow;exact hlow (by decide)
   rw[this];simp;omega
  have bad:(if k=0 then isLet s[k]else zgd s[k])=false:=by split <;> assumption
  rw[Ev.kz1 (by simp;omega),show decide (((zde s k).1:Int)<=122)=false by simp;omega,zrv,Ev.kz1 (by rfl)];by_cases h0:k=0;rw[Ev.kz1 (by simpa using h0)];exact(l3t _).to (hf bad).symm;rw[Ev.zz2 (by simpa using h0),Ev.kz1 (by simp;omega),Ev.zz2 (by simp;omega),show decide (((zde s k).1:Int)>57)=true by simp;omega];exact(l3t _).to (hf bad).symm
 have rest:∀k,k<=s.length->1<=k->Ev (λn=>z0h n s k) ((s.drop k).all zgd) :=
  down (Q:=λk=>1<=k->Ev (λn=>z0h n s k) ((s.drop k).all zgd)) (λ_=>by
   rw[zsq,Ev.zz2 (by simp),Ev.yz0];simp) λk hk ih h1=>by
   rw[<-Qah (h:=hk),List.all_cons];refine step k hk _ (λh =>?_) λh =>?_
   rw[Qbr (by omega)]at h;rw[h];rfl;rw[Qbr (by omega)]at h;rw[h];exact ih (by omega)
 rw[yg9]
 cases s with
 |nil=>rw[Ev.kz1 (by rfl),zru,Ev.kz1 (by rfl),Ev.yz0];rfl
 |cons c t=>
  rw[Ev.zz2 (by simp;omega),zru];by_cases h40:(c::t).length<=40;rw[Ev.zz2 (by simp at h40 ⊢;omega)];refine step 0 (by simp) _ (λh =>?_) λh =>?_
  rw[Qbq rfl]at h;simp only[List.getElem_cons_zero]at h;simp[zm2,h];rw[Qbq rfl]at h;simp only[List.getElem_cons_zero]at h;refine(rest 1 (by simp) (Qbp _)).to ?_;simp[zm2,h];intro _;simpa using h40
  rw[Ev.kz1 (by simp at h40 ⊢;omega),Ev.yz0];simp[zm2];intro _ _;simpa using h40
theorem ynd{c}:Ev (λn=>zaa n (c.toNat:Int)) (isLet c):=by
 rw[ya7];simp[Ev.pif,Ev.yz0,isLet,Qar]
 grind
theorem yqf{c}:Ev (λn=>zc6 n (c.toNat:Int)) (yjy c):=by
 rw[ycg];simp[Ev.pif,Ev.yz0,yjy,Qar]
 grind
theorem z065{c:UInt8}:(((c.toNat:Nat):Int) != 45) = !(c==45):=by
 cases h:c==45 with
 |true=>simp_all
 |false=>
  have:c.toNat≠45:=λhh=>by
   have:c=45:=UInt8.toNat_inj.1 (by simpa using hh);subst this;cases h
  simp;omega
theorem ye2{s}(hs:s.length<=8388608):Ev (λn=>zbh n s) (zm2 s):=by
 have bad:∀k:Int,Ev (λn=>z0g n s k true) false:=λk=>by rw[zry,Ev.kz1 (by rfl),Ev.yz0]
 have step:∀k (hk:k<s.length) (r:Bool),((if k=0 then isLet s[k]else zgd s[k])=false->r=false)->((if k=0 then isLet s[k]else zgd s[k])=true->Ev (λn=>kzw n ((k+1:Nat):Int) s) r)->Ev (λn=>kzw n (k:Int) s) r:=λk hk r hf ht=>by
  have l1:∀b,(if k=0 then isLet s[k]else zgd s[k]) = !b->Ev (λn=>z0g n s (k:Int) b) r:=λb hb=>by
   cases b;rw[zry,Ev.zz2 (by rfl),wrk (by omega)];exact ht hb
   simp_all
  rw[zs5,Ev.kz1 (by simpa using hk),Ev.yz2 (zz5 hk),Ev.zz0 ynd];cases hl:isLet s[k];rw[Ev.kz1 (by rfl)];by_cases h0:k=0
  simp_all[Ev.kz1]
  rw[Ev.zz2 (by simpa using h0),Ev.yz2 (zz5 hk),z065];cases h45:s[k]==45;rw[Ev.kz1 (by rfl),Ev.yz2 (zz5 hk),Ev.zz0 yqf];exact l1 _ (by rw[Qbr h0,zgd,hl,h45];simp)
  simp_all[Ev.zz2,zgd]
  simp_all[Ev.zz2,zgd]
 have fin:∀r:Bool,r=(decide (1<=s.length)&&decide (s.length<=40))->Ev (λn=>kzw n (s.length:Int) s) r:=λr hr=>by
  rw[zs5,Ev.zz2 (by simp),hr];by_cases h1:1<=s.length;rw[Ev.kz1 (by simp;omega),Ev.yz0];simp[h1];omega
  simp_all[Ev.zz2,Ev.yz0]
 have rest:∀k,k<=s.length->1<=k->Ev (λn=>kzw n (k:Int) s) ((s.drop k).all zgd&&decide (s.length<=40)) :=
  down (Q:=λk=>1<=k->Ev (λn=>kzw n (k:Int) s) ((s.drop k).all zgd&&decide (s.length<=40))) (λh1=>by
   grind) λk hk ih h1=>by
   rw[<-Qah (h:=hk),List.all_cons];refine step k hk _ (λh =>?_) λh =>?_
   rw[Qbr (by omega)]at h;rw[h];rfl
   grind
 rw[yi9]
 cases s with
 |nil=>exact fin _ rfl
 |cons c t=>
  refine step 0 (by simp) _ (λh =>?_) λh =>?_
  rw[Qbq rfl]at h;grind[zm2];rw[Qbq rfl]at h;simp only[List.getElem_cons_zero]at h;refine(rest 1 (by simp) (Qbp _)).to ?_;simp[zm2,h]
def zks(s:B8):Bool:=zm2 s&&(!(s==[116,114,117,101]) && !(s==[102,97,108,115,101]))
theorem ytm{s}(hs:s.length<=8388608):Ev (λn=>zdr n s) (zks s):=by
 rw[yif,Ev.zz0 (ycx hs)]
 simp_all[zks,Ev.pif,Ev.yz0]
theorem yo1{s}(hs:s.length<=8388608):Ev (λn=>zby n s) (zks s):=by
 rw[yee,Ev.zz0 (ye2 hs)]
 simp_all[zks,Ev.pif,Ev.yz0]
theorem zvv{P:zz1->Prop}(h:∀e:zz1,(∀x,x∈e.args->P x)->P e)(e):P e:=h e λx hx=>zvv h x
termination_by e
decreasing_by exact zz1.y4i hx
mutual
def z7a:zz1->Nat
 |⟨_,_,_,l⟩=>1+kzk l
def kzk:yz6->Nat
 |[]=>0
 |x::l=>z7a x+kzk l
end
mutual
def zg9:zz1->Nat
 |⟨_,_,_,l⟩=>max 1 (zkk l)
def zkk:yz6->Nat
 |[]=>0
 |x::l=>max (1+zg9 x) (zkk l)
end
theorem zai(e):z7a e=1+kzk e.args:=by cases e;rw[z7a]
theorem ybz(e):zg9 e=max 1 (zkk e.args):=by cases e;rw[zg9]
theorem zy6{l:yz6}{x}(h:x∈l):x.size<=(l.map zz1.size).sum:=by
 induction l with
 |nil=>cases h
 |cons y l ih=>
  rcases Qbg.1 h with rfl|h
  simp
  grind
theorem z9r(e:zz1):(e.args.map zz1.size).sum+e.name.length+e.value.size+4<=e.size:=by rw[zz1.size_eq];omega
theorem zjv{e x:zz1}(h:x∈e.args):x.size<=e.size:=by have:=zy6 h;have:=z9r e;omega
theorem zcb(l:yz6):l.length<=(l.map zz1.size).sum:=by
 induction l with
 |nil=>simp
 |cons x l ih=>have:=z9r x;simp;omega
theorem zso:∀e:zz1,z7a e<=e.size:=zvv λe ih=>by
 have:∀l:yz6,(∀x,x∈l->x∈e.args)->kzk l<=(l.map zz1.size).sum:=λl=>by
  induction l with
  |nil=>intro _;simp[kzk]
  |cons x l ihl=>
   grind[kzk]
 grind[z9r,zai]
theorem yp6:∀e:zz1,zg9 e<=z7a e:=zvv λe ih=>by
 have:∀l:yz6,(∀x,x∈l->x∈e.args)->zkk l<=1+kzk l:=λl=>by
  induction l with
  |nil=>intro _;simp[zkk]
  |cons x l ihl=>
   grind[kzk,zkk]
 have:=this e.args λ_ h=>h
 rw[zai,ybz];omega
theorem yaw(l):kzk l<=(l.map zz1.size).sum:=by
 induction l with
 |nil=>simp[kzk]
 |cons x l ih=>grind[zso,kzk]
theorem yjz:∀e:zz1,e.size<=8388608->Ev (λn=>z8m n e) ((z7a e:Int),(zg9 e:Int)):=zvv λe ih hs=>by
 have hsl:=z9r e;have hlen:=zcb e.args
 have loop:∀k,k<=e.args.length->∀d p:Nat,p+kzk (e.args.drop k)<=8388609->d<=8388609->Ev (λn=>z32 n (k:Int) (d:Int) (p:Int) e.args (e.args.length:Int)) (((p+kzk (e.args.drop k):Nat):Int),((max d (zkk (e.args.drop k)):Nat):Int)) :=
  down (λd p hp hd=>by
   simp_all[zm7,Ev.zz2,Ev.yz0,kzk,zkk]) λk hk ihk d p hp hd=>by
   have hx:=Qad hk;have hsx:=zjv hx;rw[<-Qah (h:=hk)]at hp ⊢;simp[kzk,zkk]at hp ⊢;have hpl:=zso e.args[k];have hdl:=yp6 e.args[k];rw[zm7,Ev.kz1 (by simpa using hk),Ev.yz2 (zz5 hk),zz1.kz3,Ev.zz0 (ih _ hx (by omega)),wI (x:=_+1) (by omega),wI (x:=(zg9 _:Int)+1) (by omega),wI (x:=(p:Int)+_) (by omega)];have e1:(k:Int)+1=((k+1:Nat):Int):=by omega
   have e2:(zg9 e.args[k]:Int)+1=((1+zg9 e.args[k]:Nat):Int):=by omega
   have e3:(p:Int)+(z7a e.args[k]:Int)=((p+z7a e.args[k]:Nat):Int):=by omega
   rw[e1,e2,e3,yaj];refine(ihk (max d (1+zg9 e.args[k])) (p+z7a e.args[k]) (by omega) (by omega)).to ?_
   congr 2 <;> omega
 rw[ya5];have hv:=yaw e.args;have:=loop 0 (Qbo _) 1 1 (by simp;omega) (by omega)
 grind[zai,ybz]
theorem y7l:∀e:zz1,e.size<=8388608->Ev (λn=>z84 n e) (z7a e:Int):=zvv λe ih hs=>by
 have hsl:=z9r e;have hlen:=zcb e.args;rw[ych,zz1.kz3,zai]
 have loop:∀k,k<=e.args.length->∀p:Nat,p+kzk (e.args.drop k)<=8388609->Ev (λn=>z4p n (k:Int) (p:Int) e) ((p+kzk (e.args.drop k):Nat):Int) :=
  down (λp hp=>by
   simp_all[zoz,Ev.zz2,Ev.yz0,kzk]) λk hk ihk p hp=>by
   have hx:=Qad hk;have hsx:=zjv hx;rw[<-Qah (h:=hk)]at hp ⊢;simp[kzk]at hp ⊢;have hpl:=zso e.args[k];rw[zoz,Ev.kz1 (by simpa using hk),Ev.yz2 (zz5 hk),zz1.kz3,Ev.zz0 (ih _ hx (by omega)),wI (x:=_+1) (by omega),wI (x:=(p:Int)+_) (by omega)];have e1:(k:Int)+1=((k+1:Nat):Int):=by omega
   have e3:(p:Int)+(z7a e.args[k]:Int)=((p+z7a e.args[k]:Nat):Int):=by omega
   rw[e1,e3,zz1.kz3];refine(ihk (p+z7a e.args[k]) (by omega)).to ?_
   congr 1;omega
 have hv:=yaw e.args;exact loop 0 (Qbo _) 1 (by simp;omega)
theorem yta:∀e:zz1,e.size<=8388608->Ev (λn=>zbp n e) (zg9 e:Int):=zvv λe ih hs=>by
 have hsl:=z9r e;have hlen:=zcb e.args;rw[yhi,zz1.kz3,ybz]
 have loop:∀k,k<=e.args.length->∀p:Nat,p<=8388609->Ev (λn=>z6n n (k:Int) (p:Int) e) ((max p (zkk (e.args.drop k)):Nat):Int) :=
  down (λp hp=>by
   simp_all[zrr,Ev.zz2,Ev.yz0,zkk]) λk hk ihk p hp=>by
   have hx:=Qad hk;have hsx:=zjv hx;rw[<-Qah (h:=hk)];simp[zkk];have hpl:=zso e.args[k];have hdl:=yp6 e.args[k];rw[zrr,Ev.kz1 (by simpa using hk),Ev.yz2 (zz5 hk),zz1.kz3,Ev.zz0 (ih _ hx (by omega)),wI (x:=_+1) (by omega),wI (x:=1+_) (by omega)];have e1:(k:Int)+1=((k+1:Nat):Int):=by omega
   have e3:1+(zg9 e.args[k]:Int)=((1+zg9 e.args[k]:Nat):Int):=by omega
   rw[e1,e3,zz1.kz3,yaj];refine(ihk (max p (1+zg9 e.args[k])) (by omega)).to ?_
   congr 1;omega
 exact loop 0 (Qbo _) 1 (by omega)
def z7x(op:Int):Int :=
 if op=1∨op=2 then 0 else if (3<=op∧op<=10)∨op=13∨op=14∨op=17 then 2 else if op=11∨op=15∨op=16 then 1 else if op=12 then 3 else if op=18 then -1 else -2
theorem ops(op:Int):op=1∨op=2∨op=3∨op=4∨op=5∨op=6∨op=7∨op=8∨op=9∨op=10∨op=11∨op=12∨op=13∨op=14∨op=15∨op=16∨op=17∨op=18∨(op<1∨18<op):=by omega
theorem ys4{op}:Ev (λn=>zdu n op) (z7x op):=by
 rcases ops op with rfl|rfl|rfl|rfl|rfl|rfl|rfl|rfl|rfl|rfl|rfl|rfl|rfl|rfl|rfl|rfl|rfl|rfl|h
 case inr.inr.inr.inr.inr.inr.inr.inr.inr.inr.inr.inr.inr.inr.inr.inr.inr.inr=>
  have e:z7x op = -2:=by unfold z7x;rw[Qbr (by omega),Qbr (by omega),Qbr (by omega),Qbr (by omega),Qbr (by omega)]
  rw[e];have n (j) (h1:1<=j) (h2:j<=18):(op==j)=false:=by simp;omega
  simp[y0d,zt1,zqx,zr0,zsd,zs0,Ev.pif,Ev.yz0,n]
 all_goals simp[y0d,zt1,zqx,zr0,zsd,y6b,zs0,Ev.pif,Ev.yz0,z7x]
theorem yul{op}:Ev (λn=>zdt n op) (z7x op):=by
 rcases ops op with rfl|rfl|rfl|rfl|rfl|rfl|rfl|rfl|rfl|rfl|rfl|rfl|rfl|rfl|rfl|rfl|rfl|rfl|h
 case inr.inr.inr.inr.inr.inr.inr.inr.inr.inr.inr.inr.inr.inr.inr.inr.inr.inr=>
  have e:z7x op = -2:=by unfold z7x;rw[Qbr (by omega),Qbr (by omega),Qbr (by omega),Qbr (by omega),Qbr (by omega)]
  rw[e];have n (j) (h1:1<=j) (h2:j<=18):(op==j)=false:=by simp;omega
  rw[y0p,Ev.zz2 (n 1 (by omega) (by omega)),n 2 (by omega) (by omega),zsh,Ev.zz2 (by rfl)];have l1:Ev (λm=>zzq m op false) (-2):=by simp[zr9,zsr,Ev.pif,Ev.yz0,n]
  by_cases h3:op>=3;rw[Ev.kz1 (by simpa using h3),Ev.zz2 (by simp;omega),Ev.zz2 (n 13 (by omega) (by omega)),Ev.zz2 (n 14 (by omega) (by omega)),n 17 (by omega) (by omega)];exact l1;rw[Ev.zz2 (by simpa using h3),Ev.zz2 (n 13 (by omega) (by omega)),Ev.zz2 (n 14 (by omega) (by omega)),n 17 (by omega) (by omega)];exact l1
 all_goals simp[y0p,zsh,zr9,zsr,Ev.pif,Ev.yz0,z7x]
noncomputable def y46(op:Int)(v:kz0)(nm:B8):Bool :=
 if op=1 then zkj v==0&&(v.kind != 4&&nm.isEmpty)else if op=2 then zks nm&&eqB v v0 else nm.isEmpty&&eqB v v0
def zxl(op:Int)(k:Nat):Bool:=z7x op != -2&&(decide (z7x op<0)||(k:Int)==z7x op)
mutual
noncomputable def zg1:zz1->Bool
 |⟨op,v,nm,l⟩=>zxl op l.length&&(y46 op v nm&&zcj l)
noncomputable def zcj:yz6->Bool
 |[]=>true
 |x::l=>zg1 x&&zcj l
end
theorem zvy(e):zg1 e=(zxl e.op e.args.length&&(y46 e.op e.value e.name&&zcj e.args)):=by cases e;rw[zg1]
theorem ys5(l):zcj l=l.all zg1:=by
 induction l with
 |nil=>rfl
 |cons x l ih=>simp[zcj,ih]
noncomputable def z7t(e:zz1):Int:=if 100<z7a e∨12<zg9 e then 4 else if zg1 e then 0 else 8
theorem yis{e:zz1}(h:e.wf):e.value.wf:=by rw[zz1.z5u]at h;exact h.2.1
theorem yov{e:zz1}(h:e.wf):∀x∈e.args,x.wf:=by rw[zz1.z5u]at h;exact h.2.2.2
theorem y7r(s:B8):(!(s==[])) = !s.isEmpty:=by cases s <;> rfl
theorem yxp:∀e:zz1,e.wf->e.size<=8388608->Ev (λn=>zct n e) (zg1 e):=zvv λe ih hw hs=>by
 have hsl:=z9r e;have hlen:=zcb e.args
 have idx:∀k,k<=e.args.length->∃i:Int,Ev (λn=>kz6 n (k:Int) e.args (e.args.length:Int)) i∧decide (i>=0) = !zcj (e.args.drop k) :=
  down ⟨-1,by rw[zzy,Ev.zz2 (by simp),Ev.yz0],by simp[zcj]⟩ λk hk ihk=>by
   have hx:=Qad hk;have hsx:=zjv hx
   have hf1:Ev (λn=>zca n e.args[k]) (!zg1 e.args[k]):=by
    rw[ybu,zz1.kz3,Ev.zz0 (ih _ hx (yov hw _ hx) (by omega)),Ev.yz0]
   obtain⟨i,h1,h2⟩:=ihk;rw[<-Qah (h:=hk),zcj];cases hf:zg1 e.args[k];refine⟨k,?_,by simp⟩;rw[zzy,Ev.kz1 (by simpa using hk),Ev.yz2 (zz5 hk),zz1.kz3,Ev.zz0 hf1,Ev.kz1 (by rw[hf];rfl),Ev.yz0];refine⟨i,?_,by rw[h2];rfl⟩;rw[zzy,Ev.kz1 (by simpa using hk),Ev.yz2 (zz5 hk),zz1.kz3,Ev.zz0 hf1,Ev.zz2 (by rw[hf];rfl),wrk (by omega)];exact h1
 have l4:Ev (λn=>z5e n e) (zcj e.args):=by
  obtain⟨i,h1,h2⟩:=idx 0 (Qbo _);have hi:Ev (λn=>zzd n e.args) i:=by rw[ze0];exact h1
  have hc:Ev (λn=>yzb n e.args) (!zcj e.args):=by
   rw[zck,Ev.zz0 hi,Ev.yz0,h2];rfl
  rw[y8q,Ev.zz0 hc,Ev.yz0,Bool.not_not]
 have l1:∀b,Ev (λn=>z5g n b e) (!b&&zcj e.args):=λb=>by
  rw[ya8];cases b;rw[Ev.zz2 (by rfl),zz1.kz3];exact l4;rw[Ev.kz1 (by rfl),Ev.yz0];rfl
 have l2:∀b,Ev (λn=>z8w n b e) (!b&&zcj e.args):=λb=>by
  rw[y9y];cases b;rw[Ev.zz2 (by rfl),zz1.kz3];exact l4;rw[Ev.kz1 (by rfl),Ev.yz0];rfl
 have l3:∀b,Ev (λn=>z8r n b e) (!b&&zcj e.args):=λb=>by
  rw[y9c];cases b;rw[Ev.zz2 (by rfl),zz1.kz3];exact l4;rw[Ev.kz1 (by rfl),Ev.yz0];rfl
 have l0:∀b,Ev (λn=>z5f n b e) (!b&&(y46 e.op e.value e.name&&zcj e.args)):=λb=>by
  rw[y99];cases b
  case true=>rw[Ev.kz1 (by rfl),Ev.yz0];rfl
  rw[Ev.zz2 (by rfl)];have hsame:Ev (λn=>z3r n e.value (kz0.mk 0 (yz4.mk 0 0) false [] [])) (eqB e.value v0):=yty e.value v0 (by omega);by_cases h1:e.op=1;rw[Ev.kz1 (by simpa using h1),kz0.kz3,Ev.zz0 (y8f (yis hw) (by omega)),zz1.kz3,y7r];simp only[y46,Qbq h1];by_cases hc:zkj e.value=0;rw[Ev.zz2 (by simpa using hc)];by_cases hk:e.value.kind=4;rw[Ev.kz1 (by simpa using hk)]
  refine(l1 true).to ?_;simp[hc,hk];rw[Ev.zz2 (by simpa using hk)];have hk':(e.value.kind != 4)=true:=by simpa using hk
  refine(l1 _).to ?_;simp[hc,hk'];rw[Ev.kz1 (by simpa using hc)];refine(l1 true).to ?_;simp[hc];rw[Ev.zz2 (by simpa using h1)];by_cases h2:e.op=2;rw[Ev.kz1 (by simpa using h2),Ev.zz0 (ytm (by omega)),kz0.kz3,zz1.kz3];simp only[y46,Qbr h1,Qbq h2];cases hn:zks e.name;rw[Ev.kz1 (by rfl)];exact(l2 true).to (by simp);rw[Ev.zz2 (by rfl),Ev.zz0 hsame];exact(l2 _).to (by simp)
  rw[Ev.zz2 (by simpa using h2),y7r,kz0.kz3,zz1.kz3];simp only[y46,Qbr h1,Qbr h2];cases hn:e.name.isEmpty;rw[Ev.kz1 (by rfl)];exact(l3 true).to (by simp);rw[Ev.zz2 (by rfl),Ev.zz0 hsame];exact(l3 _).to (by simp)
 rw[ylu,Ev.zz0 ys4,zvy,zz1.kz3];unfold zxl;by_cases c1:z7x e.op = -2;rw[Ev.kz1 (by simpa using c1)];exact(l0 true).to (by simp[c1]);rw[Ev.zz2 (by simpa using c1)];by_cases c2:z7x e.op>=0;rw[Ev.kz1 (by simpa using c2)];refine(l0 _).to ?_;rw[show decide (z7x e.op<0)=false by simpa using c2,show(z7x e.op != -2)=true by simpa using c1];simp only[bne,Bool.not_not,Bool.true_and,Bool.false_or]
 rw[Ev.zz2 (by simpa using c2)];refine(l0 _).to ?_;rw[show decide (z7x e.op<0)=true by simp;omega,show(z7x e.op != -2)=true by simpa using c1];simp
theorem yu4:∀e:zz1,e.size<=8388608->Ev (λn=>zbc n e) (zg1 e):=zvv λe ih hs=>by
 have hsl:=z9r e;have hlen:=zcb e.args
 have loop:∀k,k<=e.args.length->Ev (λn=>z60 n (k:Int) e) (zcj (e.args.drop k)) :=
  down (by simp_all[zr7,Ev.zz2,Ev.yz0,zcj]) λk hk ihk=>by
   have hx:=Qad hk;have hsx:=zjv hx;rw[<-Qah (h:=hk),zcj];rw[zr7,Ev.kz1 (by simpa using hk),Ev.yz2 (zz5 hk),zz1.kz3,Ev.zz0 (ih _ hx (by omega))];cases hf:zg1 e.args[k]
   simp_all[Ev.kz1,Ev.yz0]
   rw[Ev.zz2 (by rfl),wrk (by omega),zz1.kz3,Bool.true_and];exact ihk
 have l2:∀b,Ev (λn=>z0d n b e) (!b&&zcj e.args):=λb=>by
  rw[y5s];cases b;rw[Ev.zz2 (by rfl),zz1.kz3];exact loop 0 (Qbo _)
  simp_all[Ev.kz1,Ev.yz0]
 have hgn:decide ((e.name.length:Int)>0) = !e.name.isEmpty:=by cases e.name <;> simp
 have l1:∀b,Ev (λn=>zzv n b e) (!b&&((if e.op=2 then zks e.name else e.name.isEmpty)&&zcj e.args)):=λb=>by
  rw[y6r];cases b
  case true=>simp_all[Ev.kz1,Ev.yz0]
  rw[Ev.zz2 (by rfl),zz1.kz3,hgn];by_cases h2:e.op=2;rw[Ev.kz1 (by simpa using h2),Qbq h2,Ev.zz0 (yo1 (by omega))];cases hn:zks e.name
  simp_all[Ev.kz1]
  simp_all[Ev.zz2]
  rw[Ev.zz2 (by simpa using h2),Ev.kz1 (by simpa using h2),Qbr h2];exact(l2 _).to (by simp)
 have l0:∀b,Ev (λn=>z3g n b e) (!b&&(y46 e.op e.value e.name&&zcj e.args)):=λb=>by
  rw[y6q];cases b
  case true=>simp_all[Ev.kz1,Ev.yz0]
  rw[Ev.zz2 (by rfl),kz0.kz3,zz1.kz3];have hsame:Ev (λn=>z3t n e.value (kz0.mk 0 (yz4.mk 0 0) false [] [])) (eqB e.value v0):=yu2 e.value v0 (by omega);by_cases h1:e.op=1;rw[Ev.kz1 (by simpa using h1),Ev.zz0 (yoo (by omega))];simp[y46,Qbq h1];by_cases hc:zkj e.value=0;rw[Ev.zz2 (by simpa using hc)];by_cases hk:e.value.kind=4
  simp_all[Ev.kz1]
  rw[Ev.zz2 (by simpa using hk),Ev.zz2 (by simpa using h1)]
  grind
  rw[Ev.kz1 (by simpa using hc)];refine(l1 true).to ?_;simp[hc];rw[Ev.zz2 (by simpa using h1),Ev.kz1 (by simpa using h1),Ev.zz0 hsame];refine(l1 _).to ?_;simp[y46,Qbr h1]
  grind
 rw[yfe,Ev.zz0 yul,zvy,zz1.kz3];unfold zxl;by_cases c1:z7x e.op = -2
 simp_all[Ev.kz1]
 rw[Ev.zz2 (by simpa using c1)];by_cases c2:z7x e.op>=0;rw[Ev.kz1 (by simpa using c2)];refine(l0 _).to ?_;rw[show decide (z7x e.op<0)=false by simpa using c2,show(z7x e.op != -2)=true by simpa using c1]
 grind
 rw[Ev.zz2 (by simpa using c2)]
 grind
theorem zm6{e}(hw:e.wf)(hs:e.size<=8388608):Ev (λn=>z0i n e) (z7t e):=by
 have l0:∀b,Ev (λn=>z6f n b e) (if b then 4 else if zg1 e then 0 else 8):=λb=>by
  rw[y5g];cases b;rw[Ev.zz2 (by rfl),zz1.kz3,Ev.zz0 (yxp e hw hs)];cases zg1 e
  simp_all[Ev.kz1,Ev.yz0]
  simp_all[Ev.zz2,Ev.yz0]
  simp_all[Ev.kz1,Ev.yz0]
 rw[ygg,zz1.kz3,Ev.zz0 (yjz e hs)];unfold z7t;simp only[Ev.pif];by_cases h1:100<z7a e;rw[Qbq (by simp;omega),Qbq (.inl h1)];exact l0 true;rw[Qbr (by simp;omega)];by_cases h2:12<zg9 e;rw[Qbq (.inr h2),show decide ((zg9 e:Int)>12)=true by simp;omega];exact l0 true;rw[Qbr (by omega),show decide ((zg9 e:Int)>12)=false by simp;omega];exact l0 false
theorem zh0{e}(hs:e.size<=8388608):Ev (λn=>z1b n e) (z7t e):=by
 have l0:∀b,Ev (λn=>z58 n b e) (if b then 4 else if zg1 e then 0 else 8):=λb=>by
  rw[y55];cases b;rw[Ev.zz2 (by rfl),zz1.kz3,Ev.zz0 (yu4 e hs)];cases zg1 e
  simp_all[Ev.kz1,Ev.yz0]
  simp_all[Ev.zz2,Ev.yz0]
  simp_all[Ev.kz1,Ev.yz0]
 rw[yd8,zz1.kz3,Ev.zz0 (y7l e hs)];unfold z7t;by_cases h1:100<z7a e;rw[Ev.kz1 (by simp;omega),Qbq (.inl h1)];exact l0 true;rw[Ev.zz2 (by simp;omega),Ev.zz0 (yta e hs)];by_cases h2:12<zg9 e;rw[Qbq (.inr h2),show decide ((zg9 e:Int)>12)=true by simp;omega];exact l0 true;rw[Qbr (by omega),show decide ((zg9 e:Int)>12)=false by simp;omega];exact l0 false
theorem zw0{e}(h:z7t e=0):zg1 e=true∧z7a e<=100∧zg9 e<=12:=by
 grind[z7t]
theorem yom:∀e:zz1,e.size<=8388608->∀d:Int,∃b,Ev (λn=>z9w n e d) b:=zvv λe ih hs d=>by
 have hsl:=z9r e;have hlen:=zcb e.args
 have loop:∀k,k<=e.args.length->∀d:Int,∃b,Ev (λn=>z3z n (k:Int) d e) b :=
  down (λd=>⟨false,by rw[zon,Ev.zz2 (by simp),Ev.yz0]⟩) λk hk ihk d=>by
   have hx:=Qad hk;have hsx:=zjv hx;obtain⟨b,hb⟩:=ih _ hx (by omega) (IntKind.i64.wrap (d-1));obtain⟨c,hc⟩:=ihk d;refine⟨if b then true else c,?_⟩;rw[zon,Ev.kz1 (by simpa using hk),Ev.yz2 (zz5 hk),zz1.kz3,Ev.zz0 hb,zz1.kz3,wrk (by omega)];cases b;rw[Ev.zz2 (by rfl)];exact hc
   simp_all[Ev.kz1,Ev.yz0]
 have l0:∀d b,∃c,Ev (λn=>z0v n d b e) c:=λd b=>by
  cases b;obtain⟨c,hc⟩:=loop 0 (Qbo _) d;exact⟨c,by simp_all[zny,Ev.zz2]⟩
  simp_all[zny,Ev.kz1,Ev.yz0]
 obtain⟨g,hg⟩:=yp7 (v:=e.value) (by omega);simp only[yax,zz1.kz3,kz0.kz3,Ev.pif,Ev.zz0 hg];split;exact l0 _ _;split;exact l0 _ _;split;exact l0 _ _;exact l0 _ _
theorem zp4{e}(hs:e.size<=8388608):∃b,Ev (λn=>z4v n e) b:=by
 obtain⟨b,hb⟩:=yom e hs 16;cases b;exact⟨_,by rw[zwm,zz1.kz3,Ev.zz0 hb,Ev.zz2 (by rfl),Ev.zz0 (y7l e hs)];exact Ev.yz0.2 rfl⟩;exact⟨true,by rw[zwm,zz1.kz3,Ev.zz0 hb,Ev.kz1 (by rfl),Ev.yz0]⟩
theorem y7s(l):l.length<=kzk l:=by
 induction l with
 |nil=>simp
 |cons x l ih=>grind[zai,kzk]
mutual
def zqe:zz1->List B8->List B8
 |⟨op,_,nm,l⟩,acc=>zd6 l (if op=2∧nm∉acc then acc++[nm]else acc)
def zd6:yz6->List B8->List B8
 |[],acc=>acc
 |x::l,acc=>zd6 l (zqe x acc)
end
theorem y6s(e)(acc):zqe e acc=zd6 e.args (if e.op=2∧e.name∉acc then acc++[e.name]else acc):=by cases e;rw[zqe]
mutual
def zvh:zz1->List B8->List B8
 |⟨op,_,nm,l⟩,acc=>zcv l (if op=2 then ins acc nm else acc)
def zcv:yz6->List B8->List B8
 |[],acc=>acc
 |x::l,acc=>zcv l (zvh x acc)
end
theorem ydw(e)(acc):zvh e acc=zcv e.args (if e.op=2 then ins acc e.name else acc):=by cases e;rw[zvh]
theorem yr7:∀(e) (a b),a.Nodup->zi1 b->(∀x,x∈a↔x∈b)->(zqe e a).Nodup∧zi1 (zvh e b)∧(∀x,x∈zqe e a↔x∈zvh e b)∧(zqe e a).length<=a.length+z7a e∧(zvh e b).length<=b.length+z7a e:=zvv λe ih a b ha hb hab=>by
 have hL:∀(l:yz6),(∀x∈l,x∈e.args)->∀a b:List B8,a.Nodup->zi1 b->(∀x,x∈a↔x∈b)->(zd6 l a).Nodup∧zi1 (zcv l b)∧(∀x,x∈zd6 l a↔x∈zcv l b)∧(zd6 l a).length<=a.length+kzk l∧(zcv l b).length<=b.length+kzk l:=λl=>by
  induction l with
  |nil=>simp_all[zd6,zcv]
  |cons x l ihl=>
   intro hm a b ha hb hab;obtain⟨h1,h2,h3,h4,h5⟩:=ih x (hm x Qak) a b ha hb hab;obtain⟨k1,k2,k3,k4,k5⟩:=ihl (λy hy=>hm y (Qai _ hy)) _ _ h1 h2 h3;simp[zd6,zcv,kzk];exact⟨k1,k2,k3,by omega,by omega⟩
 rw[y6s,ydw,zai];by_cases h2:e.op=2;rw[Qbq h2];by_cases hn:e.name∈a;rw[Qbr (by simp[hn])]
 grind[y2i,yan,y33]
 rw[Qbq ⟨h2,hn⟩]
 grind[y2i,yan,y33]
 rw[Qbr h2,Qbr (λh=>h2 h.1)]
 grind
theorem yr6(e):z4c (zqe e [])=zvh e []:=by
 obtain⟨h1,h2,h3,_⟩:=yr7 e [] [] (by simp) (by simp[zi1]) (by simp)
 grind[zqa,zth,zgv]
theorem yeq:∀(e) (a),(zqe e a).length<=a.length+z7a e:=zvv λe ih a=>by
 have hL:∀(l:yz6),(∀x∈l,x∈e.args)->∀a:List B8,(zd6 l a).length<=a.length+kzk l:=λl=>by
  induction l with
  |nil=>intro _ a;simp[zd6,kzk]
  |cons x l ihl=>
   grind[zd6,kzk]
 grind[y6s,zai]
theorem yiw:∀(e) (a),(zvh e a).length<=a.length+z7a e:=zvv λe ih a=>by
 have hL:∀(l:yz6),(∀x∈l,x∈e.args)->∀a:List B8,(zcv l a).length<=a.length+kzk l:=λl=>by
  induction l with
  |nil=>intro _ a;simp[zcv,kzk]
  |cons x l ihl=>
   grind[zcv,kzk]
 rw[ydw,zai];have hi:=y33 e.name a;have:=hL e.args (λ_ h=>h) (if e.op=2 then ins a e.name else a);split at this
 grind
 grind
theorem ywo{l}(hl:l.length<=8388608){s}:∃i:Int,Ev (λn=>yzk n s l) (i,l)∧decide (i>=0)=decide (s∈l):=by
 have loop:∀k,k<=l.length->∃i:Int,Ev (λn=>zze n (k:Int) s (l.length:Int) l) (i,l)∧decide (i>=0)=decide (s∈l.drop k) :=
  down ⟨-1,by rw[z2l,Ev.zz2 (by simp),Ev.yz0],by simp⟩ λk hk ih=>by
   obtain⟨i,h1,h2⟩:=ih;by_cases he:s=l[k];refine⟨k,?_,?_⟩
   simp_all[z2l,Ev.kz1,zz5,Ev.yz0]
   grind[Qah]
   refine⟨i,?_,?_⟩;rw[z2l,Ev.kz1 (by simpa using hk),Ev.yz2 (zz5 hk),Ev.zz2 (by simpa using he),wrk (by omega)];exact h1;rw[h2]
   have:(s∈l.drop k)↔(s∈l.drop (k+1)):=by
    grind[Qah]
   grind
 obtain⟨i,h1,h2⟩:=loop 0 (Qbo _);exact⟨i,by rw[zhv];exact h1,by simpa using h2⟩
theorem ys0:∀(e) (acc),acc.length+z7a e<=8388608->Ev (λn=>zbg n e acc) (zqe e acc):=zvv λe ih acc hb=>by
 rw[zai]at hb
 have loop:∀k,k<=e.args.length->∀acc:List B8,acc.length+kzk (e.args.drop k)<=8388608->Ev (λn=>z71 n (k:Int) e.args (e.args.length:Int) acc) (zd6 (e.args.drop k) acc) :=
  down (λacc hb=>by simp_all[zra,Ev.zz2,Ev.yz0,zd6]) λk hk ihk acc hb=>by
   have hx:=Qad hk;have hlen:=y7s e.args;rw[<-Qah (h:=hk)]at hb ⊢;simp[zd6,kzk]at hb ⊢;have:=yeq e.args[k] acc
   have hk2:=by
    omega
   rw[zra,Ev.kz1 (by simpa using hk),Ev.yz2 (zz5 hk),zz1.kz3,Ev.zz0 (ih _ hx _ (by omega)),wrk (by omega)]
   grind
 have l1:∀acc:List B8,acc.length+kzk e.args<=8388608->Ev (λn=>z69 n acc e) (zd6 e.args acc):=λacc hb=>by
  rw[y5x];simpa using loop 0 (Qbo _) acc (by simpa using hb)
 rw[ygs,y6s];by_cases h2:e.op=2;obtain⟨i,h3,h4⟩:=ywo (l:=acc) (by omega) (s:=e.name)
 have hc:Ev (λn=>yzh n e.name acc) (decide (e.name∈acc),acc):=by
  rw[zg5,Ev.zz0 h3,Ev.yz0,h4]
 rw[Ev.kz1 (by simpa using h2),Ev.zz0 hc,zz1.kz3,zs7];by_cases hn:e.name∈acc;rw[Ev.zz2 (by simpa using hn),Qbr (by simp[hn]),zz1.kz3]
 grind
 rw[Ev.kz1 (by simpa using hn),Qbq ⟨h2,hn⟩,Ev.yz2 (z01 (by simp;omega)),zz1.kz3]
 grind
 rw[Ev.zz2 (by simpa using h2),Qbr (λh=>h2 h.1),zz1.kz3,zs7,Ev.zz2 (by rfl),zz1.kz3];exact l1 _ (by omega)
theorem yth{α:Type}{p}:∀{l:List α},(∀x∈l,p x=true)->l.takeWhile p=l∧l.dropWhile p=[]
 |[],_=>⟨rfl,rfl⟩
 |x::l,h=>by
  have hx:=h x Qak;obtain⟨h1,h2⟩:=yth (l:=l) λy hy=>h y (Qai _ hy)
  rw[List.takeWhile_cons_of_pos hx,List.dropWhile_cons_of_pos hx,h1,h2];exact⟨rfl,rfl⟩
theorem yya{l k}(hk:k<=l.length)(s:B8) :
  y24 (l++[[]]) ((k+1:Nat):Int) (k:Int)=some (l.take k++[(l++[[]])[k]'(by simp;omega)]++l.drop k)∧((l.take k++[(l++[[]])[k]'(by simp;omega)]++l.drop k).set k s=l.take k++s::l.drop k):=by
 constructor;unfold y24;rw[Qbq (by simp;omega)]
 congr 1
 have e1:((k+1:Nat):Int).toNat=k+1:=by simp
 have e2:((k:Nat):Int).toNat=k:=by simp
 rw[e1,e2];have e3:min ((l++[[]]).length-k) ((l++[[]]).length-(k+1))=l.length-k:=by simp;omega
 rw[e3,show k+1+(l.length-k)=l.length+1 by omega];have e4:(l++[[]]).drop (l.length+1)=[]:=List.drop_of_length_le (by simp)
 grind[z2m]
 simp_all
theorem ys1:∀(e:zz1) (acc:List B8),acc.length+z7a e<=8388608->Ev (λn=>zbe n e acc) (zvh e acc):=zvv λe ih acc hb=>by
 rw[zai]at hb
 have loop:∀k,k<=e.args.length->∀acc:List B8,acc.length+kzk (e.args.drop k)<=8388608->Ev (λn=>z68 n (k:Int) acc e) (zcv (e.args.drop k) acc) :=
  down (λacc hb=>by rw[zrg,Ev.zz2 (by simp),Ev.yz0];simp[zcv]) λk hk ihk acc hb=>by
   have hx:=Qad hk;have hlen:=y7s e.args;rw[<-Qah (h:=hk)]at hb ⊢;simp only[zcv,kzk]at hb ⊢;have:=yiw e.args[k] acc;rw[zrg,Ev.kz1 (by simpa using hk),Ev.yz2 (zz5 hk),zz1.kz3,Ev.zz0 (ih _ hx _ (by omega)),wrk (by omega),zz1.kz3];exact ihk _ (by omega)
 have l3:∀acc:List B8,acc.length+kzk e.args<=8388608->Ev (λn=>z3a n acc e) (zcv e.args acc):=λacc hb=>by
  rw[y6j,zz1.kz3];simpa using loop 0 (Qbo _) acc (by simpa using hb)
 rw[ygp,zz1.kz3,ydw];by_cases h2:e.op=2
 case neg=>rw[Ev.zz2 (by simpa using h2),Qbr h2];exact l3 _ (by omega)
 rw[Ev.kz1 (by simpa using h2),Qbq h2];have hil:=y33 e.name acc
 have fin:∀k,k<=acc.length->acc.takeWhile (λx=>Op.bytesLess x e.name)=acc.take k->acc.dropWhile (λx=>Op.bytesLess x e.name)=acc.drop k->Ev (λn=>z6x n (k:Int) false e acc) (zcv e.args (ins acc e.name)):=λk hk ht hd=>by
  have hins:=yyv e.name acc;rw[ht,hd]at hins
  have put:ins acc e.name=acc.take k++e.name::acc.drop k->Ev (λn=>z63 n (k:Int) true e acc) (zcv e.args (ins acc e.name)):=λhi=>by
   obtain⟨s1,s2⟩:=yya hk e.name;have hx:ext acc [[]]=some (acc++[[]]):=z01 (by simp;omega);have hc1:yrd (acc++[[]]) ((k+1:Nat):Int)=some ():=by unfold yrd;rw[Qbq (by simp;omega)]
   have hc2:yrd (acc++[[]]) (k:Int)=some ():=by unfold yrd;rw[Qbq (by simp;omega)]
   have hg:ix (acc.take k++[(acc++[[]])[k]'(by simp;omega)]++acc.drop k) (k:Int)=some ((acc++[[]])[k]'(by simp;omega)):=by
    rw[yti,Qay,Qav (by simp;omega)];simp[Nat.min_eq_left hk]
   rw[zsv,Ev.kz1 (by rfl),Ev.yz2 hx,wrk (by omega),Ev.yz2 hc1,Ev.yz2 hc2,Ev.yz2 s1,Ev.yz2 hg,zz1.kz3,Int.toNat_natCast,s2,<-hi];exact l3 _ (by omega)
  rw[zse,Ev.zz2 (by rfl),zz1.kz3];by_cases he:k=acc.length;rw[Ev.kz1 (by simp;omega)];exact put (by rw[hins,Qbr (by rw[List.drop_of_length_le (by omega)];simp)]);have hlt:k<acc.length:=by omega
  rw[Ev.zz2 (by simp;omega),Ev.yz2 (zz5 hlt)];have hhead:(acc.drop k).head?=some acc[k]:=by rw[<-Qah (h:=hlt)];rfl
  by_cases heq:acc[k]=e.name;rw[show(!(acc[k]==e.name))=false by simpa using heq,zsv,Ev.zz2 (by rfl),zz1.kz3];have:ins acc e.name=acc:=by rw[hins,Qbq (by rw[hhead,heq])]
  rw[this];exact l3 _ (by omega);rw[show(!(acc[k]==e.name))=true by simpa using heq];exact put (by rw[hins,Qbr (by rw[hhead];simpa using heq)])
 have place:∀k,k<=acc.length->(acc.take k).all (λx=>Op.bytesLess x e.name)=true->Ev (λn=>z3h n (k:Int) e acc) (zcv e.args (ins acc e.name)) :=
  down (Q:=λk=>(acc.take k).all (λx=>Op.bytesLess x e.name)=true->Ev (λn=>z3h n (k:Int) e acc) (zcv e.args (ins acc e.name))) (λhall=>by
   rw[List.take_length]at hall;rw[Qat]at hall;rw[zrq,Ev.zz2 (by simp),zz1.kz3];refine fin _ (Qbp _) ?_ ?_;rw[List.take_length];exact(yth hall).1
   rw[List.drop_length];exact(yth hall).2) λk hk ihk hall=>by
   have hsplit:acc=acc.take k++acc.drop k:=(List.take_append_drop k acc).symm;rw[zrq,Ev.kz1 (by simpa using hk),Ev.yz2 (zz5 hk),zz1.kz3];cases hb:Op.bytesLess acc[k] e.name;rw[Qat]at hall;refine fin k (by omega) ?_ ?_
   conv=>lhs;rw[hsplit]
   rw[List.takeWhile_append_of_pos hall,<-Qah (h:=hk),List.takeWhile_cons_of_neg (by simp[hb]),List.append_nil]
   conv=>lhs;rw[hsplit]
   rw[List.dropWhile_append_of_pos hall,<-Qah (h:=hk),List.dropWhile_cons_of_neg (by simp[hb])];rw[zse,Ev.kz1 (by rfl),wrk (by omega),zz1.kz3];refine ihk ?_;rw[<-z2m hk,List.all_append,hall];simp[hb]
 exact place 0 (Qbo _) (by simp)
noncomputable def zgz(e:zz1):List B8×Int:=if z7t e≠0 then ([],z7t e)else (zvh e [],0)
theorem ytp{e}(hw:e.wf)(hs:e.size<=8388608):Ev (λn=>zdl n e) (zgz e):=by
 rw[ygc,zz1.kz3,Ev.zz0 (zm6 hw hs)];unfold zgz;by_cases hc:z7t e=0
 case neg=>simp_all[Ev.kz1,Ev.yz0]
 obtain⟨_,hp,_⟩:=zw0 hc;have hl:=yeq e []
 have hsort:Ev (λn=>kze n (zqe e [])) (zvh e []):=by
  refine .same (λn =>?_) (.pure rfl);unfold kze;rw[Qbq (by simp at hl;omega),yco,yr6]
 rw[Ev.zz2 (by simpa using hc),Qbr (by simpa using hc),Ev.zz0 (ys0 e [] (by simp;omega)),Ev.zz0 hsort,Ev.yz0]
theorem yrl{e}(hs:e.size<=8388608):Ev (λn=>zch n e) (zgz e):=by
 rw[ybf,zz1.kz3,Ev.zz0 (zh0 hs)];unfold zgz;by_cases hc:z7t e=0
 case neg=>rw[Ev.kz1 (by simpa using hc),Ev.zz0 (zh0 hs),Ev.yz0,Qbq hc]
 obtain⟨_,hp,_⟩:=zw0 hc;rw[Ev.zz2 (by simpa using hc),Qbr (by simpa using hc),Ev.zz0 (ys1 e [] (by simp;omega)),Ev.yz0]
theorem zt9{α:Type}{f:α->Nat}:∀{l:List α}{x},x∈l->f x<=(l.map f).sum
 |y::l,x,h=>by
  simp[List.sum_cons]
  rcases Qbg.1 h with h|h
  subst h;omega;have:=zt9 (f:=f) h;omega
theorem zu7{α:Type}{f}(hf:∀x,1<=f x):∀l:List α,l.length<=(l.map f).sum
 |[]=>by simp
 |x::l=>by have:=zu7 hf l;grind
def z23(l:yz6):zz1:=⟨18,⟨0,⟨0,0⟩,false,[],[]⟩,[],l⟩
theorem zex(l):(z23 l).size=(l.map zz1.size).sum+12:=by
 rw[zz1.size_eq];rw[kz0.size_eq];show 1+(1+(1+1+1)+1+(0+1)+(0+1)+1)+0+1+((l.map zz1.size).sum+1)+1=_;omega
theorem yqj{l}(h:∀x∈l,x.wf):(z23 l).wf:=by
 rw[zz1.z5u];refine⟨by show(IntKind.u8.min<=18∧18<=IntKind.u8.max);decide,?_,trivial,h⟩;rw[kz0.z5u];refine⟨by show(IntKind.u8.min<=0∧0<=IntKind.u8.max);decide,?_,trivial,trivial,by simp[z23]⟩;exact⟨by show(IntKind.i64.min<=0∧0<=IntKind.i64.max);decide,by show(IntKind.i64.min<=0∧0<=IntKind.i64.max);decide⟩
section
variable {p : yz1} {t : zzi} {r : yz5} {c : zz6} {a : zz4} {x : yzj} {e : zz1}
theorem ybh(h:t∈p.attrs):t.size+2<=p.size:=by grind[zt9,yz1.size_eq]
theorem zrh(h:r∈p.rules):r.size+2<=p.size:=by grind[zt9,yz1.size_eq]
theorem yec:t.value.size+t.name.length+2<=t.size:=by rw[zzi.size_eq];omega
theorem zud(h:c∈r.cases):c.size+2<=r.size:=by grind[zt9,yz5.size_eq]
theorem z052:r.name.length+2<=r.size:=by rw[yz5.size_eq];omega
theorem z04y{s}(h:s∈r.params):s.length+2<=r.size:=by grind[zt9,yz5.size_eq]
theorem yix:c.when_.size+2<=c.size:=by rw[zz6.size_eq];omega
theorem y0s(h:a∈c.do_):a.size+2<=c.size:=by grind[zt9,zz6.size_eq]
theorem z04x:a.name.length+2<=a.size:=by rw[zz4.size_eq];omega
theorem yf1:(a.args.map zz1.size).sum+5<=a.size:=by rw[zz4.size_eq];omega
theorem y85(h:x∈a.items):x.size+2<=a.size:=by grind[zt9,zz4.size_eq]
theorem z05k:x.name.length+2<=x.size:=by rw[yzj.size_eq];omega
theorem ycw:(x.args.map zz1.size).sum+4<=x.size:=by rw[yzj.size_eq];omega
theorem y0t:p.attrs.length<=p.size:=by grind[zu7,zzi.size_eq,yz1.size_eq]
theorem zl6:p.rules.length<=p.size:=by grind[zu7,yz5.size_eq,yz1.size_eq]
theorem y1a:r.params.length<=r.size:=by have:=zu7 (f:=λs:B8=>s.length+1) (λx=>by omega) r.params;rw[yz5.size_eq];omega
theorem zx9:r.cases.length<=r.size:=by grind[zu7,zz6.size_eq,yz5.size_eq]
theorem zwd:c.do_.length<=c.size:=by grind[zu7,zz4.size_eq,zz6.size_eq]
theorem y49:a.items.length<=a.size:=by grind[zu7,yzj.size_eq,zz4.size_eq]
theorem z05j:a.args.length<=a.size:=by grind[zcb,yf1]
theorem z033:x.args.length<=x.size:=by grind[zcb,ycw]
theorem yyx(h:p.wf)(ht:t∈p.attrs):t.value.wf:=by grind[yz1.z5u,zzi.z5u]
theorem yr2(h:p.wf)(hr:r∈p.rules):r.wf:=by grind[yz1.z5u]
theorem yqw(h:r.wf)(hc:c∈r.cases):c.wf:=by exact h.2.2 c hc
theorem z024(h:c.wf):c.when_.wf:=by exact h.2.1
theorem yoe(h:c.wf)(ha:a∈c.do_):a.wf:=by exact h.2.2 a ha
theorem yyt(h:a.wf):(0<=a.kind∧a.kind<=255)∧(0<=a.axis∧a.axis<=255):=by exact⟨h.1,h.2.1⟩
theorem z057(h:a.wf):(z23 a.args).wf:=by grind[zz4.z5u,yqj]
theorem z059(h:a.wf)(he:e∈a.args):e.wf:=by grind[zz4.z5u]
theorem z028(h:a.wf)(hx:x∈a.items):x.wf:=by grind[zz4.z5u]
theorem z05f(h:x.wf):(z23 x.args).wf:=by grind[yzj.z5u,yqj]
theorem wf_xe(h:x.wf)(he:e∈x.args):e.wf:=by exact h.2.2 e he
end
theorem z05l{α:Type}{a b:List α}(h:a.length=b.length):((a.length:Int) != (b.length:Int))=false:=by simp;omega
theorem y73{α}{L:Nat->Int->List α->Int->Option Int}{S:Nat->α->Option Bool}{l p}
  (hL:∀n (k:Int),L (n+1) k l (l.length:Int)=pIf (decide (k<(l.length:Int))) ((ix l k).bind λx0=>(S n x0).bind λy1=>pIf y1 (some k) (L n (IntKind.i64.wrap (k+1)) l (l.length:Int))) (some (-1)))
  (hb:l.length<=8388608) (hS:∀x∈l,Ev (λn=>S n x) (p x)):∃i:Int,Ev (λn=>L n 0 l (l.length:Int)) i∧decide (i>=0)=l.any p:=by
 have:∀k,k<=l.length->∃i:Int,Ev (λn=>L n (k:Int) l (l.length:Int)) i∧decide (i>=0)=(l.drop k).any p :=
  down ⟨-1,by rw[Ev.zt2 (λn=>hL n _),Ev.zz2 (by simp),Ev.yz0],by simp⟩ λk hk ⟨i,h1,h2⟩=>by
   cases hp:p l[k]with
   |true=>
    refine⟨k,?_,?_⟩;rw[Ev.zt2 (λn=>hL n _),Ev.kz1 (by simpa using hk),Ev.yz2 (zz5 hk),Ev.zz0 (hS _ (Qad hk)),hp,Ev.kz1 rfl,Ev.yz0]
    grind[Qah]
   |false=>
    refine⟨i,?_,?_⟩;rw[Ev.zt2 (λn=>hL n _),Ev.kz1 (by simpa using hk),Ev.yz2 (zz5 hk),Ev.zz0 (hS _ (Qad hk)),hp,Ev.zz2 rfl,wrk (by omega)];exact h1
    grind[Qah]
 simpa using this 0 (Qbo _)
theorem andF{c d A}(h:c=true->Ev A d):Ev (λn=>pIf c (A n) (some false)) (c&&d):=by
 cases c;exact Ev.pure rfl;exact h rfl
theorem ifB(c):(if c=true then true else false)=c:=by cases c <;> rfl
theorem ysm{c}(hs:c.size<=8000000):∃b,Ev (λn=>z77 n c) b:=by
 have:=@yix c;have:=@zwd c;have list:∀l:yz6,Ev (λn=>z1m n l) (z23 l):=λl=>by rw[zqr,Ev.yz0];rfl
 have l1:=by
  refine zrm (L:=λn k=>z0n n k c) (len:=c.do_.length) ⟨false,by rw[ziq,Ev.zz2 (by simp),Ev.yz0]⟩ λk hk v hv =>?_
  have ha:=Qad hk;have hsa:=y0s ha;have:=@yf1 c.do_[k];have:=@y49 c.do_[k]
  have l3:=by
   refine zrm (L:=λn j=>z0o n j (k:Int) c) (len:=c.do_[k].items.length) ⟨v,by rw[zir,Ev.yz2 (zz5 hk),Ev.zz2 (by simp),wrk (by omega),zz6.kz3];exact hv⟩ λj hj w hw =>?_
   have:=y85 (Qad hj);have:=@ycw c.do_[k].items[j]
   have l4:∀b,∃d,Ev (λn=>z0q n (k:Int) (j:Int) b c) d:=λb=>by
    cases b;exact⟨w,by rw[zis,Ev.zz2 (by rfl),wrk (by omega),zz6.kz3];exact hw⟩
    simp_all[zis,Ev.kz1,Ev.yz0]
   obtain⟨g,hg⟩:=zp4 (e:=z23 c.do_[k].items[j].args) (by rw[zex];omega);simp only[zir,Ev.yz2 (zz5 hk)];simp only[Ev.kz1 (show decide ((j:Int)<(c.do_[k].items.length:Int))=true by simpa using hj),Ev.yz2 (zz5 hk),Ev.yz2 (zz5 hj),Ev.zz0 (list _),zz1.kz3,zz6.kz3,Ev.zz0 hg,Ev.pif];split <;> exact l4 _
  have l2:∀b,∃d,Ev (λn=>zzu n (k:Int) b c) d:=λb=>by
   cases b
   simp_all[ziy,Ev.zz2]
   simp_all[ziy,Ev.kz1,Ev.yz0]
  obtain⟨g,hg⟩:=zp4 (e:=z23 c.do_[k].args) (by rw[zex];omega);simp only[ziq,Ev.kz1 (show decide ((k:Int)<(c.do_.length:Int))=true by simpa using hk),Ev.yz2 (zz5 hk),Ev.zz0 (list _),zz1.kz3,zz6.kz3,Ev.zz0 hg,Ev.pif];split;exact l2 _;split <;> exact l2 _
 have l0:∀b,∃d,Ev (λn=>z0p n b c) d:=λb=>by
  cases b
  simp_all[zit,Ev.zz2]
  simp_all[zit,Ev.kz1,Ev.yz0]
 obtain⟨g,hg⟩:=zp4 (e:=c.when_) (by omega);simp only[y28,Ev.pif,zz6.kz3,zz1.kz3,Ev.zz0 hg];split <;> exact l0 _
theorem z054{p}(hs:p.size<=8000000):∃b,Ev (λn=>z9u n p) b:=by
 have:=@y0t p;have:=@zl6 p
 have l3:=by
  refine zrm (L:=λn k=>z4f n k p) (len:=p.rules.length) ⟨false,by rw[zpb,Ev.zz2 (by simp),Ev.yz0]⟩ λk hk v hv =>?_
  have hsa:=zrh (Qad hk);have:=@y1a p.rules[k];have:=@zx9 p.rules[k]
  have l6:=by
   refine zrm (L:=λn j=>z4a n j (k:Int) p.rules[k] p) (len:=p.rules[k].cases.length) ⟨v,by rw[zob,Ev.zz2 (by simp),wrk (by omega)];exact hv⟩ λj hj w hw =>?_
   obtain⟨g,hg⟩:=ysm (c:=p.rules[k].cases[j]) (by have:=zud (Qad hj);omega);simp only[zob (a:=(j:Int)),Ev.kz1 (show decide ((j:Int)<(p.rules[k].cases.length:Int))=true by simpa using hj),Ev.yz2 (zz5 hj),zz6.kz3,Ev.zz0 hg];simp only[Ev.pif];split;exact⟨true,Ev.pure rfl⟩;exact⟨w,by rw[wrk (by omega)];exact hw⟩
  have l5:∃b,Ev (λn=>z27 n 0 (k:Int) p.rules[k] p) b:=by
   obtain⟨d,hd⟩:=l6;refine zrm (L:=λn j=>z27 n j (k:Int) p.rules[k] p) (len:=p.rules[k].params.length) ⟨d,by simp_all[zpd,Ev.zz2]⟩ λj hj w hw =>?_
   simp only[zpd (a:=(j:Int)),Ev.kz1 (show decide ((j:Int)<(p.rules[k].params.length:Int))=true by simpa using hj),Ev.yz2 (zz5 hj),Ev.pif];split;exact⟨true,Ev.pure rfl⟩;exact⟨w,by rw[wrk (by omega)];exact hw⟩
  have l4:∀b,∃d,Ev (λn=>z1z n (k:Int) b p.rules[k] p) d:=λb=>by
   cases b
   simp_all[zp1,Ev.zz2]
   simp_all[zp1,Ev.kz1,Ev.yz0]
  simp only[zpb,Ev.kz1 (show decide ((k:Int)<(p.rules.length:Int))=true by simpa using hk),Ev.yz2 (zz5 hk),Ev.pif];split;exact l4 _;split <;> exact l4 _
 have l1:∃b,Ev (λn=>z2c n 0 p) b:=by
  obtain⟨d,hd⟩:=l3;refine zrm (L:=λn k=>z2c n k p) (len:=p.attrs.length) ⟨d,by simp_all[zoe,Ev.zz2]⟩ λk hk v hv =>?_
  have:=ybh (Qad hk);have:=@yec p.attrs[k]
  have l2:∀b,∃d,Ev (λn=>z56 n (k:Int) b p) d:=λb=>by
   cases b;exact⟨v,by rw[zo3,Ev.zz2 (by rfl),wrk (by omega)];exact hv⟩
   simp_all[zo3,Ev.kz1,Ev.yz0]
  obtain⟨g,hg⟩:=zp4 (e:=p.attrs[k].value) (by omega);simp only[zoe,Ev.kz1 (show decide ((k:Int)<(p.attrs.length:Int))=true by simpa using hk),Ev.yz2 (zz5 hk),zz1.kz3,Ev.zz0 hg,Ev.pif];split <;> exact l2 _
 have l0:∀b,∃d,Ev (λn=>z4g n b p) d:=λb=>by
  cases b
  simp_all[zot,Ev.zz2]
  simp_all[zot,Ev.kz1,Ev.yz0]
 simp only[yd1,Ev.pif];split <;> exact l0 _
def zmb(c:zz6):Bool:=decide (10<c.do_.length)||c.do_.any λa=>decide (10<a.items.length)
def zkn(r:yz5):Bool:=decide (4<r.params.length)||(decide (6<r.cases.length)||r.cases.any zmb)
def zog(p:yz1):Bool:=decide (20<p.attrs.length)||(decide (40<p.rules.length)||p.rules.any zkn)
theorem gt4{k:Nat}:decide ((k:Int)>4)=decide (4<k):=decide_eq_decide.2 (by omega)
theorem gt6{k:Nat}:decide ((k:Int)>6)=decide (6<k):=decide_eq_decide.2 (by omega)
theorem gt10{k:Nat}:decide ((k:Int)>10)=decide (10<k):=decide_eq_decide.2 (by omega)
theorem gt20{k:Nat}:decide ((k:Int)>20)=decide (20<k):=decide_eq_decide.2 (by omega)
theorem gt40{k:Nat}:decide ((k:Int)>40)=decide (40<k):=decide_eq_decide.2 (by omega)
theorem orB{c d}{γ:Type}{x y:γ}:(if (c||d)=true then x else y)=if c=true then x else if d=true then x else y:=by cases c <;> rfl
theorem ysz{p}(hs:p.size<=8000000):Ev (λn=>zdm n p) (zog p):=by
 have:=@zl6 p
 have l1:Ev (λn=>z3i n 0 p.rules (p.rules.length:Int)) (if p.rules.any zkn=true then true else false):=by
  refine zod (L:=λn k=>z3i n k p.rules (p.rules.length:Int)) (by rw[zrs,Ev.zz2 (by simp),Ev.yz0]) λk hk v hv =>?_
  have:=zrh (Qad hk);have:=@y1a p.rules[k];have:=@zx9 p.rules[k]
  have l3:Ev (λn=>z39 n 0 p.rules[k].cases p.rules (p.rules.length:Int) (k:Int) (p.rules[k].cases.length:Int)) (if p.rules[k].cases.any zmb=true then true else v):=by
   refine zod (L:=λn j=>z39 n j p.rules[k].cases p.rules (p.rules.length:Int) (k:Int) (p.rules[k].cases.length:Int)) (by rw[zsg,Ev.zz2 (by simp),wrk (by omega)];exact hv) λj hj w hw =>?_
   have:=zud (Qad hj);have:=@zwd p.rules[k].cases[j]
   have l4:∀b,Ev (λn=>z6p n p.rules[k].cases p.rules (p.rules.length:Int) (k:Int) (p.rules[k].cases.length:Int) (j:Int) b) (if b=true then true else w):=λb=>by
    cases b;rw[zrd,Ev.zz2 (by rfl),wrk (by omega)];exact hw
    simp_all[zrd,Ev.kz1,Ev.yz0]
   obtain⟨i,h1,h2⟩:=y73 (S:=λn x=>zad n x) (l:=p.rules[k].cases[j].do_) (p:=λa=>decide (10<a.items.length)) (L:=λn k l m=>yza n k l m) (λn k=>yza.eq_2 _ _ _ n) (by omega) λx hx=>by
    rw[y90,Ev.yz0];exact gt10
   have hc:Ev (λn=>kza n p.rules[k].cases[j].do_) (p.rules[k].cases[j].do_.any λa=>decide (10<a.items.length)):=by
    rw[zbz,Ev.zz0 (by rw[zdh];exact h1),Ev.yz0,h2]
   rw[zsg,Ev.kz1 (by simpa using hj),Ev.yz2 (zz5 hj),zmb,orB,Ev.pif,gt10];split;exact l4 true;rw[Ev.zz0 hc];exact l4 _
  have l2:∀b,Ev (λn=>z7b n p.rules (p.rules.length:Int) (k:Int) b p.rules[k]) (if b=true then true else if p.rules[k].cases.any zmb=true then true else v):=λb=>by
   cases b
   simp_all[zsw,Ev.zz2]
   simp_all[zsw,Ev.kz1,Ev.yz0]
  rw[zrs,Ev.kz1 (by simpa using hk),Ev.yz2 (zz5 hk),zkn,orB,orB,Ev.pif,gt4,gt6];split;exact l2 true;exact l2 _
 have l0:∀b,Ev (λn=>z5x n b p) (b||p.rules.any zkn):=λb=>by
  cases b;rw[zqv,Ev.zz2 (by rfl),ifB]at *;exact l1
  simp_all[zqv,Ev.kz1,Ev.yz0]
 rw[ygh,Ev.pif,gt20,gt40,zog];split
 simp_all
 grind
theorem yub{p}(hs:p.size<=8000000):Ev (λn=>zdw n p) (zog p):=by
 have:=@zl6 p
 have l1:Ev (λn=>z3b n 0 p) (if p.rules.any zkn=true then true else false):=by
  refine zod (L:=λn k=>z3b n k p) (by rw[zsi,Ev.zz2 (by simp),Ev.yz0]) λk hk v hv =>?_
  have:=zrh (Qad hk);have:=@y1a p.rules[k];have:=@zx9 p.rules[k]
  have l3:Ev (λn=>z3k n 0 (k:Int) p.rules[k] p) (if p.rules[k].cases.any zmb=true then true else v):=by
   refine zod (L:=λn j=>z3k n j (k:Int) p.rules[k] p) (by rw[zsc,Ev.zz2 (by simp),wrk (by omega)];exact hv) λj hj w hw =>?_
   have:=zud (Qad hj);have:=@zwd p.rules[k].cases[j]
   have l4:Ev (λn=>z3j n 0 (j:Int) (k:Int) p.rules[k] p) (if (p.rules[k].cases[j].do_.any λa=>decide (10<a.items.length))=true then true else w):=by
    refine zod (L:=λn i=>z3j n i (j:Int) (k:Int) p.rules[k] p) (by rw[zsm,Ev.yz2 (zz5 hj),Ev.zz2 (by simp),wrk (by omega)];exact hw) λi hi u hu =>?_
    rw[zsm,Ev.yz2 (zz5 hj),Ev.kz1 (by simpa using hi),Ev.yz2 (zz5 hj),Ev.yz2 (zz5 hi),Ev.pif,gt10,wrk (by omega),Ev.yz0]
    grind
   rw[zsc,Ev.kz1 (by simpa using hj),Ev.yz2 (zz5 hj),zmb,orB,Ev.pif,gt10];split;exact Ev.pure rfl;exact l4
  have l2:∀b,Ev (λn=>z6m n (k:Int) b p.rules[k] p) (if b=true then true else if p.rules[k].cases.any zmb=true then true else v):=λb=>by
   cases b
   simp_all[zs6,Ev.zz2]
   simp_all[zs6,Ev.kz1,Ev.yz0]
  rw[zsi,Ev.kz1 (by simpa using hk),Ev.yz2 (zz5 hk),zkn,orB,orB,Ev.pif,gt4,gt6];split;exact l2 true;exact l2 _
 have l0:∀b,Ev (λn=>z6v n b p) (b||p.rules.any zkn):=λb=>by
  cases b;rw[zrp,Ev.zz2 (by rfl),ifB]at *;exact l1
  simp_all[zrp,Ev.kz1,Ev.yz0]
 rw[ygx,Ev.pif,gt20,gt40,zog];split
 simp_all
 grind
def kept:List B8:=[[116,114,117,101],[102,97,108,115,101],[115,120],[115,121],[115,122]]
def zay(s:B8):Bool:=zm2 s && !(kept.any λx=>s==x)
theorem zjs{s}(hs:s.length<=8388608):Ev (λn=>z2n n s) (zay s):=by
 obtain⟨i,h1,h2⟩:=y73 (S:=λn x=>some (s==x)) (l:=kept) (p:=λx=>s==x) (L:=λn k l m=>zzc n k l s m) (λn k=>zzc.eq_2 _ _ _ _ n) (by decide) λx hx=>Ev.pure rfl
 have hc:Ev (λn=>zzj n kept s) (kept.any λx=>s==x):=by
  rw[zhh,Ev.zz0 (by rw[zcq];exact h1),Ev.yz0,h2]
 rw[yen,Ev.zz0 (ycx hs),zay];refine andF λ_ =>?_
 exact(Ev.zz0 hc).2 (Ev.pure rfl)
theorem znj{s}(hs:s.length<=8388608):Ev (λn=>z3s n s) (zay s):=by
 have h1:Ev (λn=>zae n s) ((s==[115,120])||((s==[115,121])||(s==[115,122]))):=by
  rw[y8v,Ev.pif];split;rename_i h;rw[h];exact Ev.pure rfl;rename_i h;rw[Ev.pif];simp only[h,Bool.false_or];split;rename_i h;rw[h];exact Ev.pure rfl;rename_i h;simp[h,Bool.false_or];exact Ev.pure rfl
 have e:zay s=(zm2 s&&(!(s==[116,114,117,101])&&(!(s==[102,97,108,115,101]) && !((s==[115,120])||((s==[115,121])||(s==[115,122])))))):=by
  simp_all[zay,kept]
 rw[yib,Ev.zz0 (ye2 hs),e];refine andF λ_=>andF λ_=>andF λ_ =>?_
 rw[Ev.zz0 h1,Ev.yz0]
theorem yit:zay []=false:=rfl
theorem ysd{α:Type}{l:List α}:decide ((l.length:Int)>0) = !l.isEmpty:=by cases l <;> simp
theorem sc_t{α:Type}{k:Int}{l:List α}(h:¬(k=5↔l≠[])):(!((k==5)==decide ((l.length:Int)>0)))=true:=by
 grind[ysd]
theorem sc_f{α:Type}{k:Int}{l:List α}(h:k=5↔l≠[]):(!((k==5)==decide ((l.length:Int)>0)))=false:=by
 rw[ysd];grind
def own(k:Int):Int:=if k=2∨k=3 then 3 else if k=4∨k=6 then 1 else 0
theorem y5h{k}:Ev (λn=>zb1 n k) (own k):=by
 have l1:∀b,Ev (λn=>z8l n b) (if b=true then 1 else 0):=λb=>by cases b <;> rw[y8n] <;> exact Ev.pure rfl
 have l0:∀b,Ev (λn=>z8o n k b) (if b=true then 3 else if k=4∨k=6 then 1 else 0):=λb=>by
  rw[y9u,Ev.pif];split;exact Ev.pure rfl;rw[Ev.pif];split
  simp_all
  rename_i h;have h:=by simpa using h
  refine(l1 _).to ?_
  grind
 rw[ylq,Ev.pif,own];split
 simp_all
 refine(l0 _).to ?_
 grind
theorem yjo{k}:Ev (λn=>zcy n k) (own k):=by
 have l1:∀b,Ev (λn=>z8x n b) (if b=true then 1 else 0):=λb=>by cases b <;> rw[y9d] <;> exact Ev.pure rfl
 have l0:∀b,Ev (λn=>z8p n k b) (if b=true then 3 else if k=4∨k=6 then 1 else 0):=λb=>by
  rw[yaa,Ev.pif];split;exact Ev.pure rfl;rw[Ev.pif];split
  simp_all
  rename_i h;have h:=by simpa using h
  refine(l1 _).to ?_
  grind
 rw[yl3,Ev.pif,own];split
 simp_all
 refine(l0 _).to ?_
 grind
noncomputable def zx7(x:yzj):Bool:=decide (1<=x.kind)&&(decide (x.kind<=3)&&(zay x.name&&(!x.args.isEmpty&&(z7t (z23 x.args)==0))))
def ysk(a:zz4):Prop:=(1<=a.kind∧a.kind<=6)∧(a.axis<=if a.kind=4∨a.kind=5 then 2 else 0)∧(if a.kind<=4 then zay a.name=true else a.name=[])∧z7t (z23 a.args)=0∧(own a.kind<=a.args.length)∧(4<a.kind->(a.args.length:Int)=own a.kind)∧(a.kind=5↔a.items≠[])∧a.items.all zx7=true
noncomputable def z10(a:zz4):Bool:=@decide (ysk a) (Classical.propDecidable _)
theorem zow{a}:z10 a=true↔ysk a:=@decide_eq_true_iff _ (Classical.propDecidable _)
theorem zaj{a}(h:¬ysk a):z10 a=false:=@decide_eq_false _ (Classical.propDecidable _) h
theorem yj1{l}(hw:(z23 l).wf)(hs:(l.map zz1.size).sum<=8000000):Ev (λn=>z0i n (z23 l)) (z7t (z23 l)):=zm6 hw (by rw[zex];omega)
theorem neI{k:Int}:(k != 0) = !(k==0):=rfl
theorem yt1{a:zz4}(hw:a.wf)(hs:a.size<=8000000):Ev (λn=>z5d n a) (z10 a):=by
 have:=@yf1 a;have:=@y49 a;have:=@z04x a;have list:∀l:yz6,Ev (λn=>z2k n l) (z23 l):=λl=>by rw[y0x,Ev.yz0];rfl
 obtain⟨⟨hk0,hk1⟩,hx0,hx1⟩:=yyt hw
 have l6:Ev (λn=>zzs n 0 a.items (a.items.length:Int)) (if a.items.all zx7=true then true else false):=by
  refine zbv (L:=λn k=>zzs n k a.items (a.items.length:Int)) (by rw[zhj,Ev.zz2 (by simp),Ev.yz0]) λk hk v hv =>?_
  have hx:=Qad hk;have:=y85 hx;have:=@ycw a.items[k];have:=@z05k a.items[k]
  have l7:∀b,Ev (λn=>yzi n a.items (a.items.length:Int) (k:Int) (!b)) (if b=true then v else false):=λb=>by
   cases b;rw[zhf,Ev.kz1 (by rfl),Ev.yz0];rfl;rw[zhf,Ev.zz2 (by rfl),wrk (by omega)];exact hv
  rw[zhj,Ev.kz1 (by simpa using hk),Ev.yz2 (zz5 hk),zx7];generalize a.items[k]=x at *;by_cases h1:1<=x.kind
  case neg=>rw[Ev.kz1 (by simp;omega),Qbl h1];exact l7 false
  rw[Ev.zz2 (by simp;omega),Qbm h1];by_cases h2:x.kind<=3
  case neg=>rw[Ev.kz1 (by simp;omega),Qbl h2];exact l7 false
  rw[Ev.zz2 (by simp;omega),Qbm h2,Ev.zz0 (zjs (by omega))];cases h3:zay x.name;exact l7 false;rw[Ev.zz2 (by rfl)];cases h4:x.args.isEmpty
  case true=>rw[Ev.kz1 (by rw[List.isEmpty_iff.1 h4];rfl)];exact l7 false
  have h4':x.args≠[]:=by intro h;rw[h]at h4;cases h4
  have h4':x.args.length≠0:=by intro h;exact h4' (List.length_eq_zero_iff.1 h)
  rw[Ev.zz2 (by simpa using h4'),Ev.zz0 (list _),zz1.kz3,Ev.zz0 (yj1 (z05f (z028 hw hx)) (by omega)),neI];exact l7 _
 have l5:∀b,(b=false->((1<=a.kind∧a.kind<=6)∧(a.axis<=if a.kind=4∨a.kind=5 then 2 else 0)∧(if a.kind<=4 then zay a.name=true else a.name=[])∧z7t (z23 a.args)=0∧(own a.kind<=a.args.length)∧(4<a.kind->(a.args.length:Int)=own a.kind)))->(b=true->¬ysk a)->Ev (λn=>kzm n b a) (z10 a):=λb hf ht=>by
  cases b
  case true=>rw[zhe,Ev.kz1 (by rfl),Ev.yz0,zaj (ht rfl)]
  obtain⟨g1,g2,g3,g4,g5,g6⟩:=hf rfl;rw[zhe,Ev.zz2 (by rfl)];by_cases h:a.kind=5↔a.items≠[]
  case neg=>
   rw[Ev.kz1 (sc_t h),Ev.yz0,zaj (λq=>h q.2.2.2.2.2.2.1)]
  rw[Ev.zz2 (sc_f h)];refine l6.to ?_;by_cases q:a.items.all zx7=true;rw[Qbq q,zow.2 ⟨g1,g2,g3,g4,g5,g6,h,q⟩];rw[Qbr q,zaj (λz=>q z.2.2.2.2.2.2.2)]
 have l4:∀c:Bool,(c=decide (1<=a.kind∧a.kind<=4))->((1<=a.kind∧a.kind<=6)∧(a.axis<=if a.kind=4∨a.kind=5 then 2 else 0))->∀b,(b=false->(if a.kind<=4 then zay a.name=true else a.name=[]))->(b=true->¬ysk a)->Ev (λn=>zzr n c b a) (z10 a):=λc hc hg b hf ht=>by
  cases b
  case true=>rw[zil,Ev.kz1 (by rfl),Ev.yz0,zaj (ht rfl)]
  have g3:=hf rfl;rw[zil,Ev.zz2 (by rfl),Ev.zz0 (list _),zz1.kz3,Ev.zz0 (yj1 (z057 hw) (by omega))];by_cases h1:z7t (z23 a.args)=0
  case neg=>rw[Ev.kz1 (by simpa using h1)];exact l5 true (λh=>by cases h) λ_ q=>h1 q.2.2.2.1
  rw[Ev.zz2 (by simpa using h1),Ev.zz0 y5h];by_cases h2:own a.kind<=a.args.length
  case neg=>rw[Ev.kz1 (by simp;omega)];exact l5 true (λh=>by cases h) λ_ q=>h2 q.2.2.2.2.1
  rw[Ev.zz2 (by simp;omega)];cases hcc:c;rw[Ev.kz1 (by rfl),Ev.zz0 y5h];have hk4:4<a.kind:=by rw[hcc]at hc;have:=of_decide_eq_false hc.symm;omega
  refine l5 _ (λh=>⟨hg.1,hg.2,g3,h1,h2,λ_=>by simpa using h⟩) λh q =>?_
  have:=q.2.2.2.2.2.1 hk4;simp[this]at h;rw[Ev.zz2 (by rfl)];have hk4:a.kind<=4:=by rw[hcc]at hc;have:=Qac hc.symm;omega
  exact l5 _ (λh=>⟨hg.1,hg.2,g3,h1,h2,λh=>by omega⟩) λh=>by cases h
 have l3:∀c:Bool,(c=decide (1<=a.kind∧a.kind<=4))->∀b,(b=false->((1<=a.kind∧a.kind<=6)∧(a.axis<=if a.kind=4∨a.kind=5 then 2 else 0)))->(b=true->¬ysk a)->Ev (λn=>yzs n c b a) (z10 a):=λc hc b hf ht=>by
  cases b
  case true=>rw[zhr,Ev.kz1 (by rfl),Ev.yz0,zaj (ht rfl)]
  have hg:=hf rfl;rw[zhr,Ev.zz2 (by rfl),Ev.zz0 (zjs (by omega))];by_cases hk4:a.kind<=4;rw[Qbm (by omega)]at hc;subst hc;cases hn:zay a.name;exact l4 true (by rw[Qbm (by omega)]) hg true (λh=>by cases h) λ_ q=>by have:=q.2.2.1;rw[Qbq hk4,hn]at this;cases this
  exact l4 true (by rw[Qbm (by omega)]) hg false (λ_=>by rw[Qbq hk4,hn]) λh=>by cases h
  rw[Qbl (by omega)]at hc;subst hc;cases hn:zay a.name;rw[Ev.zz2 (by rfl),Ev.kz1 (by rfl)];refine l4 false (by rw[Qbl (by omega)]) hg _ (λh=>by rw[Qbr hk4];simpa using h) λh q =>?_
  have:=q.2.2.1;rw[Qbr hk4]at this;rw[this]at h;cases h
  exact l4 false (by rw[Qbl (by omega)]) hg true (λh=>by cases h) λ_ q=>by
   have:=q.2.2.1;rw[Qbr hk4]at this;rw[this,yit]at hn;cases hn
 have l2:∀c:Bool,(c=decide (1<=a.kind∧a.kind<=4))->∀x:Int,x=(if a.kind=4∨a.kind=5 then 2 else 0)->Ev (λn=>z00 n c x a) (z10 a):=λc hc x hx=>by
  rw[zty];by_cases h1:1<=a.kind
  case neg=>rw[Ev.kz1 (by simp;omega)];exact l3 c hc true (λh=>by cases h) λ_ q=>h1 q.1.1
  rw[Ev.zz2 (by simp;omega)];by_cases h2:a.kind<=6
  case neg=>rw[Ev.kz1 (by simp;omega)];exact l3 c hc true (λh=>by cases h) λ_ q=>h2 q.1.2
  rw[Ev.zz2 (by simp;omega),hx];refine l3 c hc _ (λh=>⟨⟨h1,h2⟩,by have:=of_decide_eq_false h;omega⟩) λh q =>?_
  have:=Qac h;have:=q.2.1;omega
 have l1:∀c:Bool,(c=decide (1<=a.kind∧a.kind<=4))->∀b:Bool,b=decide (a.kind=4∨a.kind=5)->Ev (λn=>yzz n c 0 b a) (z10 a):=λc hc b hb=>by
  rw[ztj];by_cases h:a.kind=4∨a.kind=5;rw[hb,Qbm h,Ev.kz1 rfl];exact l2 c hc _ (by rw[Qbq h]);rw[hb,Qbl h,Ev.zz2 rfl];exact l2 c hc _ (by rw[Qbr h])
 have l0:∀c:Bool,(c=decide (1<=a.kind∧a.kind<=4))->Ev (λn=>zzz n c a) (z10 a):=λc hc=>by
  rw[zte];by_cases h:a.kind=4;rw[Ev.kz1 (by simpa using h)];exact l1 c hc true (by rw[Qbm (.inl h)]);rw[Ev.zz2 (by simpa using h)];exact l1 c hc _ (by by_cases q:a.kind=5 <;> simp[q,h])
 rw[y05];by_cases h:1<=a.kind;rw[Ev.kz1 (by simpa using h)];exact l0 _ (by simp[h]);rw[Ev.zz2 (by simpa using h)];exact l0 _ (by simp[h])
theorem yu8{a:zz4}(hw:a.wf)(hs:a.size<=8000000):Ev (λn=>zah n a) (z10 a):=by
 have:=@yf1 a;have:=@y49 a;have:=@z04x a;have list:∀l:yz6,Ev (λn=>z1m n l) (z23 l):=λl=>by rw[zqr,Ev.yz0];rfl
 obtain⟨⟨hk0,hk1⟩,hx0,hx1⟩:=yyt hw
 have l6:Ev (λn=>z13 n 0 a) (if a.items.all zx7=true then true else false):=by
  refine zbv (L:=λn k=>z13 n k a) (by rw[zn1,Ev.zz2 (by simp),Ev.yz0]) λk hk v hv =>?_
  have hx:=Qad hk;have:=y85 hx;have:=@ycw a.items[k];have:=@z05k a.items[k]
  have l7:∀b,Ev (λn=>zzt n (k:Int) (!b) a) (if b=true then v else false):=λb=>by
   cases b;rw[znd,Ev.kz1 (by rfl),Ev.yz0];rfl;rw[znd,Ev.zz2 (by rfl),wrk (by omega)];exact hv
  rw[zn1,Ev.kz1 (by simpa using hk),Ev.yz2 (zz5 hk),zx7];generalize a.items[k]=x at *;by_cases h1:1<=x.kind
  case neg=>rw[Ev.kz1 (by simp;omega),Qbl h1];exact l7 false
  rw[Ev.zz2 (by simp;omega),Qbm h1];by_cases h2:x.kind<=3
  case neg=>rw[Ev.kz1 (by simp;omega),Qbl h2];exact l7 false
  rw[Ev.zz2 (by simp;omega),Qbm h2,Ev.zz0 (znj (by omega))];cases h3:zay x.name;exact l7 false;rw[Ev.zz2 (by rfl)];cases h4:x.args.isEmpty
  case true=>rw[Ev.kz1 (by rw[List.isEmpty_iff.1 h4];rfl)];exact l7 false
  have h4':x.args≠[]:=by intro h;rw[h]at h4;cases h4
  have h4':x.args.length≠0:=by intro h;exact h4' (List.length_eq_zero_iff.1 h)
  rw[Ev.zz2 (by simpa using h4'),Ev.zz0 (list _),zz1.kz3,Ev.zz0 (zh0 (by rw[zex];omega)),neI];exact l7 _
 have l5:((1<=a.kind∧a.kind<=6)∧(a.axis<=if a.kind=4∨a.kind=5 then 2 else 0)∧(if a.kind<=4 then zay a.name=true else a.name=[])∧z7t (z23 a.args)=0∧(own a.kind<=a.args.length)∧(4<a.kind->(a.args.length:Int)=own a.kind))->Ev (λn=>z2r n a) (z10 a):=λ⟨g1,g2,g3,g4,g5,g6⟩=>by
  rw[y1y];by_cases h:a.kind=5↔a.items≠[]
  case neg=>
   rw[Ev.kz1 (sc_t h),Ev.yz0,zaj (λq=>h q.2.2.2.2.2.2.1)]
  rw[Ev.zz2 (sc_f h)];refine l6.to ?_;by_cases q:a.items.all zx7=true;rw[Qbq q,zow.2 ⟨g1,g2,g3,g4,g5,g6,h,q⟩];rw[Qbr q,zaj (λz=>q z.2.2.2.2.2.2.2)]
 have l4:(1<=a.kind∧a.kind<=6)∧(a.axis<=if a.kind=4∨a.kind=5 then 2 else 0)∧z7t (z23 a.args)=0∧own a.kind<=a.args.length->4<a.kind->∀b:Bool,(b=true↔¬(a.name=[]∧(a.args.length:Int)=own a.kind))->Ev (λn=>yzn n b a) (z10 a):=λ⟨g1,g2,g4,g5⟩ hk b hb=>by
  cases b
  case true=>rw[zmf,Ev.kz1 (by rfl),Ev.yz0,zaj];exact λq=>hb.1 rfl ⟨by have:=q.2.2.1;rwa[Qbr (by omega)]at this,q.2.2.2.2.2.1 hk⟩
  obtain⟨q1,q2⟩:=Classical.byContradiction λq=>Bool.noConfusion (hb.2 q)
  rw[zmf,Ev.zz2 (by rfl)];exact l5 ⟨g1,g2,by rw[Qbr (by omega)];exact q1,g4,g5,λ_=>q2⟩
 have l2:(1<=a.kind∧a.kind<=6)∧(a.axis<=if a.kind=4∨a.kind=5 then 2 else 0)∧z7t (z23 a.args)=0∧own a.kind<=a.args.length->Ev (λn=>z2s n a) (z10 a):=λhg=>by
  have nm:decide ((a.name.length:Int)>0) = !(a.name==[]):=by rw[ysd];cases a.name <;> rfl
  rw[y2u];by_cases h5:a.kind=5
  ·rw[Ev.kz1 (by simpa using h5),zgs,Ev.kz1 (by rfl),nm];have ho:own a.kind=0:=by rw[h5];rfl
   by_cases hn:a.name=[]
   case neg=>rw[Ev.kz1 (by simpa using hn)];exact l4 hg (by omega) true (by simp[hn])
   rw[Ev.zz2 (by simpa using hn),Ev.kz1 (by simpa using h5)];by_cases ha:(a.args.length:Int)=0;rw[Ev.zz2 (Qbl (by omega)),Ev.zz2 (by rw[h5];rfl)];exact l4 hg (by omega) false ⟨λh=>(Bool.noConfusion h),λh=>(h ⟨hn,by rw[ho];exact ha⟩).elim⟩;rw[Ev.kz1 (Qbm (by omega))];exact l4 hg (by omega) true ⟨λ_ h=>ha (by rw[<-ho];exact h.2),λ_=>rfl⟩
  rw[Ev.zz2 (by simpa using h5)];by_cases h6:a.kind=6
  ·rw[show(a.kind==6)=true by simpa using h6,zgs,Ev.kz1 (by rfl),nm];have ho:own a.kind=1:=by rw[h6];rfl
   by_cases hn:a.name=[]
   case neg=>rw[Ev.kz1 (by simpa using hn)];exact l4 hg (by omega) true (by simp[hn])
   rw[Ev.zz2 (by simpa using hn),Ev.zz2 (by simpa using h5),Ev.kz1 (by simpa using h6)];have:=hg.2.2.2;refine l4 hg (by omega) _ ?_;rw[ho]at this ⊢;simp only[Qar,hn,true_and];omega
  rw[show(a.kind==6)=false by simpa using h6,zgs,Ev.zz2 (by rfl),Ev.zz0 (znj (by omega))];have hk:a.kind<=4:=by have:=hg.1;omega
  cases hn:zay a.name;rw[Ev.kz1 (by rfl),Ev.yz0,zaj];exact λq=>by have:=q.2.2.1;rw[Qbq hk,hn]at this;cases this
  rw[Ev.zz2 (by rfl)];exact l5 ⟨hg.1,hg.2.1,by rw[Qbq hk,hn],hg.2.2.1,hg.2.2.2,λh=>by omega⟩
 have l1:(1<=a.kind∧a.kind<=6)∧z7t (z23 a.args)=0∧own a.kind<=a.args.length->∀b:Bool,b=decide (a.kind=4∨a.kind=5)->Ev (λn=>z2y n b a) (z10 a):=λhg b hb=>by
  rw[y2j];by_cases h:a.kind=4∨a.kind=5;rw[hb,Qbm h,Ev.kz1 rfl];by_cases q:a.axis<=2;rw[Ev.zz2 (by simp;omega)];exact l2 ⟨hg.1,by rw[Qbq h];exact q,hg.2⟩;rw[Ev.kz1 (by simp;omega),Ev.yz0,zaj];exact λz=>q (by have:=z.2.1;rwa[Qbq h]at this)
  rw[hb,Qbl h,Ev.zz2 rfl];by_cases q:a.axis<=0;rw[Ev.zz2 (by simp;omega)];exact l2 ⟨hg.1,by rw[Qbr h];exact q,hg.2⟩;rw[Ev.kz1 (by simp;omega),Ev.yz0,zaj];exact λz=>q (by have:=z.2.1;rwa[Qbr h]at this)
 have l0:∀b:Bool,(b=false->(1<=a.kind∧a.kind<=6)∧z7t (z23 a.args)=0∧own a.kind<=a.args.length)->(b=true->¬ysk a)->Ev (λn=>kzz n b a) (z10 a):=λb hf ht=>by
  cases b
  case true=>rw[zmt,Ev.kz1 (by rfl),Ev.yz0,zaj (ht rfl)]
  rw[zmt,Ev.zz2 (by rfl)];by_cases h:a.kind=4;rw[Ev.kz1 (by simpa using h)];exact l1 (hf rfl) true (by rw[Qbm (.inl h)]);rw[Ev.zz2 (by simpa using h)];exact l1 (hf rfl) _ (by by_cases q:a.kind=5 <;> simp[q,h])
 rw[y8s];by_cases h1:1<=a.kind
 case neg=>rw[Ev.kz1 (by simp;omega)];exact l0 true (λh=>by cases h) λ_ q=>h1 q.1.1
 rw[Ev.zz2 (by simp;omega)];by_cases h2:a.kind<=6
 case neg=>rw[Ev.kz1 (by simp;omega)];exact l0 true (λh=>by cases h) λ_ q=>h2 q.1.2
 rw[Ev.zz2 (by simp;omega),Ev.zz0 (list _),zz1.kz3,Ev.zz0 (zh0 (by rw[zex];omega))];by_cases h3:z7t (z23 a.args)=0
 case neg=>rw[Ev.kz1 (by simpa using h3)];exact l0 true (λh=>by cases h) λ_ q=>h3 q.2.2.2.1
 rw[Ev.zz2 (by simpa using h3),Ev.zz0 yjo];exact l0 _ (λh=>⟨⟨h1,h2⟩,h3,by have:=of_decide_eq_false h;omega⟩) λh q=>by have:=Qac h;have:=q.2.2.2.2.1;omega
noncomputable def zuf(c:zz6):Bool:=decide (1<=c.weight)&&(decide (c.weight<=1000000)&&((z7t c.when_==0)&&c.do_.all z10))
noncomputable def zo7(r:yz5):Bool:=zay r.name&&(r.params.all zay&&r.cases.all zuf)
noncomputable def zxc(t:zzi):Bool:=zay t.name&&(z7t t.value==0)
noncomputable def zd1(p:yz1):Bool:=p.attrs.all zxc&&p.rules.all zo7
theorem ifA{c d}{γ:Type}{x y:γ}:(if (c&&d)=true then x else y)=if c=true then (if d=true then x else y)else y:=by cases c <;> rfl
theorem ymx{p:yz1}(hw:p.wf)(hs:p.size<=8000000):Ev (λn=>zam n p) (zd1 p):=by
 have:=@y0t p;have:=@zl6 p
 have l2:Ev (λn=>z17 n 0 p.rules (p.rules.length:Int)) (if p.rules.all zo7=true then true else false):=by
  refine zbv (L:=λn k=>z17 n k p.rules (p.rules.length:Int)) (by rw[zm9,Ev.zz2 (by simp),Ev.yz0]) λk hk v hv =>?_
  have hr:=Qad hk;have:=zrh hr;have:=@y1a p.rules[k];have:=@zx9 p.rules[k];have:=@z052 p.rules[k];have hwr:=yr2 hw hr
  have l4:Ev (λn=>z1j n 0 p.rules[k].cases p.rules (p.rules.length:Int) (k:Int) (p.rules[k].cases.length:Int)) (if p.rules[k].cases.all zuf=true then v else false):=by
   refine zbv (L:=λn j=>z1j n j p.rules[k].cases p.rules (p.rules.length:Int) (k:Int) (p.rules[k].cases.length:Int)) (by rw[zm5,Ev.zz2 (by simp),wrk (by omega)];exact hv) λj hj w hv =>?_
   have hc:=Qad hj;have:=zud hc;have:=@yix p.rules[k].cases[j];have:=@zwd p.rules[k].cases[j];have hwc:=yqw hwr hc
   have l6:Ev (λn=>z1f n 0 p.rules[k].cases[j].do_ p.rules[k].cases p.rules (p.rules.length:Int) (k:Int) (p.rules[k].cases.length:Int) (j:Int) (p.rules[k].cases[j].do_.length:Int)) (if p.rules[k].cases[j].do_.all z10=true then w else false):=by
    refine zbv (L:=λn i=>z1f n i p.rules[k].cases[j].do_ p.rules[k].cases p.rules (p.rules.length:Int) (k:Int) (p.rules[k].cases.length:Int) (j:Int) (p.rules[k].cases[j].do_.length:Int)) (by rw[zno,Ev.zz2 (by simp),wrk (by omega)];exact hv) λi hi u hu =>?_
    have ha:=Qad hi;have:=y0s ha;rw[zno,Ev.kz1 (by simpa using hi),Ev.yz2 (zz5 hi),Ev.zz0 (yt1 (yoe hwc ha) (by omega))];cases z10 p.rules[k].cases[j].do_[i];rw[Ev.kz1 (by rfl),Ev.yz0];rfl;rw[Ev.zz2 (by rfl),wrk (by omega)];exact hu
   have l5:∀b,Ev (λn=>z1g n p.rules[k].cases p.rules (p.rules.length:Int) (k:Int) (p.rules[k].cases.length:Int) (j:Int) (!b) p.rules[k].cases[j]) (if b=true then (if p.rules[k].cases[j].do_.all z10=true then w else false)else false):=λb=>by
    cases b;rw[zne,Ev.kz1 (by rfl),Ev.yz0];rfl;rw[zne,Ev.zz2 (by rfl)];exact l6
   rw[zm5,Ev.kz1 (by simpa using hj),Ev.yz2 (zz5 hj),zz6.kz3,zuf,ifA,ifA,ifA];by_cases h1:1<=p.rules[k].cases[j].weight
   case neg=>rw[Ev.kz1 (by simp;omega),Qbl h1];exact l5 false
   rw[Ev.zz2 (by simp;omega),Qbm h1];by_cases h2:p.rules[k].cases[j].weight<=1000000
   case neg=>rw[Ev.kz1 (by simp;omega),Qbl h2];exact l5 false
   rw[Ev.zz2 (by simp;omega),Qbm h2,zz1.kz3,Ev.zz0 (zm6 (z024 hwc) (by omega)),neI];exact l5 _
  have l3:∀b,Ev (λn=>z2x n p.rules (p.rules.length:Int) (k:Int) (!b) p.rules[k]) (if b=true then (if p.rules[k].cases.all zuf=true then v else false)else false):=λb=>by
   cases b;rw[zmo,Ev.kz1 (by rfl),Ev.yz0];rfl;rw[zmo,Ev.zz2 (by rfl)];exact l4
  obtain⟨i,h1,h2⟩:=y73 (S:=λn x=>z8i n x) (l:=p.rules[k].params) (p:=λs => !zay s) (L:=λn k l m=>zzg n k l m) (λn k=>zzg.eq_2 _ _ _ n) (by omega) λx hx=>by
   have:=z04y hx;rw[y4c,Ev.zz0 (zjs (by omega)),Ev.yz0]
  have hc:Ev (λn=>yzg n p.rules[k].params) (!p.rules[k].params.all zay):=by
   rw[zfu,Ev.zz0 (by rw[zh7];exact h1),Ev.yz0,h2,<-List.not_all_eq_any_not]
  rw[zm9,Ev.kz1 (by simpa using hk),Ev.yz2 (zz5 hk),zo7,ifA,ifA,Ev.zz0 (zjs (by omega))];cases zay p.rules[k].name;rw[Ev.kz1 (by rfl)];exact l3 false;rw[Ev.zz2 (by rfl),Ev.zz0 hc];exact l3 _
 have l0:Ev (λn=>z16 n 0 p.attrs (p.attrs.length:Int) p) (if p.attrs.all zxc=true then p.rules.all zo7 else false):=by
  refine zbv (L:=λn k=>z16 n k p.attrs (p.attrs.length:Int) p) (by rw[zmj,Ev.zz2 (by simp),<-ifB (p.rules.all zo7)];exact l2) λk hk v hv =>?_
  have ht:=Qad hk;have:=ybh ht;have:=@yec p.attrs[k]
  have l1:∀b,Ev (λn=>z30 n p.attrs (p.attrs.length:Int) (k:Int) (!b) p) (if b=true then v else false):=λb=>by
   cases b;rw[zmw,Ev.kz1 (by rfl),Ev.yz0];rfl;rw[zmw,Ev.zz2 (by rfl),wrk (by omega)];exact hv
  rw[zmj,Ev.kz1 (by simpa using hk),Ev.yz2 (zz5 hk),zxc,ifA,Ev.zz0 (zjs (by omega))];cases zay p.attrs[k].name;rw[Ev.kz1 (by rfl)];exact l1 false;rw[Ev.zz2 (by rfl),zz1.kz3,Ev.zz0 (zm6 (yyx hw ht) (by omega)),neI];exact l1 _
 rw[y9g];refine l0.to ?_;rw[zd1];cases p.attrs.all zxc <;> rfl
theorem ym9{p:yz1}(hw:p.wf)(hs:p.size<=8000000):Ev (λn=>zac n p) (zd1 p):=by
 have:=@y0t p;have:=@zl6 p
 have l2:Ev (λn=>z19 n 0 p) (if p.rules.all zo7=true then true else false):=by
  refine zbv (L:=λn k=>z19 n k p) (by rw[znc,Ev.zz2 (by simp),Ev.yz0]) λk hk v hv =>?_
  have hr:=Qad hk;have:=zrh hr;have:=@y1a p.rules[k];have:=@zx9 p.rules[k];have:=@z052 p.rules[k];have hwr:=yr2 hw hr
  have l4:Ev (λn=>z11 n 0 (k:Int) p.rules[k] p) (if p.rules[k].cases.all zuf=true then v else false):=by
   refine zbv (L:=λn j=>z11 n j (k:Int) p.rules[k] p) (by rw[zn6,Ev.zz2 (by simp),wrk (by omega)];exact hv) λj hj w hv =>?_
   have hc:=Qad hj;have:=zud hc;have:=@yix p.rules[k].cases[j];have:=@zwd p.rules[k].cases[j];have hwc:=yqw hwr hc
   have l6:Ev (λn=>z1i n 0 (k:Int) (j:Int) p.rules[k].cases[j] p.rules[k] p) (if p.rules[k].cases[j].do_.all z10=true then w else false):=by
    refine zbv (L:=λn i=>z1i n i (k:Int) (j:Int) p.rules[k].cases[j] p.rules[k] p) (by rw[zmk,Ev.zz2 (by simp),wrk (by omega)];exact hv) λi hi u hu =>?_
    have ha:=Qad hi;have:=y0s ha;rw[zmk,Ev.kz1 (by simpa using hi),Ev.yz2 (zz5 hi),Ev.zz0 (yu8 (yoe hwc ha) (by omega)),zz6.kz3];cases z10 p.rules[k].cases[j].do_[i];rw[Ev.kz1 (by rfl),Ev.yz0];rfl;rw[Ev.zz2 (by rfl),wrk (by omega)];exact hu
   have l5:∀b,Ev (λn=>z1a n (k:Int) (j:Int) (!b) p.rules[k].cases[j] p.rules[k] p) (if b=true then (if p.rules[k].cases[j].do_.all z10=true then w else false)else false):=λb=>by
    cases b;rw[zmm,Ev.kz1 (by rfl),Ev.yz0];rfl;rw[zmm,Ev.zz2 (by rfl),zz6.kz3];exact l6
   rw[zn6,Ev.kz1 (by simpa using hj),Ev.yz2 (zz5 hj),zz6.kz3,zuf,ifA,ifA,ifA];by_cases h1:1<=p.rules[k].cases[j].weight
   case neg=>rw[Ev.kz1 (by simp;omega),Qbl h1];exact l5 false
   rw[Ev.zz2 (by simp;omega),Qbm h1];by_cases h2:p.rules[k].cases[j].weight<=1000000
   case neg=>rw[Ev.kz1 (by simp;omega),Qbl h2];exact l5 false
   rw[Ev.zz2 (by simp;omega),Qbm h2,zz1.kz3,Ev.zz0 (zh0 (by omega)),neI];exact l5 _
  have l3:Ev (λn=>z1h n 0 (k:Int) p.rules[k] p) (if p.rules[k].params.all zay=true then (if p.rules[k].cases.all zuf=true then v else false)else false):=by
   refine zbv (L:=λn j=>z1h n j (k:Int) p.rules[k] p) (by rw[zn3,Ev.zz2 (by simp)];exact l4) λj hj w hv =>?_
   have:=z04y (Qad hj);rw[zn3,Ev.kz1 (by simpa using hj),Ev.yz2 (zz5 hj),Ev.zz0 (znj (by omega))];cases zay p.rules[k].params[j];rw[Ev.kz1 (by rfl),Ev.yz0];rfl;rw[Ev.zz2 (by rfl),wrk (by omega)];exact hv
  rw[znc,Ev.kz1 (by simpa using hk),Ev.yz2 (zz5 hk),zo7,ifA,ifA,Ev.zz0 (znj (by omega))];cases zay p.rules[k].name;rw[Ev.kz1 (by rfl),Ev.yz0];rfl;rw[Ev.zz2 (by rfl)];exact l3
 have l0:Ev (λn=>z1k n 0 p) (if p.attrs.all zxc=true then p.rules.all zo7 else false):=by
  refine zbv (L:=λn k=>z1k n k p) (by rw[zni,Ev.zz2 (by simp),<-ifB (p.rules.all zo7)];exact l2) λk hk v hv =>?_
  have ht:=Qad hk;have:=ybh ht;have:=@yec p.attrs[k]
  have l1:∀b,Ev (λn=>z35 n (k:Int) (!b) p) (if b=true then v else false):=λb=>by
   cases b;rw[zm1,Ev.kz1 (by rfl),Ev.yz0];rfl;rw[zm1,Ev.zz2 (by rfl),wrk (by omega)];exact hv
  rw[zni,Ev.kz1 (by simpa using hk),Ev.yz2 (zz5 hk),zxc,ifA,Ev.zz0 (znj (by omega))];cases zay p.attrs[k].name;rw[Ev.kz1 (by rfl)];exact l1 false;rw[Ev.zz2 (by rfl),Ev.yz2 (zz5 hk),zz1.kz3,Ev.zz0 (zh0 (by omega)),neI];exact l1 _
 rw[y97];refine l0.to ?_;rw[zd1];cases p.attrs.all zxc <;> rfl
def yzm(p:yz1):List B8:=p.attrs.map (·.name)
def zz7(p:yz1):List B8:=p.rules.map (·.name)
theorem yaz{α β:Type}{g}(l:List α)(s:List β):l.foldl (λs x=>s++[g x]) s=s++l.map g:=by
 induction l generalizing s with
 |nil=>simp
 |cons x l ih=>simp[ih]
theorem zve{p}(hs:p.size<=8000000):Ev (λn=>z7r n p) (yzm p):=by
 have:=@y0t p;rw[yd0]
 refine yox (L:=λn k s=>z50 n k p s) (xs:=p.attrs) (f:=λs x=>s++[x.name]) (I:=λk s=>s.length=k) rfl (λ_=>by
  rw[zom,Ev.zz2 (by simp),Ev.yz0,yaz];rfl) λk hk s hi=>⟨by simp[hi],λh=>by
  rw[zom,Ev.kz1 (by simpa using hk),Ev.yz2 (zz5 hk),Ev.yz2 (z01 (by simp;omega)),wrk (by omega)];exact h⟩
theorem zwi{p}(hs:p.size<=8000000):Ev (λn=>z89 n p) (zz7 p):=by
 have:=@zl6 p;rw[ybt]
 refine yox (L:=λn k s=>z4h n k p s) (xs:=p.rules) (f:=λs x=>s++[x.name]) (I:=λk s=>s.length=k) rfl (λ_=>by
  rw[zpg,Ev.zz2 (by simp),Ev.yz0,yaz];rfl) λk hk s hi=>⟨by simp[hi],λh=>by
  rw[zpg,Ev.kz1 (by simpa using hk),Ev.yz2 (zz5 hk),Ev.yz2 (z01 (by simp;omega)),wrk (by omega)];exact h⟩
def atI(l:List B8)(s:B8):Int:=match l.idxOf? s with
 |some i=>(i:Int)
 |none => -1
theorem z011{l s} : -1<=atI l s:=by unfold atI;split <;> omega
theorem zmd(x)(l)(s):atI (x::l) s=if x=s then 0 else if atI l s = -1 then -1 else atI l s+1:=by
 unfold atI;rw[List.idxOf?_cons];by_cases h:x=s;subst h;simp
 grind
theorem yf2{L:Nat->Int->Option Int}{l s}{p:B8->Bool}(hp:∀x,p x=true↔x=s)(hb:l.length<=8388608)
  (hL:∀n (k:Int),L (n+1) k=pIf (decide (k<(l.length:Int))) ((ix l k).bind λx0=>pIf (p x0) (some k) (L n (IntKind.i64.wrap (k+1)))) (some (-1))):Ev (λn=>L n 0) (atI l s):=by
 have:∀k,k<=l.length->Ev (λn=>L n (k:Int)) (if atI (l.drop k) s = -1 then -1 else atI (l.drop k) s+k) :=
  down (by rw[Ev.zt2 (λn=>hL n _),Ev.zz2 (by simp),Ev.yz0,List.drop_length];rfl) λk hk ih=>by
   rw[Ev.zt2 (λn=>hL n _),Ev.kz1 (by simpa using hk),Ev.yz2 (zz5 hk),<-Qah (h:=hk),zmd];by_cases h:l[k]=s
   simp_all[Ev.kz1,Ev.yz0]
   rw[Ev.zz2 (by grind),wrk (by omega),Qbr h];refine ih.to ?_;by_cases q:atI (l.drop (k+1)) s = -1;simp[q];have h0:=@z011 (l.drop (k+1)) s;omega
 grind
theorem y4m{l s}(hb:l.length<=8388608):Ev (λn=>zaq n l s) (atI l s):=by
 rw[ypu];exact yf2 (L:=λn k=>zc2 n k s l) (p:=λx=>x==s) (λx=>by simp) hb λn k=>zc2.eq_2 _ _ _ n
theorem ywj{l s}(hb:l.length<=8388608):Ev (λn=>kz9 n l s) (atI l s):=by
 rw[zcq];exact yf2 (L:=λn k=>zzc n k l s (l.length:Int)) (p:=λx=>s==x) (λx=>by simp;exact eq_comm) hb λn k=>zzc.eq_2 _ _ _ _ n
theorem zye{l s}:atI l s<0↔s∉l:=by
 induction l with
 |nil=>simp[atI]
 |cons x l ih=>
  rw[zmd];by_cases h:x=s;subst h;simp
  grind
theorem y3u{l s}(h:s∈l):∃i:Nat,∃(hi:i<l.length),atI l s=(i:Int)∧l[i]=s∧∀j (hj:j<i),l[j]'(by omega)≠s:=by
 induction l with
 |nil=>cases h
 |cons x l ih=>
  rw[zmd];by_cases q:x=s;exact⟨0,by simp,by simp[q],by simpa using q,λj hj=>by omega⟩;have hm:s∈l:=by grind
  obtain⟨i,hi,h1,h2,h3⟩:=ih hm;refine⟨i+1,by simp;omega,?_,by simpa using h2,λj hj =>?_⟩
  grind
  grind
end Go.Proofs.YthphaiccgnkobaaGreatDoor
