/-
  What each function comes to, by its body, by a program of this repo.
-/
import Derived.Test.YthphaiccgnkobaaGreatDoorLib8
import Derived.Test.YthphaiccgnkobaaGreatDoorRun2
import Derived.Lib.Bytealg
import Derived.Test.YthphaiccgnkobaaGreatDoorLib9
namespace Go.Proofs.YthphaiccgnkobaaGreatDoor
open Go Go.Ab
set_option linter.defProp false
def y7x{r}(a):=evS (z9n · a) r (z9n.eq_2 a)
def zct{r}(a):=evS (yzh · a) r (yzh.eq_2 a)
def zba{r}(a):=evS (zza · a) r (zza.eq_2 a)
def yeq{r}(a):=evS (zd1 · a) r (zd1.eq_2 a)
def zql{r}(a b):=evS (z62 · a b) r (z62.eq_2 a b)
def zqe{r}(a b c):=evS (z34 · a b c) r (z34.eq_2 a b c)
def zro{r}(a b c d e):=evS (z5p · a b c d e) r (z5p.eq_2 a b c d e)
def zpz{r}(a b c d e f):=evS (z2u · a b c d e f) r (z2u.eq_2 a b c d e f)
def zq6{r}(a b c d e f g):=evS (z5r · a b c d e f g) r (z5r.eq_2 a b c d e f g)
def yfq{r}(a):=evS (zap · a) r (zap.eq_2 a)
def zqr{r}(a b):=evS (z8v · a b) r (z8v.eq_2 a b)
def zri{r}(a b):=evS (z0a · a b) r (z0a.eq_2 a b)
def zpv{r}(a b c d e):=evS (z65 · a b c d e) r (z65.eq_2 a b c d e)
def zq3{r}(a b c):=evS (yzv · a b c) r (yzv.eq_2 a b c)
def zbt{r}(a b):=evS (kz8 · a b) r (kz8.eq_2 a b)
def zhj{r}(a b):=evS (zzl · a b) r (zzl.eq_2 a b)
def yci{r}(a):=evS (z26 · a) r (z26.eq_2 a)
def y6q{r}(a):=evS (z88 · a) r (z88.eq_2 a)
def zmy{r}(a b c d e):=evS (z2k · a b c d e) r (z2k.eq_2 a b c d e)
def zy0{r}(a):=evS (zcu · a) r (zcu.eq_2 a)
def zqw{r}(a b c):=evS (yzq · a b c) r (yzq.eq_2 a b c)
def zrf{r}(a b c):=evS (z5n · a b c) r (z5n.eq_2 a b c)
def zqi{r}(a b c):=evS (z5q · a b c) r (z5q.eq_2 a b c)
def zqa{r}(a b c):=evS (z8y · a b c) r (z8y.eq_2 a b c)
def y5i{r}:=evS (z8w ·) r (z8w.eq_2)
def zqt{r}(a):=evS (z07 · a) r (z07.eq_2 a)
def y4h{r}(a):=evS (z6g · a) r (z6g.eq_2 a)
def zkh{r}(a b c d e):=evS (z1l · a b c d e) r (z1l.eq_2 a b c d e)
def zxe{r}(a b):=evS (z1j · a b) r (z1j.eq_2 a b)
def yd9{r}(a):=evS (zaf · a) r (zaf.eq_2 a)
def yiw{r}(a b):=evS (zek · a b) r (zek.eq_2 a b)
def y7t{r}(a b):=evS (z7u · a b) r (z7u.eq_2 a b)
def y90{r}(a):=evS (z6s · a) r (z6s.eq_2 a)
def y2q{r}(a):=evS (z0n · a) r (z0n.eq_2 a)
def yfc{r}(a):=evS (zah · a) r (zah.eq_2 a)
def zqn{r}(a b c):=evS (z5w · a b c) r (z5w.eq_2 a b c)
def zpu{r}(a b c d):=evS (z5x · a b c d) r (z5x.eq_2 a b c d)
def zpp{r}(a b c d):=evS (z5u · a b c d) r (z5u.eq_2 a b c d)
def y5h{r}(a):=evS (z1d · a) r (z1d.eq_2 a)
def yb6{r}(a):=evS (z79 · a) r (z79.eq_2 a)
def y1s{r}(a b):=evS (z3w · a b) r (z3w.eq_2 a b)
def yeh{r}(a):=evS (zcv · a) r (zcv.eq_2 a)
def yct{r}(a b):=evS (z3h · a b) r (z3h.eq_2 a b)
def zqy{r}(a b c):=evS (z0c · a b c) r (z0c.eq_2 a b c)
def zqc{r}(a b c d):=evS (z6d · a b c d) r (z6d.eq_2 a b c d)
def yh3{r}(a):=evS (zca · a) r (zca.eq_2 a)
def y6l{r}(a b):=evS (z4x · a b) r (z4x.eq_2 a b)
def y7l{r}(a b):=evS (z4v · a b) r (z4v.eq_2 a b)
def y6s{r}(a b):=evS (z89 · a b) r (z89.eq_2 a b)
def y6r{r}(a b):=evS (z7w · a b) r (z7w.eq_2 a b)
def y6z{r}(a):=evS (z4w · a) r (z4w.eq_2 a)
def zbr{r}(a):=evS (yza · a) r (yza.eq_2 a)
def zdb{r}(a):=evS (yzc · a) r (yzc.eq_2 a)
def yzy{r}(a b c):=evS (yz6 · a b c) r (yz6.eq_2 a b c)
def y8t{r}(a):=evS (zbk · a) r (zbk.eq_2 a)
def ydh{r}(a):=evS (z05 · a) r (z05.eq_2 a)
def y54{r}(a b):=evS (z6a · a b) r (z6a.eq_2 a b)
def y1l{r}(a):=evS (z7p · a) r (z7p.eq_2 a)
def zgr{r}(a):=evS (zzp · a) r (zzp.eq_2 a)
def zfi{r}(a):=evS (zzh · a) r (zzh.eq_2 a)
def yds{r}(a):=evS (z3e · a) r (z3e.eq_2 a)
def yhs{r}(a):=evS (z9w · a) r (z9w.eq_2 a)
def y6m{r}(a b):=evS (z82 · a b) r (z82.eq_2 a b)
def y7f{r}(a):=evS (z7t · a) r (z7t.eq_2 a)
def zxk{r}(a):=evS (z4s · a) r (z4s.eq_2 a)
def zrw{r}(a b):=evS (z00 · a b) r (z00.eq_2 a b)
def zsx{r}(a b c d):=evS (zzz · a b c d) r (zzz.eq_2 a b c d)
def zt1{r}(a b c):=evS (kzy · a b c) r (kzy.eq_2 a b c)
def zhe{r}(a b c):=evS (kzr · a b c) r (kzr.eq_2 a b c)
def zgy{r}(a b c):=evS (zzr · a b c) r (zzr.eq_2 a b c)
def zha{r}(a b):=evS (zzn · a b) r (zzn.eq_2 a b)
def zh6{r}(a b c):=evS (yzr · a b c) r (yzr.eq_2 a b c)
def zi5{r}(a b c d):=evS (zzj · a b c d) r (zzj.eq_2 a b c d)
def y78{r}(a):=evS (z9u · a) r (z9u.eq_2 a)
def zmv{r}(a b c d):=evS (z10 · a b c d) r (z10.eq_2 a b c d)
def zmx{r}(a b c d e):=evS (z2r · a b c d e) r (z2r.eq_2 a b c d e)
def zm8{r}(a b c):=evS (z0v · a b c) r (z0v.eq_2 a b c)
def zms{r}(a b c d e):=evS (z2l · a b c d e) r (z2l.eq_2 a b c d e)
def zln{r}(a b c d e f):=evS (z0x · a b c d e f) r (z0x.eq_2 a b c d e f)
def zm5{r}(a b c d e f g h):=evS (z0r · a b c d e f g h) r (z0r.eq_2 a b c d e f g h)
def zmh{r}(a b c d e f g h i):=evS (z0s · a b c d e f g h i) r (z0s.eq_2 a b c d e f g h i)
def zhq{r}(a b):=evS (kzk · a b) r (kzk.eq_2 a b)
def z25{r}(a b c d):=evS (yzd · a b c d) r (yzd.eq_2 a b c d)
def zfz{r}(a b):=evS (zzi · a b) r (zzi.eq_2 a b)
def yez{r}(a b):=evS (zaq · a b) r (zaq.eq_2 a b)
def zr4{r}(a b c):=evS (z8u · a b c) r (z8u.eq_2 a b c)
def y3y{r}(a b):=evS (z63 · a b) r (z63.eq_2 a b)
def zq5{r}(a b c d):=evS (z5i · a b c d) r (z5i.eq_2 a b c d)
def ydq{r}(a):=evS (zd6 · a) r (zd6.eq_2 a)
def y82{r}(a b c):=evS (z9t · a b c) r (z9t.eq_2 a b c)
def zfl{r}(a b c):=evS (kzm · a b c) r (kzm.eq_2 a b c)
def z0p{r}(a b c d e):=evS (zz9 · a b c d e) r (zz9.eq_2 a b c d e)
def zdq{r}(a b c):=evS (yze · a b c) r (yze.eq_2 a b c)
def ycu{r}(a b c):=evS (zas · a b c) r (zas.eq_2 a b c)
def y8p{r}(a):=evS (zbn · a) r (zbn.eq_2 a)
def zol{r}(a b c d):=evS (z4f · a b c d) r (z4f.eq_2 a b c d)
def zod{r}(a b c d e f g):=evS (z3u · a b c d e f g) r (z3u.eq_2 a b c d e f g)
def zom{r}(a b c d e f g h i j):=evS (z3o · a b c d e f g h i j) r (z3o.eq_2 a b c d e f g h i j)
def y45{r}(a b c):=evS (z8x · a b c) r (z8x.eq_2 a b c)
def zef{r}(a b c):=evS (yzk · a b c) r (yzk.eq_2 a b c)
def z0g{r}(a b c d e):=evS (yz7 · a b c d e) r (yz7.eq_2 a b c d e)
def zdd{r}(a b c):=evS (zzd · a b c) r (zzd.eq_2 a b c)
def yc1{r}(a):=evS (z74 · a) r (z74.eq_2 a)
def zni{r}(a b c d):=evS (z3v · a b c d) r (z3v.eq_2 a b c d)
def zoc{r}(a b c d e f g):=evS (z1z · a b c d e f g) r (z1z.eq_2 a b c d e f g)
def y3k{r}(a b c d e f g h):=evS (z3m · a b c d e f g h) r (z3m.eq_2 a b c d e f g h)
def zoq{r}(a b c d e f g h i j):=evS (z3n · a b c d e f g h i j) r (z3n.eq_2 a b c d e f g h i j)
def yac{r}(a):=evS (z7f · a) r (z7f.eq_2 a)
def zov{r}(a b c d e f g h i):=evS (z4d · a b c d e f g h i) r (z4d.eq_2 a b c d e f g h i)
def y1x{r}(a b c d e f g h i j):=evS (z3s · a b c d e f g h i j) r (z3s.eq_2 a b c d e f g h i j)
def zoy{r}(a b c d e f g h i):=evS (z3q · a b c d e f g h i) r (z3q.eq_2 a b c d e f g h i)
def znu{r}(a b c d e f g h i j k l m):=evS (z41 · a b c d e f g h i j k l m) r (z41.eq_2 a b c d e f g h i j k l m)
def zoi{r}(a b c d e f g h i j k l m o):=evS (z4j · a b c d e f g h i j k l m o) r (z4j.eq_2 a b c d e f g h i j k l m o)
def znd{r}(a b c d e f g h i j):=evS (z1w · a b c d e f g h i j) r (z1w.eq_2 a b c d e f g h i j)
def znc{r}(a b c d e f g h i j k l m o p):=evS (z4e · a b c d e f g h i j k l m o p) r (z4e.eq_2 a b c d e f g h i j k l m o p)
def zo3{r}(a b c d e f g h i j k l m o p q):=evS (z1m · a b c d e f g h i j k l m o p q) r (z1m.eq_2 a b c d e f g h i j k l m o p q)
def y1u{r}(a b c d e f g h i j k):=evS (z3r · a b c d e f g h i j k) r (z3r.eq_2 a b c d e f g h i j k)
def zoo{r}(a b c d e f g h i j k l m):=evS (z4a · a b c d e f g h i j k l m) r (z4a.eq_2 a b c d e f g h i j k l m)
def y0o{r}(a b c d e f g h i j k l m o p q):=evS (z2m · a b c d e f g h i j k l m o p q) r (z2m.eq_2 a b c d e f g h i j k l m o p q)
def y0e{r}(a b c d e f g h i j k l m):=evS (z11 · a b c d e f g h i j k l m) r (z11.eq_2 a b c d e f g h i j k l m)
def yfu{r}(a b):=evS (zd7 · a b) r (zd7.eq_2 a b)
def zez{r}(a b):=evS (zzf · a b) r (zzf.eq_2 a b)
def z0f{r}(a b c d):=evS (kz7 · a b c d) r (kz7.eq_2 a b c d)
def yl4{r}(a b):=evS (zc1 · a b) r (zc1.eq_2 a b)
def y9t{r}(a b):=evS (z2b · a b) r (z2b.eq_2 a b)
def zhr{r}(a b c d e):=evS (z3y · a b c d e) r (z3y.eq_2 a b c d e)
def zi3{r}(a b c d e f g h):=evS (z4l · a b c d e f g h) r (z4l.eq_2 a b c d e f g h)
def znn{r}(a b c d e f g h):=evS (z7j · a b c d e f g h) r (z7j.eq_2 a b c d e f g h)
def yay{r}(a b):=evS (z95 · a b) r (z95.eq_2 a b)
def zo2{r}(a b c d):=evS (z4q · a b c d) r (z4q.eq_2 a b c d)
def yau{r}(a b):=evS (z96 · a b) r (z96.eq_2 a b)
def znj{r}(a b c):=evS (z22 · a b c) r (z22.eq_2 a b c)
def zo4{r}(a b c):=evS (z44 · a b c) r (z44.eq_2 a b c)
def y8k{r}(a):=evS (z73 · a) r (z73.eq_2 a)
def zhd{r}(a b c):=evS (z4b · a b c) r (z4b.eq_2 a b c)
def zhi{r}(a b c d):=evS (z45 · a b c d) r (z45.eq_2 a b c d)
def zvr{r}(a):=evS (zbi · a) r (zbi.eq_2 a)
def yak{r}(a b):=evS (z99 · a b) r (z99.eq_2 a b)
def zoj{r}(a b c):=evS (z0k · a b c) r (z0k.eq_2 a b c)
def zne{r}(a b c):=evS (z47 · a b c) r (z47.eq_2 a b c)
def ya2{r}(a):=evS (z6z · a) r (z6z.eq_2 a)
def zo9{r}(a b c):=evS (z3t · a b c) r (z3t.eq_2 a b c)
def zvb{r}(a):=evS (z4h · a) r (z4h.eq_2 a)
def zy4{r}(a):=evS (z3f · a) r (z3f.eq_2 a)
def zyx{r}(a):=evS (z5s · a) r (z5s.eq_2 a)
def zih{r}(a b):=evS (z0e · a b) r (z0e.eq_2 a b)
def zib{r}(a b):=evS (yzu · a b) r (yzu.eq_2 a b)
def zia{r}(a b c):=evS (kzt · a b c) r (kzt.eq_2 a b c)
def zic{r}(a b c):=evS (zzu · a b c) r (zzu.eq_2 a b c)
def zif{r}(a b c d):=evS (z0i · a b c d) r (z0i.eq_2 a b c d)
def y9e{r}(a):=evS (zbg · a) r (zbg.eq_2 a)
def znv{r}(a b):=evS (z3k · a b) r (z3k.eq_2 a b)
def zos{r}(a b):=evS (z1r · a b) r (z1r.eq_2 a b)
def zon{r}(a b c):=evS (z4n · a b c) r (z4n.eq_2 a b c)
def zo8{r}(a b):=evS (z1y · a b) r (z1y.eq_2 a b)
def znh{r}(a b c d):=evS (z1n · a b c d) r (z1n.eq_2 a b c d)
def zo0{r}(a b c d):=evS (z1q · a b c d) r (z1q.eq_2 a b c d)
def zok{r}(a b c d):=evS (z1v · a b c d) r (z1v.eq_2 a b c d)
def yfn{r}(a):=evS (zcw · a) r (zcw.eq_2 a)
def zr8{r}(a b):=evS (z6e · a b) r (z6e.eq_2 a b)
def zpr{r}(a b):=evS (z32 · a b) r (z32.eq_2 a b)
def zr0{r}(a b c d):=evS (z5y · a b c d) r (z5y.eq_2 a b c d)
def zqk{r}(a b c d):=evS (z35 · a b c d) r (z35.eq_2 a b c d)
def zrh{r}(a b c d e):=evS (z36 · a b c d e) r (z36.eq_2 a b c d e)
def y76{r}(a):=evS (z9r · a) r (z9r.eq_2 a)
def ycm{r}(a):=evS (zb2 · a) r (zb2.eq_2 a)
def ycy{r}(a):=evS (zan · a) r (zan.eq_2 a)
def zrc{r}(a b):=evS (kzv · a b) r (kzv.eq_2 a b)
def zrl{r}(a b c):=evS (z04 · a b c) r (z04.eq_2 a b c)
def y74{r}(a):=evS (z9p · a) r (z9p.eq_2 a)
def yf6{r}(a):=evS (z3g · a) r (z3g.eq_2 a)
def yee{r}(a):=evS (zat · a) r (zat.eq_2 a)
def zq9{r}(a b c):=evS (z68 · a b c) r (z68.eq_2 a b c)
def zym{r}(a):=evS (zcy · a) r (zcy.eq_2 a)
def zrm{r}(a b):=evS (z8z · a b) r (z8z.eq_2 a b)
def zq1{r}(a b):=evS (kzq · a b) r (kzq.eq_2 a b)
def zqz{r}(a b):=evS (z6b · a b) r (z6b.eq_2 a b)
def ycw{r}(a):=evS (zal · a) r (zal.eq_2 a)
def zim{r}(a b c):=evS (z5o · a b c) r (z5o.eq_2 a b c)
def zis{r}(a b c d):=evS (z6c · a b c d) r (z6c.eq_2 a b c d)
def y7z{r}(a b):=evS (z9s · a b) r (z9s.eq_2 a b)
def y0k{r}(a b):=evS (z2j · a b) r (z2j.eq_2 a b)
def y9h{r}(a):=evS (zbj · a) r (zbj.eq_2 a)
def y3i{r}(a):=evS (zzy · a) r (zzy.eq_2 a)
def ydf{r}(a):=evS (zaj · a) r (zaj.eq_2 a)
def zqv{r}(a b):=evS (z06 · a b) r (z06.eq_2 a b)
def zrg{r}(a b):=evS (z5v · a b) r (z5v.eq_2 a b)
def zqo{r}(a b c):=evS (z60 · a b c) r (z60.eq_2 a b c)
def zqg{r}(a b):=evS (z1a · a b) r (z1a.eq_2 a b)
def zre{r}(a b):=evS (z5z · a b) r (z5z.eq_2 a b)
def yam{r}(a):=evS (zbb · a) r (zbb.eq_2 a)
def y2f{r}(a b):=evS (z4g · a b) r (z4g.eq_2 a b)
def yfv{r}(a b):=evS (z3i · a b) r (z3i.eq_2 a b)
def zps{r}(a b c):=evS (z0b · a b c) r (z0b.eq_2 a b c)
def zr5{r}(a b c):=evS (z5l · a b c) r (z5l.eq_2 a b c)
def y93{r}(a):=evS (zb6 · a) r (zb6.eq_2 a)
def yek{r}(a):=evS (zav · a) r (zav.eq_2 a)
def y4w{r}(a b):=evS (z2w · a b) r (z2w.eq_2 a b)
def y4f{r}(a b):=evS (yzw · a b) r (yzw.eq_2 a b)
def y56{r}(a b):=evS (z08 · a b) r (z08.eq_2 a b)
def zqh{r}(a b):=evS (z5m · a b) r (z5m.eq_2 a b)
def y9x{r}(a):=evS (z0t · a) r (z0t.eq_2 a)
def y30{r}(a b):=evS (z43 · a b) r (z43.eq_2 a b)
def yi0{r}(a):=evS (zc5 · a) r (zc5.eq_2 a)
def y6v{r}(a b):=evS (z7v · a b) r (z7v.eq_2 a b)
def y7v{r}(a):=evS (z7x · a) r (z7x.eq_2 a)
def y73{r}(a):=evS (z9o · a) r (z9o.eq_2 a)
def zmk{r}(a b):=evS (yzz · a b) r (yzz.eq_2 a b)
def y09{r}(a b):=evS (z2n · a b) r (z2n.eq_2 a b)
def y03{r}(a):=evS (z2h · a) r (z2h.eq_2 a)
def zgl{r}(a b):=evS (z64 · a b) r (z64.eq_2 a b)
def zn0{r}(a b):=evS (kzn · a b) r (kzn.eq_2 a b)
def y0v{r}(a):=evS (z2t · a) r (z2t.eq_2 a)
def zmt{r}(a b):=evS (z16 · a b) r (z16.eq_2 a b)
def zlh{r}(a b c):=evS (yzs · a b c) r (yzs.eq_2 a b c)
def y7e{r}(a):=evS (z9q · a) r (z9q.eq_2 a)
def zmb{r}(a b):=evS (z0u · a b) r (z0u.eq_2 a b)
def zmo{r}(a b c):=evS (z2i · a b c) r (z2i.eq_2 a b c)
def zm2{r}(a b):=evS (z0z · a b) r (z0z.eq_2 a b)
def zmn{r}(a b c d):=evS (z0y · a b c d) r (z0y.eq_2 a b c d)
def zmp{r}(a b c d):=evS (z0w · a b c d) r (z0w.eq_2 a b c d)
def zm6{r}(a b c d e f):=evS (z15 · a b c d e f) r (z15.eq_2 a b c d e f)
def zls{r}(a b c d e f):=evS (z13 · a b c d e f) r (z13.eq_2 a b c d e f)
def ych{r}(a):=evS (z71 · a) r (z71.eq_2 a)
def zoa{r}(a b c):=evS (z4p · a b c) r (z4p.eq_2 a b c)
def ymb{r}(a b):=evS (z4t · a b) r (z4t.eq_2 a b)
def y9o{r}(a):=evS (z9b · a) r (z9b.eq_2 a)
def znl{r}(a b):=evS (z4i · a b) r (z4i.eq_2 a b)
def yb3{r}(a):=evS (z77 · a) r (z77.eq_2 a)
def zo6{r}(a b c):=evS (z3p · a b c) r (z3p.eq_2 a b c)
def ya4{r}(a b):=evS (z94 · a b) r (z94.eq_2 a b)
def y2j{r}(a):=evS (z7i · a) r (z7i.eq_2 a)
def zk0{r}(a b):=evS (z14 · a b) r (z14.eq_2 a b)
def y4z{r}(a):=evS (z8t · a) r (z8t.eq_2 a)
def zkr{r}(a b):=evS (z1k · a b) r (z1k.eq_2 a b)
def zkl{r}(a b):=evS (z0d · a b) r (z0d.eq_2 a b)
def ydw{r}(a b):=evS (zam · a b) r (zam.eq_2 a b)
def zqp{r}(a b c):=evS (z2v · a b c) r (z2v.eq_2 a b c)
def zpw{r}(a b c d):=evS (z61 · a b c d) r (z61.eq_2 a b c d)
def zr7{r}(a b c d):=evS (z5g · a b c d) r (z5g.eq_2 a b c d)
def y4e{r}(a b):=evS (z2x · a b) r (z2x.eq_2 a b)
def zqb{r}(a b c):=evS (z6f · a b c) r (z6f.eq_2 a b c)
def y98{r}(a):=evS (zb9 · a) r (zb9.eq_2 a)
def y7a{r}(a b):=evS (z7z · a b) r (z7z.eq_2 a b)
def zlj{r}(a b c):=evS (z2s · a b c) r (z2s.eq_2 a b c)
def y8x{r}(a):=evS (zb1 · a) r (zb1.eq_2 a)
def zot{r}(a b c):=evS (z42 · a b c) r (z42.eq_2 a b c)
def znw{r}(a b c d):=evS (z48 · a b c d) r (z48.eq_2 a b c d)
def yed{r}(a):=evS (zao · a) r (zao.eq_2 a)
def zqj{r}(a b c):=evS (z5j · a b c) r (z5j.eq_2 a b c)
def zrk{r}(a b c d):=evS (z2z · a b c d) r (z2z.eq_2 a b c d)
def zrb{r}(a b c d e f):=evS (z5h · a b c d e f) r (z5h.eq_2 a b c d e f)
def y3n{r}(a b c d e):=evS (z69 · a b c d e) r (z69.eq_2 a b c d e)
def zpy{r}(a b c d e f):=evS (z5k · a b c d e f) r (z5k.eq_2 a b c d e f)
def y9r{r}(a):=evS (zbo · a) r (zbo.eq_2 a)
def znz{r}(a b c):=evS (z3l · a b c) r (z3l.eq_2 a b c)
def zoz{r}(a b c):=evS (z1p · a b c) r (z1p.eq_2 a b c)
def zor{r}(a b c d e f):=evS (z1x · a b c d e f) r (z1x.eq_2 a b c d e f)
def zof{r}(a b c d e f g h):=evS (z4k · a b c d e f g h) r (z4k.eq_2 a b c d e f g h)
def zox{r}(a b c d e):=evS (z1s · a b c d e) r (z1s.eq_2 a b c d e)
def yad{r}(a):=evS (zbh · a) r (zbh.eq_2 a)
def zop{r}(a b):=evS (z3j · a b) r (z3j.eq_2 a b)
def znf{r}(a b c d):=evS (z4m · a b c d) r (z4m.eq_2 a b c d)
def zig{r}(a):=evS (z23 · a) r (z23.eq_2 a)
def zli{r}(a b):=evS (kzj · a b) r (kzj.eq_2 a b)
def zbz{r}(a b c):=evS (yzf · a b c) r (yzf.eq_2 a b c)
def zjy{r}(a b c d):=evS (kzo · a b c d) r (kzo.eq_2 a b c d)
def zbs{r}(a b c d e):=evS (zzk · a b c d e) r (zzk.eq_2 a b c d e)
def zji{r}(a b c d e f g h):=evS (zzb · a b c d e f g h) r (zzb.eq_2 a b c d e f g h)
def zbw{r}(a b c d e f g h):=evS (kzf · a b c d e f g h) r (kzf.eq_2 a b c d e f g h)
def zby{r}(a b c d e f g):=evS (yzg · a b c d e f g) r (yzg.eq_2 a b c d e f g)
def zbx{r}(a b c d):=evS (zzg · a b c d) r (zzg.eq_2 a b c d)
def zjf{r}(a b c d e):=evS (yzj · a b c d e) r (yzj.eq_2 a b c d e)
set_option linter.unusedVariables false
theorem z8j{α:Type}{x y:List α}(h:x.length+y.length<=268435456):ext x y=some (x++y):=by unfold ext;rw[Qbt (by simpa[zfq]using h)]
def I64(x:Int):Prop := -9223372036854775808<=x∧x<=9223372036854775807
theorem y9w{x:Int}(h:I64 x):Ev (λn=>zaf n x) (x.natAbs:Int):=by
 unfold I64 at h;rw[yd9];simp only[Ev.pif,Ev.zz0,Qar];split;rw[wUn (x:=x) (by omega),wUn (by omega)];omega;rw[wU (by omega)];omega
theorem yqv:∀(b a:Nat),Ev (λn=>z7u n (b:Int) (a:Int)) (Nat.gcd a b:Int):=by
 intro b
 induction b using Nat.strongRecOn with
 |ind b ih=>
  intro a;rw[y7t];by_cases hb:b=0;subst hb;simp[Ev.pif,Ev.zz0]
  have hm:rem .u64 (a:Int) (b:Int)=some ((a % b:Nat):Int):=by
   unfold rem;rw[Qbu (by omega),Int.tmod_eq_emod_of_nonneg (by omega)];simp
  rw[Ev.zz2 (by simpa using hb),Ev.yz2 hm];have:=ih (a % b) (Nat.mod_lt _ (by omega)) b;rw[Nat.gcd_comm a b,Nat.gcd_rec b a,Nat.gcd_comm];exact this
theorem ytw{a b:Nat}:Ev (λn=>zek n (a:Int) (b:Int)) (Nat.gcd a b:Int):=by
 rw[yiw];exact yqv b a
def rok(r:zz4):Bool:=decide (1<=r.den)&&decide (r.den<=1000000000)&&decide (r.num.natAbs<=1000000000)&&(Nat.gcd r.num.natAbs r.den.natAbs==1)
theorem zlb{r:zz4}:rok r=true↔1<=r.den∧r.den<=1000000000∧r.num.natAbs<=1000000000∧Nat.gcd r.num.natAbs r.den.natAbs=1:=by
 simp[rok,and_assoc]
theorem ykz{r:zz4}(h:I64 r.num):Ev (λn=>z6s n r) (if rok r then 0 else 8):=by
 have l0:∀b,Ev (λn=>z0n n b) (if b then 8 else 0):=λb=>by
  rw[y2q];cases b <;> simp[Ev.pif,Ev.zz0]
 rw[y90];simp only[Ev.pif,Qar];split;refine(l0 _).to ?_;rw[Qbt rfl,Qbu];rw[zlb];omega;split;refine(l0 _).to ?_;rw[Qbt rfl,Qbu];rw[zlb];omega;rw[Ev.zz1 (y9w h)];simp only[Ev.pif,Qar];split;refine(l0 _).to ?_;rw[Qbt rfl,Qbu];rw[zlb];omega;rw[Ev.zz1 (y9w h),wU (by omega)];have hd:r.den=(r.den.natAbs:Int):=by omega
 rw[hd,Ev.zz1 ytw];refine(l0 _).to ?_
 have:((((Nat.gcd r.num.natAbs r.den.natAbs:Nat):Int) != 1)=true)↔¬rok r=true:=by
  rw[zlb];simp only[bne_iff_ne,ne_eq];omega
 by_cases hr:rok r=true;rw[Qbu (by rw[this];simpa using hr),Qbt hr];rw[Qbt (by rw[this];exact hr),Qbu hr]
theorem yvx(a b:Int):Nat.gcd a.natAbs b.natAbs=Nat.gcd b.natAbs (a.tmod b).natAbs:=by
 rw[Int.natAbs_tmod,Nat.gcd_comm a.natAbs,Nat.gcd_rec b.natAbs a.natAbs,Nat.gcd_comm]
theorem ye1:∀(m:Nat) (b a:Int),b.natAbs=m->I64 a->I64 b->¬a = -9223372036854775808->¬b = -9223372036854775808->Ev (λn=>z2j n b a) (Nat.gcd a.natAbs b.natAbs:Int):=by
 intro m
 induction m using Nat.strongRecOn with
 |ind m ih=>
  intro b a hm ha hb ha0 hb0;unfold I64 at ha hb;rw[y0k];by_cases h0:b=0;subst h0;simp only[Ev.pif,Ev.zz0,Qar];rw[Qbu (by simp)];split;rw[wI (by omega)];simp;omega;simp;omega;have hr:rem .i64 a b=some (a.tmod b):=by unfold rem;rw[Qbu h0]
  have h1:(a.tmod b).natAbs<b.natAbs:=by rw[Int.natAbs_tmod];exact Nat.mod_lt _ (by omega)
  rw[Ev.zz2 (by simpa using h0),Ev.yz2 hr];have:=ih _ (by rw[<-hm];exact h1) (a.tmod b) b rfl hb (by unfold I64;omega) hb0 (by omega);rw[yvx a b];exact this
theorem yj7{a b:Int}(ha:I64 a)(hb:I64 b)(ha0:¬a = -9223372036854775808)(hb0:¬b = -9223372036854775808):Ev (λn=>z9s n a b) (Nat.gcd a.natAbs b.natAbs:Int):=by
 rw[y7z];exact ye1 _ b a rfl ha hb ha0 hb0
theorem yko{r:zz4}:Ev (λn=>zbj n r) (if rok r then 0 else 8):=by
 have l0:∀b,Ev (λn=>zzy n b) (if b then 8 else 0):=λb=>by
  rw[y3i];cases b <;> simp[Ev.pif,Ev.zz0]
 rw[y9h];simp only[Ev.pif,Qar];split;refine(l0 _).to ?_;rw[Qbt rfl,Qbu];rw[zlb];omega;split;refine(l0 _).to ?_;rw[Qbt rfl,Qbu];rw[zlb];omega;split;refine(l0 _).to ?_;rw[Qbt rfl,Qbu];rw[zlb];omega;split;refine(l0 _).to ?_;rw[Qbt rfl,Qbu];rw[zlb];omega;rw[Ev.zz1 (yj7 (by unfold I64;omega) (by unfold I64;omega) (by omega) (by omega))];refine(l0 _).to ?_
 have:((((Nat.gcd r.num.natAbs r.den.natAbs:Nat):Int) != 1)=true)↔¬rok r=true:=by
  rw[zlb];simp only[bne_iff_ne,ne_eq];omega
 by_cases hr:rok r=true;rw[Qbu (by rw[this];simpa using hr),Qbt hr];rw[Qbt (by rw[this];exact hr),Qbu hr]
def wfR(r:zz4):Prop:=I64 r.num∧I64 r.den
def fdiv(a b:zz4):Int×Int:=(a.num * b.den,a.den * b.num)
theorem y9f{P:yz0->Prop}(h:∀v:yz0,(∀x,x∈v.list->P x)->P v)(v:yz0):P v:=h v λx hx=>y9f h x
termination_by v
decreasing_by exact yz0.y3c hx
mutual
def zfm:yz0->Nat
 |⟨k,_,_,_,l⟩=>if k=4 then 1+z7q l else 1
def z7q:z1h->Nat
 |[]=>0
 |x::l=>zfm x+z7q l
end
mutual
def zgo:yz0->Nat
 |⟨k,_,_,_,l⟩=>if k=4 then max 1 (zk8 l)else 1
def zk8:z1h->Nat
 |[]=>0
 |x::l=>max (1+zgo x) (zk8 l)
end
theorem zqf(v:yz0):zfm v=if v.kind=4 then 1+z7q v.list else 1:=by cases v;rw[zfm]
theorem y2z(v:yz0):zgo v=if v.kind=4 then max 1 (zk8 v.list)else 1:=by cases v;rw[zgo]
theorem yvr{l:z1h}{x:yz0}(h:x∈l):x.size<=(l.map yz0.size).sum:=by
 induction l with
 |nil=>cases h
 |cons y l ih=>
  rcases Qbi.1 h with rfl|h
  simp;have:=ih h;simp;omega
theorem zb8(v:yz0):(v.list.map yz0.size).sum+v.str.length+4<=v.size:=by rw[yz0.size_eq];omega
theorem znp{v x:yz0}(h:x∈v.list):x.size<=v.size:=by have:=yvr h;have:=zb8 v;omega
theorem zjh(l:z1h):l.length<=(l.map yz0.size).sum:=by
 induction l with
 |nil=>simp
 |cons x l ih=>have:=zb8 x;simp;omega
theorem zwb:∀v:yz0,zfm v<=v.size:=y9f λv ih=>by
 have:∀l:z1h,(∀x,x∈l->x∈v.list)->z7q l<=(l.map yz0.size).sum:=λl=>by
  induction l with
  |nil=>intro _;simp[z7q]
  |cons x l ihl=>
   intro hl;have:=ih x (hl x Qak);have:=ihl λy hy=>hl y (Qai _ hy)
   simp[z7q];omega
 have:=this v.list λ_ h=>h
 have:=zb8 v;rw[zqf];split <;> omega
theorem ylg:∀v:yz0,zgo v<=zfm v:=y9f λv ih=>by
 have:∀l:z1h,(∀x,x∈l->x∈v.list)->zk8 l<=1+z7q l:=λl=>by
  induction l with
  |nil=>intro _;simp[z7q,zk8]
  |cons x l ihl=>
   intro hl;have:=ih x (hl x Qak);have:=ihl λy hy=>hl y (Qai _ hy)
   simp[z7q,zk8];omega
 have:=this v.list λ_ h=>h
 rw[zqf,y2z];split <;> omega
theorem yaq(l:z1h):z7q l<=(l.map yz0.size).sum:=by
 induction l with
 |nil=>simp[z7q]
 |cons x l ih=>have:=zwb x;simp[z7q];omega
theorem yd7:∀v:yz0,v.size<=8388608->Ev (λn=>z6g n v) ((zfm v:Int),(zgo v:Int)):=y9f λv ih hs=>by
 have l1:∀d p,Ev (λn=>z1j n d p) (p,d):=λd p=>by rw[zxe,Ev.zz0]
 have hsl:=zb8 v;have hlen:=zjh v.list
 have loop:∀k,k<=v.list.length->∀d p:Nat,p+z7q (v.list.drop k)<=8388609->d<=8388609->Ev (λn=>z1l n (k:Int) (d:Int) (p:Int) v.list (v.list.length:Int)) (((p+z7q (v.list.drop k):Nat):Int),((max d (zk8 (v.list.drop k)):Nat):Int)) :=
  down (λd p hp hd=>by
   rw[zkh,Ev.kz1 (by simp)];refine(l1 _ _).to ?_
   simp[z7q,zk8]) λk hk ihk d p hp hd=>by
   have hx:=Qad hk;have hsx:=znp hx;rw[<-Qah (h:=hk)]at hp ⊢;simp only[z7q,zk8]at hp ⊢;have hpl:=zwb v.list[k];have hdl:=ylg v.list[k];rw[zkh,Ev.zz2 (by simpa using hk),Ev.yz2 (zz5 hk),yz0.yz4,Ev.zz1 (ih _ hx (by omega)),wI (x:=_+1) (by omega),wI (x:=(zgo _:Int)+1) (by omega),wI (x:=(p:Int)+_) (by omega)];have e1:(k:Int)+1=((k+1:Nat):Int):=by omega
   have e2:(zgo v.list[k]:Int)+1=((1+zgo v.list[k]:Nat):Int):=by omega
   have e3:(p:Int)+(zfm v.list[k]:Int)=((p+zfm v.list[k]:Nat):Int):=by omega
   rw[e1,e2,e3,y8e];refine(ihk (max d (1+zgo v.list[k])) (p+zfm v.list[k]) (by omega) (by omega)).to ?_
   congr 2 <;> omega
 rw[y4h];by_cases hk:v.kind=4;rw[Ev.zz2 (by simpa using hk)];have hv:=yaq v.list;have:=loop 0 (Qbr _) 1 1 (by simp;omega) (by omega);refine this.to ?_;rw[zqf,y2z,Qbt hk,Qbt hk,List.drop_zero];rw[Ev.kz1 (by simpa using hk)];refine(l1 1 1).to ?_;rw[zqf,y2z,Qbu hk,Qbu hk];rfl
theorem y5o:∀v:yz0,v.size<=8388608->Ev (λn=>z73 n v) (zfm v:Int):=y9f λv ih hs=>by
 have hsl:=zb8 v;have hlen:=zjh v.list;rw[y8k,yz0.yz4,zqf];by_cases hk:v.kind=4;rw[Qbt hk];have hkk:(v.kind==4)=true:=by simpa using hk
 have loop:∀k,k<=v.list.length->∀p:Nat,p+z7q (v.list.drop k)<=8388609->Ev (λn=>z4b n (k:Int) (p:Int) v) ((p+z7q (v.list.drop k):Nat):Int) :=
  down (λp hp=>by
   rw[zhd,Ev.kz1 (by simp),zhi,Ev.kz1 (by rfl),Ev.zz0]
   simp[z7q]) λk hk ihk p hp=>by
   have hx:=Qad hk;have hsx:=znp hx;rw[<-Qah (h:=hk)]at hp ⊢;simp only[z7q]at hp ⊢;have hpl:=zwb v.list[k];rw[zhd,Ev.zz2 (by simpa using hk),hkk,yz0.yz4,zhi,Ev.zz2 (by rfl),Ev.yz2 (zz5 hk),yz0.yz4,Ev.zz1 (ih _ hx (by omega)),wI (x:=_+1) (by omega),wI (x:=(p:Int)+_) (by omega)];have e1:(k:Int)+1=((k+1:Nat):Int):=by omega
   have e3:(p:Int)+(zfm v.list[k]:Int)=((p+zfm v.list[k]:Nat):Int):=by omega
   rw[e1,e3,yz0.yz4];refine(ihk (p+zfm v.list[k]) (by omega)).to ?_
   congr 1;omega
 have hv:=yaq v.list;exact loop 0 (Qbr _) 1 (by simp;omega);rw[Qbu hk];have hkk:(v.kind==4)=false:=by simpa using hk
 have l1:Ev (λn=>z45 n 0 1 false v) 1:=by rw[zhi,Ev.kz1 (by rfl),Ev.zz0]
 rw[zhd,hkk,yz0.yz4,Ev.pif];split <;> exact l1
theorem ypy:∀v:yz0,v.size<=8388608->Ev (λn=>zal n v) (zgo v:Int):=y9f λv ih hs=>by
 have hsl:=zb8 v;have hlen:=zjh v.list;rw[ycw,yz0.yz4,y2z];by_cases hk:v.kind=4;rw[Qbt hk];have hkk:(v.kind==4)=true:=by simpa using hk
 have loop:∀k,k<=v.list.length->∀p:Nat,p<=8388609->Ev (λn=>z5o n (k:Int) (p:Int) v) ((max p (zk8 (v.list.drop k)):Nat):Int) :=
  down (λp hp=>by
   rw[zim,Ev.kz1 (by simp),zis,Ev.kz1 (by rfl),Ev.zz0]
   simp[zk8]) λk hk ihk p hp=>by
   have hx:=Qad hk;have hsx:=znp hx;rw[<-Qah (h:=hk)];simp only[zk8];have hpl:=zwb v.list[k];have hdl:=ylg v.list[k];rw[zim,Ev.zz2 (by simpa using hk),hkk,yz0.yz4,zis,Ev.zz2 (by rfl),Ev.yz2 (zz5 hk),yz0.yz4,Ev.zz1 (ih _ hx (by omega)),wI (x:=_+1) (by omega),wI (x:=1+_) (by omega)];have e1:(k:Int)+1=((k+1:Nat):Int):=by omega
   have e3:1+(zgo v.list[k]:Int)=((1+zgo v.list[k]:Nat):Int):=by omega
   rw[e1,e3,yz0.yz4,y8e];refine(ihk (max p (1+zgo v.list[k])) (by omega)).to ?_
   congr 1;omega
 exact loop 0 (Qbr _) 1 (by omega);rw[Qbu hk];have hkk:(v.kind==4)=false:=by simpa using hk
 have l1:Ev (λn=>z6c n 0 1 false v) 1:=by rw[zis,Ev.kz1 (by rfl),Ev.zz0]
 rw[zim,hkk,yz0.yz4,Ev.pif];split <;> exact l1
def v0:yz0:=⟨0,⟨0,0⟩,false,[],[]⟩
def ztr(c:UInt8):Bool:=decide (32<=c.toNat)&&decide (c.toNat<=126)
def nul(v:zz4):Bool:=v.num==0&&v.den==0
mutual
def ztd:yz0->Bool
 |⟨k,q,t,s,l⟩ =>
  if k=1 then rok q&&(!t&&(s.isEmpty&&l.isEmpty))
  else if k=2 then nul q&&(s.isEmpty&&l.isEmpty)
  else if k=3 then nul q&&(!t&&(l.isEmpty&&(decide (s.length<=60)&&s.all ztr)))
  else if k=4 then nul q&&(!t&&(s.isEmpty&&zmf l))
  else false
def zmf:z1h->Bool
 |[]=>true
 |x::l=>ztd x&&zmf l
end
theorem ym1(v:yz0):ztd v =
 if v.kind=1 then rok v.num&&(!v.truth&&(v.str.isEmpty&&v.list.isEmpty))
 else if v.kind=2 then nul v.num&&(v.str.isEmpty&&v.list.isEmpty)
 else if v.kind=3 then nul v.num&&(!v.truth&&(v.list.isEmpty&&(decide (v.str.length<=60)&&v.str.all ztr)))
 else if v.kind=4 then nul v.num&&(!v.truth&&(v.str.isEmpty&&zmf v.list))
 else false:=by cases v;rw[ztd]
def y07(v:yz0):Int:=if 100<zfm v∨6<zgo v then 4 else if ztd v then 0 else 8
theorem z01f{v:yz0}(h:v.wf):wfR v.num:=by
 rw[yz0.z2g]at h;have:=h.2.1;rw[zz4.z2g]at this;simpa[wfR,I64,IntKind.min,IntKind.max,IntKind.signed,IntKind.bits]using this
theorem z00a{v:yz0}(h:v.wf):∀x∈v.list,x.wf:=by
 rw[yz0.z2g]at h;exact h.2.2.2.2
theorem zj2{v:yz0}:Ev (λn=>z1d n v) (nul v.num&&(!v.truth&&(v.str.isEmpty&&v.list.isEmpty))):=by
 rw[y5h];obtain⟨k,⟨p,q⟩,t,s,l⟩:=v;simp only[Ev.pif,Ev.zz0,nul,Bool.and_true];cases p==0 <;> cases q==0 <;> cases t <;> cases s <;> cases l <;> simp <;> omega
theorem yqm:∀v:yz0,v.wf->v.size<=8388608->Ev (λn=>zah n v) (ztd v):=y9f λv ih hw hs=>by
 have hsl:=zb8 v;have hlen:=zjh v.list;rw[yfc,ym1];by_cases h1:v.kind=1;rw[Qbt h1,Ev.zz2 (by simpa using h1),Ev.zz1 (ykz (z01f hw).1)];cases hr:rok v.num;rw[Ev.zz2 (by rfl),Ev.zz0];rfl;rw[Ev.kz1 (by rfl)];exact zj2;rw[Qbu h1,Ev.kz1 (by simpa using h1)];by_cases h2:v.kind=2;rw[Qbt h2,Ev.zz2 (by simpa using h2)];exact zj2;rw[Qbu h2,Ev.kz1 (by simpa using h2)];by_cases h3:v.kind=3
 rw[Qbt h3,Ev.zz2 (by simpa using h3)];by_cases hl:v.str.length<=60;rw[Ev.kz1 (by simp;omega),yz0.yz4]
 have loop:∀w:yz0,∀k,k<=v.str.length->Ev (λn=>z5w n (k:Int) v w) ((v.str.drop k).all ztr&&(nul w.num&&(!w.truth&&(w.str.isEmpty&&w.list.isEmpty)))):=λw=>
  down (by
   rw[zqn,Ev.kz1 (by simp),yz0.yz4]
   simpa using zj2) λk hk ihk=>by
   have bad:Ev (λn=>z5x n (k:Int) true v w) false:=by rw[zpu,Ev.zz2 (by rfl),Ev.zz0]
   rw[<-Qah (h:=hk),List.all_cons];rw[zqn,Ev.zz2 (by simpa using hk),Ev.yz2 (zz5 hk),yz0.yz4,yz0.yz4];by_cases c1:v.str[k].toNat<32;rw[Ev.zz2 (by simp;omega)];refine bad.to ?_;have:ztr v.str[k]=false:=by simp[ztr];omega
   rw[this];rfl;rw[Ev.kz1 (by simp;omega),Ev.yz2 (zz5 hk)];by_cases c2:v.str[k].toNat>126;rw[show decide ((v.str[k].toNat:Int)>126)=true by simp;omega];refine bad.to ?_;have:ztr v.str[k]=false:=by simp[ztr];omega
   rw[this];rfl;rw[show decide ((v.str[k].toNat:Int)>126)=false by simp;omega,zpu,Ev.kz1 (by rfl),wrk (by omega),yz0.yz4,yz0.yz4];have:ztr v.str[k]=true:=by simp[ztr];omega
   rw[this,Bool.true_and];exact ihk
 refine(loop ⟨v.kind,v.num,v.truth,[],v.list⟩ 0 (Qbr _)).to ?_;simp only[List.drop_zero,hl,decide_true,Bool.true_and,List.isEmpty_nil];cases nul v.num <;> cases v.truth <;> cases v.list.isEmpty <;> cases v.str.all ztr <;> rfl
 rw[Ev.zz2 (by simp;omega),Ev.zz0];simp[hl];rw[Qbu h3,Ev.kz1 (by simpa using h3)];by_cases h4:v.kind=4;rw[Qbt h4,Ev.zz2 (by simpa using h4)]
 have loop:∀w:yz0,∀k,k<=v.list.length->Ev (λn=>z5u n (k:Int) v.list (v.list.length:Int) w) (zmf (v.list.drop k)&&(nul w.num&&(!w.truth&&(w.str.isEmpty&&w.list.isEmpty)))):=λw=>
  down (by
   rw[zpp,Ev.kz1 (by simp),yz0.yz4]
   simpa[zmf]using zj2) λk hk ihk=>by
   have hx:=Qad hk;have hsx:=znp hx;rw[<-Qah (h:=hk),zmf];rw[zpp,Ev.zz2 (by simpa using hk),Ev.yz2 (zz5 hk),yz0.yz4,Ev.zz1 (ih _ hx (z00a hw _ hx) (by omega))];cases hf:ztd v.list[k];rw[Ev.zz2 (by rfl),Ev.zz0];rfl;rw[Ev.kz1 (by rfl),wrk (by omega),yz0.yz4,Bool.true_and];exact ihk
 refine(loop ⟨v.kind,v.num,v.truth,v.str,[]⟩ 0 (Qbr _)).to ?_;simp only[List.drop_zero,List.isEmpty_nil,Bool.and_true];cases nul v.num <;> cases v.truth <;> cases v.str.isEmpty <;> cases zmf v.list <;> rfl
 rw[Qbu h4,Ev.kz1 (by simpa using h4),Ev.zz0]
theorem ynr{v:yz0}(hw:v.wf)(hs:v.size<=8388608):Ev (λn=>z79 n v) (y07 v):=by
 have l0:∀b,Ev (λn=>z3w n b v) (if b then 4 else if ztd v then 0 else 8):=λb=>by
  rw[y1s];cases b;rw[Ev.kz1 (by rfl),yz0.yz4,Ev.zz1 (yqm v hw hs)];cases ztd v;rw[Ev.zz2 (by rfl),Ev.zz0];rfl;rw[Ev.kz1 (by rfl),Ev.zz0];rfl;rw[Ev.zz2 (by rfl),Ev.zz0];rfl
 rw[yb6,yz0.yz4,Ev.zz1 (yd7 v hs)];unfold y07;simp only[Ev.pif];by_cases h1:100<zfm v;rw[Qbt (by simp;omega),Qbt (.inl h1)];exact l0 true;rw[Qbu (by simp;omega)];by_cases h2:6<zgo v;rw[Qbt (.inr h2),show decide ((zgo v:Int)>6)=true by simp;omega];exact l0 true;rw[Qbu (by omega),show decide ((zgo v:Int)>6)=false by simp;omega];exact l0 false
theorem ypl:∀v:yz0,v.size<=8388608->Ev (λn=>zaj n v) (ztd v):=y9f λv ih hs=>by
 have hsl:=zb8 v;have hlen:=zjh v.list;rw[ydf,ym1];have hnul:((v.num.num==0)&&((v.num.den==0)&&true))=nul v.num:=by simp[nul]
 have hstr:((v.str.length:Int)==0)=v.str.isEmpty:=by cases v.str <;> simp;omega
 have hlst:((v.list.length:Int)==0)=v.list.isEmpty:=by cases v.list <;> simp;omega
 have hgt:decide ((v.list.length:Int)>0) = !v.list.isEmpty:=by cases v.list <;> simp
 have hgs:decide ((v.str.length:Int)>0) = !v.str.isEmpty:=by cases v.str <;> simp
 simp only[hnul,hstr,hlst,hgt,hgs];by_cases h1:v.kind=1;rw[Qbt h1,Ev.zz2 (by simpa using h1),Ev.zz1 yko];cases hr:rok v.num <;> cases ht:v.truth <;> cases hss:v.str.isEmpty <;> simp[Ev.pif,Ev.zz0]
 rw[Qbu h1,Ev.kz1 (by simpa using h1)];by_cases h2:v.kind=2;rw[Qbt h2,Ev.zz2 (by simpa using h2)];cases hr:nul v.num <;> cases hss:v.str.isEmpty <;> simp[Ev.pif,Ev.zz0]
 rw[Qbu h2,Ev.kz1 (by simpa using h2)];by_cases h3:v.kind=3;rw[Qbt h3,Ev.zz2 (by simpa using h3)];have bad:Ev (λn=>z06 n true v) false:=by rw[zqv,Ev.zz2 (by rfl),Ev.zz0]
 have loop:∀k,k<=v.str.length->Ev (λn=>z5v n (k:Int) v) ((v.str.drop k).all ztr) :=
  down (by
   rw[zrg,Ev.kz1 (by simp),Ev.zz0]
   simp) λk hk ihk=>by
   have bad:Ev (λn=>z60 n (k:Int) true v) false:=by rw[zqo,Ev.zz2 (by rfl),Ev.zz0]
   rw[<-Qah (h:=hk),List.all_cons];rw[zrg,Ev.zz2 (by simpa using hk),Ev.yz2 (zz5 hk),yz0.yz4];by_cases c1:v.str[k].toNat<32;rw[Ev.zz2 (by simp;omega)];refine bad.to ?_;have:ztr v.str[k]=false:=by simp[ztr];omega
   rw[this];rfl;rw[Ev.kz1 (by simp;omega),Ev.yz2 (zz5 hk)];by_cases c2:v.str[k].toNat>126;rw[show decide ((v.str[k].toNat:Int)>126)=true by simp;omega];refine bad.to ?_;have:ztr v.str[k]=false:=by simp[ztr];omega
   rw[this];rfl;rw[show decide ((v.str[k].toNat:Int)>126)=false by simp;omega,zqo,Ev.kz1 (by rfl),wrk (by omega),yz0.yz4];have:ztr v.str[k]=true:=by simp[ztr];omega
   rw[this,Bool.true_and];exact ihk
 have good:Ev (λn=>z06 n false v) (v.str.all ztr):=by
  rw[zqv,Ev.kz1 (by rfl),yz0.yz4];simpa using loop 0 (Qbr _)
 rw[yz0.yz4];cases hr:nul v.num;rw[Ev.zz2 (by rfl)];exact bad;rw[Ev.kz1 (by rfl)];cases ht:v.truth;rw[Ev.kz1 (by rfl)];cases hl:v.list.isEmpty;rw[Ev.zz2 (by rfl)];exact bad;rw[Ev.kz1 (by rfl)];by_cases h60:v.str.length<=60;rw[show decide ((v.str.length:Int)>60)=false by simp;omega];simpa[h60]using good;rw[show decide ((v.str.length:Int)>60)=true by simp;omega];simpa[h60]using bad;rw[Ev.zz2 (by rfl)];exact bad
 rw[Qbu h3,Ev.kz1 (by simpa using h3)];by_cases h4:v.kind=4;rw[Qbt h4,Ev.zz2 (by simpa using h4)];have bad:Ev (λn=>z1a n true v) false:=by rw[zqg,Ev.zz2 (by rfl),Ev.zz0]
 have loop:∀k,k<=v.list.length->Ev (λn=>z5z n (k:Int) v) (zmf (v.list.drop k)) :=
  down (by
   rw[zre,Ev.kz1 (by simp),Ev.zz0]
   simp[zmf]) λk hk ihk=>by
   have hx:=Qad hk;have hsx:=znp hx;rw[<-Qah (h:=hk),zmf];rw[zre,Ev.zz2 (by simpa using hk),Ev.yz2 (zz5 hk),yz0.yz4,Ev.zz1 (ih _ hx (by omega))];cases hf:ztd v.list[k];rw[Ev.zz2 (by rfl),Ev.zz0];rfl;rw[Ev.kz1 (by rfl),wrk (by omega),yz0.yz4,Bool.true_and];exact ihk
 have good:Ev (λn=>z1a n false v) (zmf v.list):=by
  rw[zqg,Ev.kz1 (by rfl),yz0.yz4];simpa using loop 0 (Qbr _)
 rw[yz0.yz4];cases hr:nul v.num;rw[Ev.zz2 (by rfl)];exact bad;rw[Ev.kz1 (by rfl)];cases ht:v.truth;rw[Ev.kz1 (by rfl)];cases hl:v.str.isEmpty;exact bad;simpa using good;rw[Ev.zz2 (by rfl)];exact bad;rw[Qbu h4,Ev.kz1 (by simpa using h4),Ev.zz0]
theorem yo0{v:yz0}(hs:v.size<=8388608):Ev (λn=>zbb n v) (y07 v):=by
 have l0:∀b,Ev (λn=>z4g n b v) (if b then 4 else if ztd v then 0 else 8):=λb=>by
  rw[y2f];cases b;rw[Ev.kz1 (by rfl),yz0.yz4,Ev.zz1 (ypl v hs)];cases ztd v;rw[Ev.zz2 (by rfl),Ev.zz0];rfl;rw[Ev.kz1 (by rfl),Ev.zz0];rfl;rw[Ev.zz2 (by rfl),Ev.zz0];rfl
 rw[yam,yz0.yz4,Ev.zz1 (y5o v hs)];unfold y07;by_cases h1:100<zfm v;rw[Ev.zz2 (by simp;omega),Qbt (.inl h1)];exact l0 true;rw[Ev.kz1 (by simp;omega),Ev.zz1 (ypy v hs)];by_cases h2:6<zgo v;rw[Qbt (.inr h2),show decide ((zgo v:Int)>6)=true by simp;omega];exact l0 true;rw[Qbu (by omega),show decide ((zgo v:Int)>6)=false by simp;omega];exact l0 false
theorem vext{a b:yz0}(h1:a.kind=b.kind)(h2:a.num.num=b.num.num)(h3:a.num.den=b.num.den)(h4:a.truth=b.truth)(h5:a.str=b.str)(h6:a.list=b.list):a=b:=by
 obtain⟨k,⟨p,q⟩,t,s,l⟩:=a;obtain⟨k',⟨p',q'⟩,t',s',l'⟩:=b
 simp_all
theorem ynk{α:Type}{x y:α}{l m:List α}:eqB (x::l) (y::m)=(eqB x y&&eqB l m):=by
 cases h:(eqB x y&&eqB l m)
 rw[zeh];intro hh;injection hh with h1 h2
 rw[Bool.and_eq_false_iff,zeh,zeh]at h;exact h.elim (λh=>h h1) (λh=>h h2);rw[zjr];rw[Qag,zjr,zjr]at h;rw[h.1,h.2]
theorem yqx:∀a b:yz0,a.size<=8388608->Ev (λn=>z3h n a b) (eqB a b):=y9f (P:=λa=>∀b:yz0,a.size<=8388608->Ev (λn=>z3h n a b) (eqB a b)) λa ih b hs=>by
 have hsl:=zb8 a;have hlen:=zjh a.list;have bad:a≠b->Ev (λn=>z0c n true b a) (eqB a b):=λh=>by rw[zqy,Ev.zz2 (by rfl),Ev.zz0,zeh.2 h]
 rw[yct,yz0.yz4,yz0.yz4];by_cases h1:a.kind=b.kind
 case neg=>rw[Ev.zz2 (by simpa using h1)];exact bad λh=>h1 (by rw[h])
 rw[Ev.kz1 (by simpa using h1)];by_cases h2:a.num.num=b.num.num∧a.num.den=b.num.den
 case neg=>rw[Ev.zz2 (by simp;omega)];exact bad λh=>h2 (by rw[h];exact⟨rfl,rfl⟩)
 rw[Ev.kz1 (by simp[h2])];by_cases h3:a.truth=b.truth
 case neg=>rw[Ev.zz2 (by simpa using h3)];exact bad λh=>h3 (by rw[h])
 rw[Ev.kz1 (by simp[h3])];by_cases h4:a.str=b.str
 case neg=>rw[Ev.zz2 (by simpa using h4)];exact bad λh=>h4 (by rw[h])
 rw[Ev.kz1 (by simp[h4])];by_cases h5:a.list.length=b.list.length
 case neg=>rw[show((a.list.length:Int) != (b.list.length:Int))=true by simp;omega];exact bad λh=>h5 (by rw[h])
 rw[show((a.list.length:Int) != (b.list.length:Int))=false by simp;omega,zqy,Ev.kz1 (by rfl),yz0.yz4,yz0.yz4]
 have loop:∀k,k<=a.list.length->Ev (λn=>z6d n (k:Int) (a.list.length:Int) b a) (eqB (a.list.drop k) (b.list.drop k)) :=
  down (by
   rw[zqc,Ev.kz1 (by simp),Ev.zz0,List.drop_length,h5,List.drop_length,yri]) λk hk ihk=>by
   have hk2:k<b.list.length:=by omega
   have hx:=Qad hk;have hsx:=znp hx;rw[<-Qah (h:=hk),<-Qah (h:=hk2),ynk];rw[zqc,Ev.zz2 (by simpa using hk),Ev.yz2 (zz5 hk),Ev.yz2 (zz5 hk2),yz0.yz4,yz0.yz4,Ev.zz1 (ih _ hx _ (by omega))];cases hf:eqB a.list[k] b.list[k];rw[Ev.zz2 (by rfl),Ev.zz0];rfl;rw[Ev.kz1 (by rfl),wrk (by omega),yz0.yz4,yz0.yz4,Bool.true_and];exact ihk
 refine(loop 0 (Qbr _)).to ?_;rw[List.drop_zero,List.drop_zero];by_cases h6:a.list=b.list;rw[zjr.2 h6,zjr.2 (vext h1 h2.1 h2.2 h3 h4 h6)];rw[zeh.2 h6,zeh.2 λh=>h6 (by rw[h])]
theorem ypu:∀a b:yz0,a.size<=8388608->Ev (λn=>z3i n a b) (eqB a b):=y9f (P:=λa=>∀b:yz0,a.size<=8388608->Ev (λn=>z3i n a b) (eqB a b)) λa ih b hs=>by
 have hsl:=zb8 a;have hlen:=zjh a.list;have bad:a≠b->Ev (λn=>z0b n true b a) (eqB a b):=λh=>by rw[zps,Ev.zz2 (by rfl),Ev.zz0,zeh.2 h]
 rw[yfv,yz0.yz4,yz0.yz4];by_cases h1:a.kind=b.kind
 case neg=>rw[Ev.zz2 (by simpa using h1)];exact bad λh=>h1 (by rw[h])
 rw[Ev.kz1 (by simpa using h1)];by_cases h2:a.num.num=b.num.num∧a.num.den=b.num.den
 case neg=>rw[Ev.zz2 (by simp;omega)];exact bad λh=>h2 (by rw[h];exact⟨rfl,rfl⟩)
 rw[Ev.kz1 (by simp[h2])];by_cases h3:a.truth=b.truth
 case neg=>rw[Ev.zz2 (by simpa using h3)];exact bad λh=>h3 (by rw[h])
 rw[Ev.kz1 (by simp[h3])];by_cases h4:a.str=b.str
 case neg=>rw[Ev.zz2 (by simpa using h4)];exact bad λh=>h4 (by rw[h])
 rw[Ev.kz1 (by simp[h4])];by_cases h5:a.list.length=b.list.length
 case neg=>rw[show((a.list.length:Int) != (b.list.length:Int))=true by simp;omega];exact bad λh=>h5 (by rw[h])
 rw[show((a.list.length:Int) != (b.list.length:Int))=false by simp;omega,zps,Ev.kz1 (by rfl),yz0.yz4,yz0.yz4]
 have loop:∀k,k<=a.list.length->Ev (λn=>z5l n (k:Int) b a) (eqB (a.list.drop k) (b.list.drop k)) :=
  down (by
   rw[zr5,Ev.kz1 (by simp),Ev.zz0,List.drop_length,h5,List.drop_length,yri]) λk hk ihk=>by
   have hk2:k<b.list.length:=by omega
   have hx:=Qad hk;have hsx:=znp hx;rw[<-Qah (h:=hk),<-Qah (h:=hk2),ynk];rw[zr5,Ev.zz2 (by simpa using hk),Ev.yz2 (zz5 hk),Ev.yz2 (zz5 hk2),yz0.yz4,yz0.yz4,Ev.zz1 (ih _ hx _ (by omega))];cases hf:eqB a.list[k] b.list[k];rw[Ev.zz2 (by rfl),Ev.zz0];rfl;rw[Ev.kz1 (by rfl),wrk (by omega),yz0.yz4,yz0.yz4,Bool.true_and];exact ihk
 refine(loop 0 (Qbr _)).to ?_;rw[List.drop_zero,List.drop_zero];by_cases h6:a.list=b.list;rw[zjr.2 h6,zjr.2 (vext h1 h2.1 h2.2 h3 h4 h6)];rw[zeh.2 h6,zeh.2 λh=>h6 (by rw[h])]
theorem zfn{α:Type}{l:List α}{k:Nat}(h:k<l.length):l.take k++[l[k]]=l.take (k+1):=by
 rw[List.take_add_one,Qab h];rfl
theorem ynu:∀v:yz0,v.size<=8388608->∀d:Int,∃b,Ev (λn=>z96 n v d) b:=y9f λv ih hs d=>by
 have hsl:=zb8 v;have hlen:=zjh v.list
 have loop:∀k,k<=v.list.length->∀d:Int,∃b,Ev (λn=>z44 n (k:Int) d v) b :=
  down (λd=>⟨false,by rw[zo4,Ev.kz1 (by simp),Ev.zz0]⟩) λk hk ihk d=>by
   have hx:=Qad hk;have hsx:=znp hx;obtain⟨b,hb⟩:=ih _ hx (by omega) (IntKind.i64.wrap (d-1));obtain⟨c,hc⟩:=ihk d;refine⟨if b then true else c,?_⟩;rw[zo4,Ev.zz2 (by simpa using hk),Ev.yz2 (zz5 hk),yz0.yz4,Ev.zz1 hb,yz0.yz4,wrk (by omega)];cases b;rw[Ev.kz1 (by rfl)];exact hc;rw[Ev.zz2 (by rfl),Ev.zz0];rfl
 have l0:∀d b,∃c,Ev (λn=>z22 n d b v) c:=λd b=>by
  cases b;obtain⟨c,hc⟩:=loop 0 (Qbr _) d;exact⟨c,by rw[znj,Ev.kz1 (by rfl),yz0.yz4];exact hc⟩;exact⟨true,by rw[znj,Ev.zz2 (by rfl),Ev.zz0]⟩
 simp only[yau,yz0.yz4,Ev.pif];split;exact l0 _ _;split;exact l0 _ _;exact l0 _ _
theorem yl9{v:yz0}(hs:v.size<=8388608):∃b,Ev (λn=>zbi n v) b:=by
 obtain⟨b,hb⟩:=ynu v hs 10;cases b;exact⟨_,by rw[zvr,yz0.yz4,Ev.zz1 hb,Ev.kz1 (by rfl),Ev.zz1 (y5o v hs)];exact Ev.zz0.2 rfl⟩;exact⟨true,by rw[zvr,yz0.yz4,Ev.zz1 hb,Ev.zz2 (by rfl),Ev.zz0]⟩
theorem yce{s:B8}(hs:s.length<=8388608):Ev (λn=>zap n s) (zkf s):=by
 have l3t:∀q,Ev (λn=>yzv n true s q) false:=λq=>by rw[zq3,Ev.zz2 (by rfl),Ev.zz0]
 have step:∀k (hk:k<s.length) (r:Bool),((if k=0 then isLet s[k]else zfp s[k])=false->r=false)->((if k=0 then isLet s[k]else zfp s[k])=true->Ev (λn=>z0a n s (k+1)) r)->Ev (λn=>z0a n s k) r:=λk hk r hf ht=>by
  have l3:∀b,(if k=0 then isLet s[k]else zfp s[k]) = !b->(b=false->(zcn s k).2=1)->Ev (λn=>yzv n b s (k+(zcn s k).2)) r:=λb hb h1=>by
   cases b;rw[zq3,Ev.kz1 (by rfl),h1 rfl];exact ht hb;exact(l3t _).to (hf hb).symm
  rw[zri,Ev.zz2 (by simpa using hk)];by_cases hlow:s[k].toNat<128;have hd:=yuu hk hlow;rw[hd]at l3;rw[hd]
  have l2:∀b,b=isLet s[k]->Ev (λn=>z65 n (s[k].toNat:Int) (k:Int) b s (k+1)) r:=λb hb=>by
   subst hb;rw[zpv];cases hl:isLet s[k];rw[Ev.zz2 (by rfl)];by_cases h0:k=0;rw[Ev.zz2 (by simpa using h0)];exact l3 true (by rw[Qbt h0,hl];rfl) (by simp);rw[Ev.kz1 (by simpa using h0)];by_cases h45:s[k].toNat=45;have:s[k]=45:=UInt8.toNat_inj.1 (by simpa using h45);rw[Ev.kz1 (by simp;omega)];exact l3 false (by rw[Qbu h0,zfp,this];rfl) (λ_=>rfl)
   have hne:(s[k]==45)=false:=by
    simp only[beq_eq_false_iff_ne];intro h;rw[h]at h45;exact h45 rfl
   rw[Ev.zz2 (by simp;omega)];by_cases c1:s[k].toNat<48;rw[Ev.zz2 (by simp;omega)];refine l3 true ?_ (by simp);rw[Qbu h0,zfp,hl,hne,yfz];simp;omega;rw[Ev.kz1 (by simp;omega)];refine l3 _ ?_ (λ_=>rfl);rw[Qbu h0,zfp,hl,hne,yfz];have e1:decide (48<=s[k].toNat)=true:=by rw[Qar];omega
   have e3:decide ((s[k].toNat:Int)>57) = !decide (s[k].toNat<=57):=by
    by_cases c2:s[k].toNat<=57;rw[show decide (s[k].toNat<=57)=true by rw[Qar];exact c2];simp only[Bool.not_true,decide_eq_false_iff_not];omega;rw[show decide (s[k].toNat<=57)=false by rw[decide_eq_false_iff_not];exact c2];simp only[Bool.not_false,Qar];omega
   rw[e1,e3];simp;rw[Ev.kz1 (by rfl)];refine l3 false ?_ (λ_=>rfl);split;exact hl;rw[zfp,hl];rfl
  simp only;by_cases c1:97<=s[k].toNat;rw[Ev.zz2 (by simp;omega)];exact l2 _ (by simp[isLet,c1];omega);rw[Ev.kz1 (by simp;omega)];exact l2 _ (by simp[isLet];omega);obtain⟨h1,h2⟩:=ytj hk (by omega);have nl:isLet s[k]=false:=by simp[isLet];omega
  have nm:zfp s[k]=false:=by
   rw[zfp,nl,yfz];have:(s[k]==45)=false:=by simp only[beq_eq_false_iff_ne];intro h;rw[h]at hlow;exact hlow (by decide)
   rw[this];simp;omega
  have bad:(if k=0 then isLet s[k]else zfp s[k])=false:=by split <;> assumption
  rw[Ev.zz2 (by simp;omega),show decide (((zcn s k).1:Int)<=122)=false by simp;omega,zpv,Ev.zz2 (by rfl)];by_cases h0:k=0;rw[Ev.zz2 (by simpa using h0)];exact(l3t _).to (hf bad).symm;rw[Ev.kz1 (by simpa using h0),Ev.zz2 (by simp;omega),Ev.kz1 (by simp;omega),show decide (((zcn s k).1:Int)>57)=true by simp;omega];exact(l3t _).to (hf bad).symm
 have rest:∀k,k<=s.length->1<=k->Ev (λn=>z0a n s k) ((s.drop k).all zfp) :=
  down (Q:=λk=>1<=k->Ev (λn=>z0a n s k) ((s.drop k).all zfp)) (λ_=>by
   rw[zri,Ev.kz1 (by simp),Ev.zz0];simp) λk hk ih h1=>by
   rw[<-Qah (h:=hk),List.all_cons];refine step k hk _ (λh =>?_) λh =>?_
   rw[Qbu (by omega)]at h;rw[h];rfl;rw[Qbu (by omega)]at h;rw[h];exact ih (by omega)
 rw[yfq]
 cases s with
 |nil=>rw[Ev.zz2 (by rfl),zqr,Ev.zz2 (by rfl),Ev.zz0];rfl
 |cons c t=>
  rw[Ev.kz1 (by simp;omega),zqr];by_cases h40:(c::t).length<=40;rw[Ev.kz1 (by simp at h40 ⊢;omega)];refine step 0 (by simp) _ (λh =>?_) λh =>?_
  rw[Qbt rfl]at h;simp only[List.getElem_cons_zero]at h;simp[zkf,h];rw[Qbt rfl]at h;simp only[List.getElem_cons_zero]at h;refine(rest 1 (by simp) (Qbs _)).to ?_;simp[zkf,h];intro _;simpa using h40
  rw[Ev.zz2 (by simp at h40 ⊢;omega),Ev.zz0];simp[zkf];intro _ _;simpa using h40
theorem yi1{c:UInt8}:Ev (λn=>z9r n (c.toNat:Int)) (isLet c):=by
 rw[y76];simp only[Ev.pif,Ev.zz0,isLet,Qar];split;have:97<=c.toNat:=by omega
 simp[this];omega;have:¬97<=c.toNat:=by omega
 simp[this]
theorem yma{c:UInt8}:Ev (λn=>zb2 n (c.toNat:Int)) (yfz c):=by
 rw[ycm];simp only[Ev.pif,Ev.zz0,yfz,Qar];split;have:48<=c.toNat:=by omega
 simp[this];omega;have:¬48<=c.toNat:=by omega
 simp[this]
theorem z01c{c:UInt8}:(((c.toNat:Nat):Int) != 45) = !(c==45):=by
 cases h:c==45 with
 |true=>have:c=45:=by simpa using h
        subst this;rfl
 |false=>
  have:c.toNat≠45:=λhh=>by
   have:c=45:=UInt8.toNat_inj.1 (by simpa using hh);subst this;cases h
  simp;omega
theorem y9k{s:B8}(hs:s.length<=8388608):Ev (λn=>zan n s) (zkf s):=by
 have bad:∀k:Int,Ev (λn=>z04 n s k true) false:=λk=>by rw[zrl,Ev.zz2 (by rfl),Ev.zz0]
 have step:∀k (hk:k<s.length) (r:Bool),((if k=0 then isLet s[k]else zfp s[k])=false->r=false)->((if k=0 then isLet s[k]else zfp s[k])=true->Ev (λn=>kzv n ((k+1:Nat):Int) s) r)->Ev (λn=>kzv n (k:Int) s) r:=λk hk r hf ht=>by
  have l1:∀b,(if k=0 then isLet s[k]else zfp s[k]) = !b->Ev (λn=>z04 n s (k:Int) b) r:=λb hb=>by
   cases b;rw[zrl,Ev.kz1 (by rfl),wrk (by omega)];exact ht hb;exact(bad _).to (hf hb).symm
  rw[zrc,Ev.zz2 (by simpa using hk),Ev.yz2 (zz5 hk),Ev.zz1 yi1];cases hl:isLet s[k];rw[Ev.zz2 (by rfl)];by_cases h0:k=0;rw[Ev.zz2 (by simpa using h0)];exact l1 true (by rw[Qbt h0,hl];rfl);rw[Ev.kz1 (by simpa using h0),Ev.yz2 (zz5 hk),z01c];cases h45:s[k]==45;rw[Ev.zz2 (by rfl),Ev.yz2 (zz5 hk),Ev.zz1 yma];exact l1 _ (by rw[Qbu h0,zfp,hl,h45];simp)
  rw[Ev.kz1 (by rfl)];exact l1 false (by rw[Qbu h0,zfp,hl,h45];rfl);rw[Ev.kz1 (by rfl)];exact l1 false (by split;exact hl;rw[zfp,hl];rfl)
 have fin:∀r:Bool,r=(decide (1<=s.length)&&decide (s.length<=40))->Ev (λn=>kzv n (s.length:Int) s) r:=λr hr=>by
  rw[zrc,Ev.kz1 (by simp),hr];by_cases h1:1<=s.length;rw[Ev.zz2 (by simp;omega),Ev.zz0];simp[h1];omega;rw[Ev.kz1 (by simp;omega),Ev.zz0];simp[h1]
 have rest:∀k,k<=s.length->1<=k->Ev (λn=>kzv n (k:Int) s) ((s.drop k).all zfp&&decide (s.length<=40)) :=
  down (Q:=λk=>1<=k->Ev (λn=>kzv n (k:Int) s) ((s.drop k).all zfp&&decide (s.length<=40))) (λh1=>by
   refine fin _ ?_;simp[h1]) λk hk ih h1=>by
   rw[<-Qah (h:=hk),List.all_cons];refine step k hk _ (λh =>?_) λh =>?_
   rw[Qbu (by omega)]at h;rw[h];rfl;rw[Qbu (by omega)]at h;rw[h];exact ih (by omega)
 rw[ycy]
 cases s with
 |nil=>exact fin _ rfl
 |cons c t=>
  refine step 0 (by simp) _ (λh =>?_) λh =>?_
  rw[Qbt rfl]at h;simp only[List.getElem_cons_zero]at h;simp[zkf,h];rw[Qbt rfl]at h;simp only[List.getElem_cons_zero]at h;refine(rest 1 (by simp) (Qbs _)).to ?_;simp[zkf,h]
def zua(s:B8):Bool:=zkf s&&(!(s==[116,114,117,101]) && !(s==[102,97,108,115,101]))
theorem ypw{s:B8}(hs:s.length<=8388608):Ev (λn=>zcv n s) (zua s):=by
 rw[yeh,Ev.zz1 (yce hs)];unfold zua;cases zkf s <;> cases h:(s==[116,114,117,101]) <;> simp[Ev.pif,Ev.zz0]
theorem yml{s:B8}(hs:s.length<=8388608):Ev (λn=>zb6 n s) (zua s):=by
 rw[y93,Ev.zz1 (y9k hs)];unfold zua;cases zkf s <;> cases h:(s==[116,114,117,101]) <;> simp[Ev.pif,Ev.zz0]
theorem y1d{P:yz1->Prop}(h:∀e:yz1,(∀x,x∈e.args->P x)->P e)(e):P e:=h e λx hx=>y1d h x
termination_by e
decreasing_by exact yz1.y1q hx
mutual
def zbd:yz1->Nat
 |⟨_,_,_,l⟩=>1+zzo l
def zzo:zz8->Nat
 |[]=>0
 |x::l=>zbd x+zzo l
end
mutual
def zfu:yz1->Nat
 |⟨_,_,_,l⟩=>max 1 (zke l)
def zke:zz8->Nat
 |[]=>0
 |x::l=>max (1+zfu x) (zke l)
end
theorem zcz(e):zbd e=1+zzo e.args:=by cases e;rw[zbd]
theorem y9u(e):zfu e=max 1 (zke e.args):=by cases e;rw[zfu]
theorem y5d{l:zz8}{x}(h:x∈l):x.size<=(l.map yz1.size).sum:=by
 induction l with
 |nil=>cases h
 |cons y l ih=>
  rcases Qbi.1 h with rfl|h
  simp
  grind
theorem zcb(e:yz1):(e.args.map yz1.size).sum+e.name.length+e.value.size+4<=e.size:=by rw[yz1.size_eq];omega
theorem zqm{e x:yz1}(h:x∈e.args):x.size<=e.size:=by have:=y5d h;have:=zcb e;omega
theorem zew(l:zz8):l.length<=(l.map yz1.size).sum:=by
 induction l with
 |nil=>simp
 |cons x l ih=>have:=zcb x;simp;omega
theorem zpt:∀e:yz1,zbd e<=e.size:=y1d λe ih=>by
 have:∀l:zz8,(∀x,x∈l->x∈e.args)->zzo l<=(l.map yz1.size).sum:=λl=>by
  induction l with
  |nil=>intro _;simp[zzo]
  |cons x l ihl=>
   grind[zzo]
 grind[zcb,zcz]
theorem yn8:∀e:yz1,zfu e<=zbd e:=y1d λe ih=>by
 have:∀l:zz8,(∀x,x∈l->x∈e.args)->zke l<=1+zzo l:=λl=>by
  induction l with
  |nil=>intro _;simp[zke]
  |cons x l ihl=>
   grind[zzo,zke]
 have:=this e.args λ_ h=>h
 rw[zcz,y9u];omega
theorem ybx(l):zzo l<=(l.map yz1.size).sum:=by
 induction l with
 |nil=>simp[zzo]
 |cons x l ih=>grind[zpt,zzo]
theorem yhr:∀e:yz1,e.size<=8388608->Ev (λn=>z88 n e) ((zbd e:Int),(zfu e:Int)):=y1d λe ih hs=>by
 have hsl:=zcb e;have hlen:=zew e.args
 have loop:∀k,k<=e.args.length->∀d p:Nat,p+zzo (e.args.drop k)<=8388609->d<=8388609->Ev (λn=>z2k n (k:Int) (d:Int) (p:Int) e.args (e.args.length:Int)) (((p+zzo (e.args.drop k):Nat):Int),((max d (zke (e.args.drop k)):Nat):Int)) :=
  down (λd p hp hd=>by
   simp_all[zmy,Ev.kz1,Ev.zz0,zzo,zke]) λk hk ihk d p hp hd=>by
   have hx:=Qad hk;have hsx:=zqm hx;rw[<-Qah (h:=hk)]at hp ⊢;simp[zzo,zke]at hp ⊢;have hpl:=zpt e.args[k];have hdl:=yn8 e.args[k];rw[zmy,Ev.zz2 (by simpa using hk),Ev.yz2 (zz5 hk),yz1.yz4,Ev.zz1 (ih _ hx (by omega)),wI (x:=_+1) (by omega),wI (x:=(zfu _:Int)+1) (by omega),wI (x:=(p:Int)+_) (by omega)];have e1:(k:Int)+1=((k+1:Nat):Int):=by omega
   have e2:(zfu e.args[k]:Int)+1=((1+zfu e.args[k]:Nat):Int):=by omega
   have e3:(p:Int)+(zbd e.args[k]:Int)=((p+zbd e.args[k]:Nat):Int):=by omega
   rw[e1,e2,e3,y8e];refine(ihk (max d (1+zfu e.args[k])) (p+zbd e.args[k]) (by omega) (by omega)).to ?_
   congr 2 <;> omega
 rw[y6q];have hv:=ybx e.args;have:=loop 0 (Qbr _) 1 1 (by simp;omega) (by omega)
 grind[zcz,y9u]
theorem y5w:∀e:yz1,e.size<=8388608->Ev (λn=>z6z n e) (zbd e:Int):=y1d λe ih hs=>by
 have hsl:=zcb e;have hlen:=zew e.args;rw[ya2,yz1.yz4,zcz]
 have loop:∀k,k<=e.args.length->∀p:Nat,p+zzo (e.args.drop k)<=8388609->Ev (λn=>z3t n (k:Int) (p:Int) e) ((p+zzo (e.args.drop k):Nat):Int) :=
  down (λp hp=>by
   simp_all[zo9,Ev.kz1,Ev.zz0,zzo]) λk hk ihk p hp=>by
   have hx:=Qad hk;have hsx:=zqm hx;rw[<-Qah (h:=hk)]at hp ⊢;simp[zzo]at hp ⊢;have hpl:=zpt e.args[k];rw[zo9,Ev.zz2 (by simpa using hk),Ev.yz2 (zz5 hk),yz1.yz4,Ev.zz1 (ih _ hx (by omega)),wI (x:=_+1) (by omega),wI (x:=(p:Int)+_) (by omega)]
   grind[yz1.yz4]
 have hv:=ybx e.args;exact loop 0 (Qbr _) 1 (by simp;omega)
theorem ypo:∀e:yz1,e.size<=8388608->Ev (λn=>zat n e) (zfu e:Int):=y1d λe ih hs=>by
 have hsl:=zcb e;have hlen:=zew e.args;rw[yee,yz1.yz4,y9u]
 have loop:∀k,k<=e.args.length->∀p:Nat,p<=8388609->Ev (λn=>z68 n (k:Int) (p:Int) e) ((max p (zke (e.args.drop k)):Nat):Int) :=
  down (λp hp=>by
   simp_all[zq9,Ev.kz1,Ev.zz0,zke]) λk hk ihk p hp=>by
   have hx:=Qad hk;have hsx:=zqm hx;rw[<-Qah (h:=hk)];simp[zke];have hpl:=zpt e.args[k];have hdl:=yn8 e.args[k];rw[zq9,Ev.zz2 (by simpa using hk),Ev.yz2 (zz5 hk),yz1.yz4,Ev.zz1 (ih _ hx (by omega)),wI (x:=_+1) (by omega),wI (x:=1+_) (by omega)];have e1:(k:Int)+1=((k+1:Nat):Int):=by omega
   have e3:1+(zfu e.args[k]:Int)=((1+zfu e.args[k]:Nat):Int):=by omega
   rw[e1,e3,yz1.yz4,y8e];refine(ihk (max p (1+zfu e.args[k])) (by omega)).to ?_
   congr 1;omega
 exact loop 0 (Qbr _) 1 (by omega)
def zar(op:Int):Int :=
 if op=1∨op=2 then 0 else if (3<=op∧op<=10)∨op=13∨op=14∨op=17 then 2 else if op=11∨op=15∨op=16 then 1 else if op=12 then 3 else if op=18 then -1 else -2
theorem ops(op:Int):op=1∨op=2∨op=3∨op=4∨op=5∨op=6∨op=7∨op=8∨op=9∨op=10∨op=11∨op=12∨op=13∨op=14∨op=15∨op=16∨op=17∨op=18∨(op<1∨18<op):=by omega
theorem yp9{op}:Ev (λn=>zcu n op) (zar op):=by
 rcases ops op with rfl|rfl|rfl|rfl|rfl|rfl|rfl|rfl|rfl|rfl|rfl|rfl|rfl|rfl|rfl|rfl|rfl|rfl|h
 case inr.inr.inr.inr.inr.inr.inr.inr.inr.inr.inr.inr.inr.inr.inr.inr.inr.inr=>
  have e:zar op = -2:=by unfold zar;rw[Qbu (by omega),Qbu (by omega),Qbu (by omega),Qbu (by omega),Qbu (by omega)]
  rw[e];have n (j) (h1:1<=j) (h2:j<=18):(op==j)=false:=by simp;omega
  simp[zy0,zqw,zrf,zqi,zqa,zqt,Ev.pif,Ev.zz0,n]
 all_goals simp[zy0,zqw,zrf,zqi,zqa,y5i,zqt,Ev.pif,Ev.zz0,zar]
theorem yqf{op}:Ev (λn=>zcy n op) (zar op):=by
 rcases ops op with rfl|rfl|rfl|rfl|rfl|rfl|rfl|rfl|rfl|rfl|rfl|rfl|rfl|rfl|rfl|rfl|rfl|rfl|h
 case inr.inr.inr.inr.inr.inr.inr.inr.inr.inr.inr.inr.inr.inr.inr.inr.inr.inr=>
  have e:zar op = -2:=by unfold zar;rw[Qbu (by omega),Qbu (by omega),Qbu (by omega),Qbu (by omega),Qbu (by omega)]
  rw[e];have n (j) (h1:1<=j) (h2:j<=18):(op==j)=false:=by simp;omega
  rw[zym,Ev.kz1 (n 1 (by omega) (by omega)),n 2 (by omega) (by omega),zrm,Ev.kz1 (by rfl)];have l1:Ev (λm=>kzq m op false) (-2):=by simp[zq1,zqz,Ev.pif,Ev.zz0,n]
  by_cases h3:op>=3;rw[Ev.zz2 (by simpa using h3),Ev.kz1 (by simp;omega),Ev.kz1 (n 13 (by omega) (by omega)),Ev.kz1 (n 14 (by omega) (by omega)),n 17 (by omega) (by omega)];exact l1;rw[Ev.kz1 (by simpa using h3),Ev.kz1 (n 13 (by omega) (by omega)),Ev.kz1 (n 14 (by omega) (by omega)),n 17 (by omega) (by omega)];exact l1
 all_goals simp[zym,zrm,zq1,zqz,Ev.pif,Ev.zz0,zar]
noncomputable def yk0(op:Int)(v:yz0)(nm:B8):Bool :=
 if op=1 then y07 v==0&&(v.kind != 4&&nm.isEmpty)else if op=2 then zua nm&&eqB v v0 else nm.isEmpty&&eqB v v0
def yi8(op:Int)(k:Nat):Bool:=zar op != -2&&(decide (zar op<0)||(k:Int)==zar op)
mutual
noncomputable def zow:yz1->Bool
 |⟨op,v,nm,l⟩=>yi8 op l.length&&(yk0 op v nm&&zde l)
noncomputable def zde:zz8->Bool
 |[]=>true
 |x::l=>zow x&&zde l
end
theorem yni(e):zow e=(yi8 e.op e.args.length&&(yk0 e.op e.value e.name&&zde e.args)):=by cases e;rw[zow]
noncomputable def z97(e:yz1):Int:=if 100<zbd e∨12<zfu e then 4 else if zow e then 0 else 8
theorem yth{e:yz1}(h:e.wf):e.value.wf:=by rw[yz1.z2g]at h;exact h.2.1
theorem yuk{e:yz1}(h:e.wf):∀x∈e.args,x.wf:=by rw[yz1.z2g]at h;exact h.2.2.2
theorem y6g(s:B8):(!(s==[])) = !s.isEmpty:=by cases s <;> rfl
theorem ys4:∀e:yz1,e.wf->e.size<=8388608->Ev (λn=>zca n e) (zow e):=y1d λe ih hw hs=>by
 have hsl:=zcb e;have hlen:=zew e.args
 have idx:∀k,k<=e.args.length->∃i:Int,Ev (λn=>yz6 n (k:Int) e.args (e.args.length:Int)) i∧decide (i>=0) = !zde (e.args.drop k) :=
  down ⟨-1,by rw[yzy,Ev.kz1 (by simp),Ev.zz0],by simp[zde]⟩ λk hk ihk=>by
   have hx:=Qad hk;have hsx:=zqm hx
   have hf1:Ev (λn=>zbk n e.args[k]) (!zow e.args[k]):=by
    rw[y8t,yz1.yz4,Ev.zz1 (ih _ hx (yuk hw _ hx) (by omega)),Ev.zz0]
   obtain⟨i,h1,h2⟩:=ihk;rw[<-Qah (h:=hk),zde];cases hf:zow e.args[k];refine⟨k,?_,by simp⟩;rw[yzy,Ev.zz2 (by simpa using hk),Ev.yz2 (zz5 hk),yz1.yz4,Ev.zz1 hf1,Ev.zz2 (by rw[hf];rfl),Ev.zz0];refine⟨i,?_,by rw[h2];rfl⟩;rw[yzy,Ev.zz2 (by simpa using hk),Ev.yz2 (zz5 hk),yz1.yz4,Ev.zz1 hf1,Ev.kz1 (by rw[hf];rfl),wrk (by omega)];exact h1
 have l4:Ev (λn=>z4w n e) (zde e.args):=by
  obtain⟨i,h1,h2⟩:=idx 0 (Qbr _);have hi:Ev (λn=>yzc n e.args) i:=by rw[zdb];exact h1
  have hc:Ev (λn=>yza n e.args) (!zde e.args):=by
   rw[zbr,Ev.zz1 hi,Ev.zz0,h2];rfl
  rw[y6z,Ev.zz1 hc,Ev.zz0,Bool.not_not]
 have l1:∀b,Ev (λn=>z4v n b e) (!b&&zde e.args):=λb=>by
  rw[y7l];cases b;rw[Ev.kz1 (by rfl),yz1.yz4];exact l4;rw[Ev.zz2 (by rfl),Ev.zz0];rfl
 have l2:∀b,Ev (λn=>z89 n b e) (!b&&zde e.args):=λb=>by
  rw[y6s];cases b;rw[Ev.kz1 (by rfl),yz1.yz4];exact l4;rw[Ev.zz2 (by rfl),Ev.zz0];rfl
 have l3:∀b,Ev (λn=>z7w n b e) (!b&&zde e.args):=λb=>by
  rw[y6r];cases b;rw[Ev.kz1 (by rfl),yz1.yz4];exact l4;rw[Ev.zz2 (by rfl),Ev.zz0];rfl
 have l0:∀b,Ev (λn=>z4x n b e) (!b&&(yk0 e.op e.value e.name&&zde e.args)):=λb=>by
  rw[y6l];cases b
  case true=>rw[Ev.zz2 (by rfl),Ev.zz0];rfl
  rw[Ev.kz1 (by rfl)];have hsame:Ev (λn=>z3h n e.value (yz0.mk 0 (zz4.mk 0 0) false [] [])) (eqB e.value v0):=yqx e.value v0 (by omega);by_cases h1:e.op=1;rw[Ev.zz2 (by simpa using h1),yz0.yz4,Ev.zz1 (ynr (yth hw) (by omega)),yz1.yz4,y6g];simp only[yk0,Qbt h1];by_cases hc:y07 e.value=0;rw[Ev.kz1 (by simpa using hc)];by_cases hk:e.value.kind=4;rw[Ev.zz2 (by simpa using hk)]
  refine(l1 true).to ?_;simp[hc,hk];rw[Ev.kz1 (by simpa using hk)];have hk':(e.value.kind != 4)=true:=by simpa using hk
  refine(l1 _).to ?_;simp[hc,hk'];rw[Ev.zz2 (by simpa using hc)];refine(l1 true).to ?_;simp[hc];rw[Ev.kz1 (by simpa using h1)];by_cases h2:e.op=2;rw[Ev.zz2 (by simpa using h2),Ev.zz1 (ypw (by omega)),yz0.yz4,yz1.yz4];simp only[yk0,Qbu h1,Qbt h2];cases hn:zua e.name;rw[Ev.zz2 (by rfl)];exact(l2 true).to (by simp);rw[Ev.kz1 (by rfl),Ev.zz1 hsame];exact(l2 _).to (by simp)
  rw[Ev.kz1 (by simpa using h2),y6g,yz0.yz4,yz1.yz4];simp only[yk0,Qbu h1,Qbu h2];cases hn:e.name.isEmpty;rw[Ev.zz2 (by rfl)];exact(l3 true).to (by simp);rw[Ev.kz1 (by rfl),Ev.zz1 hsame];exact(l3 _).to (by simp)
 rw[yh3,Ev.zz1 yp9,yni,yz1.yz4];unfold yi8;by_cases c1:zar e.op = -2;rw[Ev.zz2 (by simpa using c1)];exact(l0 true).to (by simp[c1]);rw[Ev.kz1 (by simpa using c1)];by_cases c2:zar e.op>=0;rw[Ev.zz2 (by simpa using c2)];refine(l0 _).to ?_;rw[show decide (zar e.op<0)=false by simpa using c2,show(zar e.op != -2)=true by simpa using c1];simp only[bne,Bool.not_not,Bool.true_and,Bool.false_or]
 rw[Ev.kz1 (by simpa using c2)];refine(l0 _).to ?_;rw[show decide (zar e.op<0)=true by simp;omega,show(zar e.op != -2)=true by simpa using c1];simp
theorem ypm:∀e:yz1,e.size<=8388608->Ev (λn=>zav n e) (zow e):=y1d λe ih hs=>by
 have hsl:=zcb e;have hlen:=zew e.args
 have loop:∀k,k<=e.args.length->Ev (λn=>z5m n (k:Int) e) (zde (e.args.drop k)) :=
  down (by simp_all[zqh,Ev.kz1,Ev.zz0,zde]) λk hk ihk=>by
   have hx:=Qad hk;have hsx:=zqm hx;rw[<-Qah (h:=hk),zde];rw[zqh,Ev.zz2 (by simpa using hk),Ev.yz2 (zz5 hk),yz1.yz4,Ev.zz1 (ih _ hx (by omega))];cases hf:zow e.args[k]
   simp_all[Ev.zz2,Ev.zz0]
   rw[Ev.kz1 (by rfl),wrk (by omega),yz1.yz4,Bool.true_and];exact ihk
 have l2:∀b,Ev (λn=>z08 n b e) (!b&&zde e.args):=λb=>by
  rw[y56];cases b;rw[Ev.kz1 (by rfl),yz1.yz4];exact loop 0 (Qbr _)
  simp_all[Ev.zz2,Ev.zz0]
 have hgn:decide ((e.name.length:Int)>0) = !e.name.isEmpty:=by cases e.name <;> simp
 have l1:∀b,Ev (λn=>yzw n b e) (!b&&((if e.op=2 then zua e.name else e.name.isEmpty)&&zde e.args)):=λb=>by
  rw[y4f];cases b
  case true=>simp_all[Ev.zz2,Ev.zz0]
  rw[Ev.kz1 (by rfl),yz1.yz4,hgn];by_cases h2:e.op=2;rw[Ev.zz2 (by simpa using h2),Qbt h2,Ev.zz1 (yml (by omega))];cases hn:zua e.name
  simp_all[Ev.zz2]
  simp_all[Ev.kz1]
  rw[Ev.kz1 (by simpa using h2),Ev.zz2 (by simpa using h2),Qbu h2];exact(l2 _).to (by simp)
 have l0:∀b,Ev (λn=>z2w n b e) (!b&&(yk0 e.op e.value e.name&&zde e.args)):=λb=>by
  rw[y4w];cases b
  case true=>simp_all[Ev.zz2,Ev.zz0]
  rw[Ev.kz1 (by rfl),yz0.yz4,yz1.yz4];have hsame:Ev (λn=>z3i n e.value (yz0.mk 0 (zz4.mk 0 0) false [] [])) (eqB e.value v0):=ypu e.value v0 (by omega);by_cases h1:e.op=1;rw[Ev.zz2 (by simpa using h1),Ev.zz1 (yo0 (by omega))];simp[yk0,Qbt h1];by_cases hc:y07 e.value=0;rw[Ev.kz1 (by simpa using hc)];by_cases hk:e.value.kind=4
  simp_all[Ev.zz2]
  rw[Ev.kz1 (by simpa using hk),Ev.kz1 (by simpa using h1)]
  grind
  rw[Ev.zz2 (by simpa using hc)];refine(l1 true).to ?_;simp[hc];rw[Ev.kz1 (by simpa using h1),Ev.zz2 (by simpa using h1),Ev.zz1 hsame];refine(l1 _).to ?_;simp[yk0,Qbu h1]
  grind
 rw[yek,Ev.zz1 yqf,yni,yz1.yz4];unfold yi8;by_cases c1:zar e.op = -2
 simp_all[Ev.zz2]
 rw[Ev.kz1 (by simpa using c1)];by_cases c2:zar e.op>=0;rw[Ev.zz2 (by simpa using c2)];refine(l0 _).to ?_;rw[show decide (zar e.op<0)=false by simpa using c2,show(zar e.op != -2)=true by simpa using c1]
 grind
 rw[Ev.kz1 (by simpa using c2)]
 grind
theorem zs4{e}(hw:e.wf)(hs:e.size<=8388608):Ev (λn=>z05 n e) (z97 e):=by
 have l0:∀b,Ev (λn=>z6a n b e) (if b then 4 else if zow e then 0 else 8):=λb=>by
  rw[y54];cases b;rw[Ev.kz1 (by rfl),yz1.yz4,Ev.zz1 (ys4 e hw hs)];cases zow e
  simp_all[Ev.zz2,Ev.zz0]
  simp_all[Ev.kz1,Ev.zz0]
  simp_all[Ev.zz2,Ev.zz0]
 rw[ydh,yz1.yz4,Ev.zz1 (yhr e hs)];unfold z97;simp only[Ev.pif];by_cases h1:100<zbd e;rw[Qbt (by simp;omega),Qbt (.inl h1)];exact l0 true;rw[Qbu (by simp;omega)];by_cases h2:12<zfu e;rw[Qbt (.inr h2),show decide ((zfu e:Int)>12)=true by simp;omega];exact l0 true;rw[Qbu (by omega),show decide ((zfu e:Int)>12)=false by simp;omega];exact l0 false
theorem zgq{e}(hs:e.size<=8388608):Ev (λn=>z0t n e) (z97 e):=by
 have l0:∀b,Ev (λn=>z43 n b e) (if b then 4 else if zow e then 0 else 8):=λb=>by
  rw[y30];cases b;rw[Ev.kz1 (by rfl),yz1.yz4,Ev.zz1 (ypm e hs)];cases zow e
  simp_all[Ev.zz2,Ev.zz0]
  simp_all[Ev.kz1,Ev.zz0]
  simp_all[Ev.zz2,Ev.zz0]
 rw[y9x,yz1.yz4,Ev.zz1 (y5w e hs)];unfold z97;by_cases h1:100<zbd e;rw[Ev.zz2 (by simp;omega),Qbt (.inl h1)];exact l0 true;rw[Ev.kz1 (by simp;omega),Ev.zz1 (ypo e hs)];by_cases h2:12<zfu e;rw[Qbt (.inr h2),show decide ((zfu e:Int)>12)=true by simp;omega];exact l0 true;rw[Qbu (by omega),show decide ((zfu e:Int)>12)=false by simp;omega];exact l0 false
theorem y63{e}(h:z97 e=0):zow e=true∧zbd e<=100∧zfu e<=12:=by
 grind[z97]
theorem ynf:∀e:yz1,e.size<=8388608->∀d:Int,∃b,Ev (λn=>z99 n e d) b:=y1d λe ih hs d=>by
 have hsl:=zcb e;have hlen:=zew e.args
 have loop:∀k,k<=e.args.length->∀d:Int,∃b,Ev (λn=>z47 n (k:Int) d e) b :=
  down (λd=>⟨false,by rw[zne,Ev.kz1 (by simp),Ev.zz0]⟩) λk hk ihk d=>by
   have hx:=Qad hk;have hsx:=zqm hx;obtain⟨b,hb⟩:=ih _ hx (by omega) (IntKind.i64.wrap (d-1));obtain⟨c,hc⟩:=ihk d;refine⟨if b then true else c,?_⟩;rw[zne,Ev.zz2 (by simpa using hk),Ev.yz2 (zz5 hk),yz1.yz4,Ev.zz1 hb,yz1.yz4,wrk (by omega)];cases b;rw[Ev.kz1 (by rfl)];exact hc
   simp_all[Ev.zz2,Ev.zz0]
 have l0:∀d b,∃c,Ev (λn=>z0k n d b e) c:=λd b=>by
  cases b;obtain⟨c,hc⟩:=loop 0 (Qbr _) d;exact⟨c,by simp_all[zoj,Ev.kz1]⟩
  simp_all[zoj,Ev.zz2,Ev.zz0]
 obtain⟨g,hg⟩:=yl9 (v:=e.value) (by omega);simp only[yak,yz1.yz4,yz0.yz4,Ev.pif,Ev.zz1 hg];split;exact l0 _ _;split;exact l0 _ _;split;exact l0 _ _;exact l0 _ _
theorem zny{e}(hs:e.size<=8388608):∃b,Ev (λn=>z4h n e) b:=by
 obtain⟨b,hb⟩:=ynf e hs 16;cases b;exact⟨_,by rw[zvb,yz1.yz4,Ev.zz1 hb,Ev.kz1 (by rfl),Ev.zz1 (y5w e hs)];exact Ev.zz0.2 rfl⟩;exact⟨true,by rw[zvb,yz1.yz4,Ev.zz1 hb,Ev.zz2 (by rfl),Ev.zz0]⟩
theorem ztv(l:zz8):l.length<=zzo l:=by
 induction l with
 |nil=>simp
 |cons x l ih=>have:=zcz x;simp[zzo];omega
mutual
def zmq:yz1->List B8->List B8
 |⟨op,_,nm,l⟩,acc=>zci l (if op=2∧nm∉acc then acc++[nm]else acc)
def zci:zz8->List B8->List B8
 |[],acc=>acc
 |x::l,acc=>zci l (zmq x acc)
end
theorem y3l(e:yz1)(acc:List B8):zmq e acc=zci e.args (if e.op=2∧e.name∉acc then acc++[e.name]else acc):=by cases e;rw[zmq]
mutual
def zt7:yz1->List B8->List B8
 |⟨op,_,nm,l⟩,acc=>zch l (if op=2 then ins acc nm else acc)
def zch:zz8->List B8->List B8
 |[],acc=>acc
 |x::l,acc=>zch l (zt7 x acc)
end
theorem y9s(e:yz1)(acc:List B8):zt7 e acc=zch e.args (if e.op=2 then ins acc e.name else acc):=by cases e;rw[zt7]
theorem yng:∀(e:yz1) (a b:List B8),a.Nodup->z9l b->(∀x,x∈a↔x∈b)->(zmq e a).Nodup∧z9l (zt7 e b)∧(∀x,x∈zmq e a↔x∈zt7 e b)∧(zmq e a).length<=a.length+zbd e∧(zt7 e b).length<=b.length+zbd e:=y1d λe ih a b ha hb hab=>by
 have hL:∀(l:zz8),(∀x∈l,x∈e.args)->∀a b:List B8,a.Nodup->z9l b->(∀x,x∈a↔x∈b)->(zci l a).Nodup∧z9l (zch l b)∧(∀x,x∈zci l a↔x∈zch l b)∧(zci l a).length<=a.length+zzo l∧(zch l b).length<=b.length+zzo l:=λl=>by
  induction l with
  |nil=>intro _ a b ha hb hab;simp only[zci,zch,zzo];exact⟨ha,hb,hab,Qbs _,Qbs _⟩
  |cons x l ihl=>
   intro hm a b ha hb hab;obtain⟨h1,h2,h3,h4,h5⟩:=ih x (hm x Qak) a b ha hb hab;obtain⟨k1,k2,k3,k4,k5⟩:=ihl (λy hy=>hm y (Qai _ hy)) _ _ h1 h2 h3;simp only[zci,zch,zzo];exact⟨k1,k2,k3,by omega,by omega⟩
 rw[y3l,y9s,zcz];by_cases h2:e.op=2;rw[Qbt h2];by_cases hn:e.name∈a;rw[Qbu (by simp[hn])]
 obtain⟨k1,k2,k3,k4,k5⟩:=hL e.args (λ_ h=>h) a (ins b e.name) ha (zsq hb) (λx=>by
  rw[y37,<-hab]
  exact⟨.inl,λh=>h.elim id λh=>by rw[h];exact hn⟩)
 have:=y2h e.name b;exact⟨k1,k2,k3,by omega,by omega⟩;rw[Qbt ⟨h2,hn⟩]
 obtain⟨k1,k2,k3,k4,k5⟩:=hL e.args (λ_ h=>h) (a++[e.name]) (ins b e.name) (by
  rw[List.nodup_append];refine⟨ha,by simp,λx hx y hy =>?_⟩
  rw[Qbb.1 hy];intro h;subst h;exact hn hx) (zsq hb) (λx=>by
  rw[y37,<-hab,Qba,Qbb])
 have:=y2h e.name b;rw[Qap,List.length_singleton]at k4;exact⟨k1,k2,k3,by omega,by omega⟩;rw[Qbu h2,Qbu (λh=>h2 h.1)];obtain⟨k1,k2,k3,k4,k5⟩:=hL e.args (λ_ h=>h) a b ha hb hab;exact⟨k1,k2,k3,by omega,by omega⟩
theorem yn5(e:yz1):z27 (zmq e [])=zt7 e []:=by
 obtain⟨h1,h2,h3,_⟩:=yng e [] [] (by simp) (by simp[z9l]) (by simp);exact zp6 (zsy h1) h2 λx=>by rw[(zc7 _).mem_iff,h3]
theorem y96:∀(e:yz1) (a:List B8),(zmq e a).length<=a.length+zbd e:=y1d λe ih a=>by
 have hL:∀(l:zz8),(∀x∈l,x∈e.args)->∀a:List B8,(zci l a).length<=a.length+zzo l:=λl=>by
  induction l with
  |nil=>intro _ a;simp[zci,zzo]
  |cons x l ihl=>
   intro hm a;have h1:=ih x (hm x Qak) a;have h2:=ihl (λy hy=>hm y (Qai _ hy)) (zmq x a);simp only[zci,zzo];omega
 rw[y3l,zcz];have:=hL e.args (λ_ h=>h) (if e.op=2∧e.name∉a then a++[e.name]else a);have h2:(if e.op=2∧e.name∉a then a++[e.name]else a).length<=a.length+1:=by split <;> simp
 omega
theorem ygk:∀(e:yz1) (a:List B8),(zt7 e a).length<=a.length+zbd e:=y1d λe ih a=>by
 have hL:∀(l:zz8),(∀x∈l,x∈e.args)->∀a:List B8,(zch l a).length<=a.length+zzo l:=λl=>by
  induction l with
  |nil=>intro _ a;simp[zch,zzo]
  |cons x l ihl=>
   intro hm a;have h1:=ih x (hm x Qak) a;have h2:=ihl (λy hy=>hm y (Qai _ hy)) (zt7 x a);simp only[zch,zzo];omega
 rw[y9s,zcz];have hi:=y2h e.name a;have:=hL e.args (λ_ h=>h) (if e.op=2 then ins a e.name else a);split at this;rename_i h;rw[Qbt h];omega;rename_i h;rw[Qbu h];omega
theorem yss{l:List B8}(hl:l.length<=8388608){s:B8}:∃i:Int,Ev (λn=>kzk n s l) (i,l)∧decide (i>=0)=decide (s∈l):=by
 have loop:∀k,k<=l.length->∃i:Int,Ev (λn=>yzd n (k:Int) s (l.length:Int) l) (i,l)∧decide (i>=0)=decide (s∈l.drop k) :=
  down ⟨-1,by rw[z25,Ev.kz1 (by simp),Ev.zz0],by simp⟩ λk hk ih=>by
   obtain⟨i,h1,h2⟩:=ih;by_cases he:s=l[k];refine⟨k,?_,?_⟩;rw[z25,Ev.zz2 (by simpa using hk),Ev.yz2 (zz5 hk),Ev.zz2 (by simpa using he),Ev.zz0];have:s∈l.drop k:=by rw[<-Qah (h:=hk),he];exact Qak
   simp[this];refine⟨i,?_,?_⟩;rw[z25,Ev.zz2 (by simpa using hk),Ev.yz2 (zz5 hk),Ev.kz1 (by simpa using he),wrk (by omega)];exact h1;rw[h2]
   have:(s∈l.drop k)↔(s∈l.drop (k+1)):=by
    rw[<-Qah (h:=hk),Qbi];exact⟨λh=>h.elim (λh=>(he h).elim) id,.inr⟩
   exact decide_eq_decide.2 this.symm
 obtain⟨i,h1,h2⟩:=loop 0 (Qbr _);exact⟨i,by rw[zhq];exact h1,by simpa using h2⟩
theorem yr1:∀(e:yz1) (acc:List B8),acc.length+zbd e<=8388608->Ev (λn=>zaq n e acc) (zmq e acc):=y1d λe ih acc hb=>by
 rw[zcz]at hb
 have loop:∀k,k<=e.args.length->∀acc:List B8,acc.length+zzo (e.args.drop k)<=8388608->Ev (λn=>z5i n (k:Int) e.args (e.args.length:Int) acc) (zci (e.args.drop k) acc) :=
  down (λacc hb=>by rw[zq5,Ev.kz1 (by simp),Ev.zz0];simp[zci]) λk hk ihk acc hb=>by
   have hx:=Qad hk;have hlen:=ztv e.args;rw[<-Qah (h:=hk)]at hb ⊢;simp only[zci,zzo]at hb ⊢;have:=y96 e.args[k] acc
   have hk2:k<=8388609:=by
    have:=ztv e.args;omega
   rw[zq5,Ev.zz2 (by simpa using hk),Ev.yz2 (zz5 hk),yz1.yz4,Ev.zz1 (ih _ hx _ (by omega)),wrk (by omega)];exact ihk _ (by omega)
 have l1:∀acc:List B8,acc.length+zzo e.args<=8388608->Ev (λn=>z63 n acc e) (zci e.args acc):=λacc hb=>by
  rw[y3y];simpa using loop 0 (Qbr _) acc (by simpa using hb)
 rw[yez,y3l];by_cases h2:e.op=2;obtain⟨i,h3,h4⟩:=yss (l:=acc) (by omega) (s:=e.name)
 have hc:Ev (λn=>zzi n e.name acc) (decide (e.name∈acc),acc):=by
  rw[zfz,Ev.zz1 h3,Ev.zz0,h4]
 rw[Ev.zz2 (by simpa using h2),Ev.zz1 hc,yz1.yz4,zr4];by_cases hn:e.name∈acc;rw[Ev.kz1 (by simpa using hn),Qbu (by simp[hn]),yz1.yz4];exact l1 acc (by omega);rw[Ev.zz2 (by simpa using hn),Qbt ⟨h2,hn⟩,Ev.yz2 (z8j (by simp;omega)),yz1.yz4];exact l1 _ (by simp;omega);rw[Ev.kz1 (by simpa using h2),Qbu (λh=>h2 h.1),yz1.yz4,zr4,Ev.kz1 (by rfl),yz1.yz4];exact l1 _ (by omega)
theorem yqi{α:Type}{p:α->Bool}:∀{l:List α},(∀x∈l,p x=true)->l.takeWhile p=l∧l.dropWhile p=[]
 |[],_=>⟨rfl,rfl⟩
 |x::l,h=>by
  have hx:=h x Qak;obtain⟨h1,h2⟩:=yqi (l:=l) λy hy=>h y (Qai _ hy)
  rw[List.takeWhile_cons_of_pos hx,List.dropWhile_cons_of_pos hx,h1,h2];exact⟨rfl,rfl⟩
theorem ysz{l:List B8}{k:Nat}(hk:k<=l.length)(s:B8) :
  y0n (l++[[]]) ((k+1:Nat):Int) (k:Int)=some (l.take k++[(l++[[]])[k]'(by simp;omega)]++l.drop k)∧((l.take k++[(l++[[]])[k]'(by simp;omega)]++l.drop k).set k s=l.take k++s::l.drop k):=by
 constructor;unfold y0n;rw[Qbt (by simp;omega)]
 congr 1
 have e1:((k+1:Nat):Int).toNat=k+1:=by simp
 have e2:((k:Nat):Int).toNat=k:=by simp
 rw[e1,e2];have e3:min ((l++[[]]).length-k) ((l++[[]]).length-(k+1))=l.length-k:=by simp;omega
 rw[e3,show k+1+(l.length-k)=l.length+1 by omega];have e4:(l++[[]]).drop (l.length+1)=[]:=List.drop_of_length_le (by simp)
 have e5:((l++[[]]).drop k).take (l.length-k)=l.drop k:=by
  rw[List.drop_append_of_le_length hk,List.take_append_of_le_length (by simp),List.take_of_length_le (by simp)]
 have e6:(l++[[]]).take (k+1)=l.take k++[(l++[[]])[k]'(by simp;omega)]:=by
  have hlt:k<(l++[[]]).length:=by simp;omega
  rw[<-zfn hlt,List.take_append_of_le_length hk]
 rw[e4,e5,e6,List.append_nil];have hl:(l.take k).length=k:=by simp;omega
 rw[Qaz,List.set_append,Qbu (by omega),hl,Nat.sub_self];rfl
theorem yok:∀(e:yz1) (acc:List B8),acc.length+zbd e<=8388608->Ev (λn=>zam n e acc) (zt7 e acc):=y1d λe ih acc hb=>by
 rw[zcz]at hb
 have loop:∀k,k<=e.args.length->∀acc:List B8,acc.length+zzo (e.args.drop k)<=8388608->Ev (λn=>z6f n (k:Int) acc e) (zch (e.args.drop k) acc) :=
  down (λacc hb=>by rw[zqb,Ev.kz1 (by simp),Ev.zz0];simp[zch]) λk hk ihk acc hb=>by
   have hx:=Qad hk;have hlen:=ztv e.args;rw[<-Qah (h:=hk)]at hb ⊢;simp only[zch,zzo]at hb ⊢;have:=ygk e.args[k] acc;rw[zqb,Ev.zz2 (by simpa using hk),Ev.yz2 (zz5 hk),yz1.yz4,Ev.zz1 (ih _ hx _ (by omega)),wrk (by omega),yz1.yz4];exact ihk _ (by omega)
 have l3:∀acc:List B8,acc.length+zzo e.args<=8388608->Ev (λn=>z2x n acc e) (zch e.args acc):=λacc hb=>by
  rw[y4e,yz1.yz4];simpa using loop 0 (Qbr _) acc (by simpa using hb)
 rw[ydw,yz1.yz4,y9s];by_cases h2:e.op=2
 case neg=>rw[Ev.kz1 (by simpa using h2),Qbu h2];exact l3 _ (by omega)
 rw[Ev.zz2 (by simpa using h2),Qbt h2];have hil:=y2h e.name acc
 have fin:∀k,k<=acc.length->acc.takeWhile (λx=>Op.bytesLess x e.name)=acc.take k->acc.dropWhile (λx=>Op.bytesLess x e.name)=acc.drop k->Ev (λn=>z61 n (k:Int) false e acc) (zch e.args (ins acc e.name)):=λk hk ht hd=>by
  have hins:=yxp e.name acc;rw[ht,hd]at hins
  have put:ins acc e.name=acc.take k++e.name::acc.drop k->Ev (λn=>z5g n (k:Int) true e acc) (zch e.args (ins acc e.name)):=λhi=>by
   obtain⟨s1,s2⟩:=ysz hk e.name;have hx:ext acc [[]]=some (acc++[[]]):=z8j (by simp;omega);have hc1:yl8 (acc++[[]]) ((k+1:Nat):Int)=some ():=by unfold yl8;rw[Qbt (by simp;omega)]
   have hc2:yl8 (acc++[[]]) (k:Int)=some ():=by unfold yl8;rw[Qbt (by simp;omega)]
   have hg:ix (acc.take k++[(acc++[[]])[k]'(by simp;omega)]++acc.drop k) (k:Int)=some ((acc++[[]])[k]'(by simp;omega)):=by
    rw[yw1,Qaz,Qav (by simp;omega)];simp[Nat.min_eq_left hk]
   rw[zr7,Ev.zz2 (by rfl),Ev.yz2 hx,wrk (by omega),Ev.yz2 hc1,Ev.yz2 hc2,Ev.yz2 s1,Ev.yz2 hg,yz1.yz4,Int.toNat_natCast,s2,<-hi];exact l3 _ (by omega)
  rw[zpw,Ev.kz1 (by rfl),yz1.yz4];by_cases he:k=acc.length;rw[Ev.zz2 (by simp;omega)];exact put (by rw[hins,Qbu (by rw[List.drop_of_length_le (by omega)];simp)]);have hlt:k<acc.length:=by omega
  rw[Ev.kz1 (by simp;omega),Ev.yz2 (zz5 hlt)];have hhead:(acc.drop k).head?=some acc[k]:=by rw[<-Qah (h:=hlt)];rfl
  by_cases heq:acc[k]=e.name;rw[show(!(acc[k]==e.name))=false by simpa using heq,zr7,Ev.kz1 (by rfl),yz1.yz4];have:ins acc e.name=acc:=by rw[hins,Qbt (by rw[hhead,heq])]
  rw[this];exact l3 _ (by omega);rw[show(!(acc[k]==e.name))=true by simpa using heq];exact put (by rw[hins,Qbu (by rw[hhead];simpa using heq)])
 have place:∀k,k<=acc.length->(acc.take k).all (λx=>Op.bytesLess x e.name)=true->Ev (λn=>z2v n (k:Int) e acc) (zch e.args (ins acc e.name)) :=
  down (Q:=λk=>(acc.take k).all (λx=>Op.bytesLess x e.name)=true->Ev (λn=>z2v n (k:Int) e acc) (zch e.args (ins acc e.name))) (λhall=>by
   rw[List.take_length]at hall;rw[Qat]at hall;rw[zqp,Ev.kz1 (by simp),yz1.yz4];refine fin _ (Qbs _) ?_ ?_;rw[List.take_length];exact(yqi hall).1
   rw[List.drop_length];exact(yqi hall).2) λk hk ihk hall=>by
   have hsplit:acc=acc.take k++acc.drop k:=(List.take_append_drop k acc).symm;rw[zqp,Ev.zz2 (by simpa using hk),Ev.yz2 (zz5 hk),yz1.yz4];cases hb:Op.bytesLess acc[k] e.name;rw[Qat]at hall;refine fin k (by omega) ?_ ?_
   conv=>lhs;rw[hsplit]
   rw[List.takeWhile_append_of_pos hall,<-Qah (h:=hk),List.takeWhile_cons_of_neg (by simp[hb]),List.append_nil]
   conv=>lhs;rw[hsplit]
   rw[List.dropWhile_append_of_pos hall,<-Qah (h:=hk),List.dropWhile_cons_of_neg (by simp[hb])];rw[zpw,Ev.zz2 (by rfl),wrk (by omega),yz1.yz4];refine ihk ?_;rw[<-zfn hk,List.all_append,hall];simp[hb]
 exact place 0 (Qbr _) (by simp)
noncomputable def zgb(e:yz1):List B8×Int:=if z97 e≠0 then ([],z97 e)else (zt7 e [],0)
theorem you{e:yz1}(hw:e.wf)(hs:e.size<=8388608):Ev (λn=>zd6 n e) (zgb e):=by
 rw[ydq,yz1.yz4,Ev.zz1 (zs4 hw hs)];unfold zgb;by_cases hc:z97 e=0
 case neg=>rw[Ev.zz2 (by simpa using hc),Ev.zz0,Qbt hc]
 obtain⟨_,hp,_⟩:=y63 hc;have hl:=y96 e []
 have hsort:Ev (λn=>zze n (zmq e [])) (zt7 e []):=by
  refine .same (λn =>?_) (.pure rfl);unfold zze;rw[Qbt (by simp at hl;omega),ybt,yn5]
 rw[Ev.kz1 (by simpa using hc),Qbu (by simpa using hc),Ev.zz1 (yr1 e [] (by simp;omega)),Ev.zz1 hsort,Ev.zz0]
theorem ynb{e:yz1}(hs:e.size<=8388608):Ev (λn=>zb9 n e) (zgb e):=by
 rw[y98,yz1.yz4,Ev.zz1 (zgq hs)];unfold zgb;by_cases hc:z97 e=0
 case neg=>rw[Ev.zz2 (by simpa using hc),Ev.zz1 (zgq hs),Ev.zz0,Qbt hc]
 obtain⟨_,hp,_⟩:=y63 hc;rw[Ev.kz1 (by simpa using hc),Qbu (by simpa using hc),Ev.zz1 (yok e [] (by simp;omega)),Ev.zz0]
theorem zt0{α:Type}{f:α->Nat}:∀{l:List α}{x:α},x∈l->f x<=(l.map f).sum
 |y::l,x,h=>by
  simp only[List.map_cons,List.sum_cons]
  rcases Qbi.1 h with h|h
  subst h;omega;have:=zt0 (f:=f) h;omega
theorem zsr{α:Type}{f:α->Nat}(hf:∀x,1<=f x):∀l:List α,l.length<=(l.map f).sum
 |[]=>by simp
 |x::l=>by have:=zsr hf l;have:=hf x;simp only[List.length_cons,List.map_cons,List.sum_cons];omega
def zeb(l:zz8):yz1:=⟨18,⟨0,⟨0,0⟩,false,[],[]⟩,[],l⟩
theorem zml(l:zz8):(zeb l).size=(l.map yz1.size).sum+12:=by
 rw[yz1.size_eq];show 1+yz0.size _+0+1+((l.map yz1.size).sum+1)+1=_;rw[yz0.size_eq];show 1+(1+(1+1+1)+1+(0+1)+(0+1)+1)+0+1+((l.map yz1.size).sum+1)+1=_;omega
theorem ynd{l:zz8}(h:∀x∈l,x.wf):(zeb l).wf:=by
 rw[yz1.z2g];refine⟨by show(IntKind.u8.min<=18∧18<=IntKind.u8.max);decide,?_,trivial,h⟩;rw[yz0.z2g];refine⟨by show(IntKind.u8.min<=0∧0<=IntKind.u8.max);decide,?_,trivial,trivial,by simp[zeb]⟩;rw[zz4.z2g];exact⟨by show(IntKind.i64.min<=0∧0<=IntKind.i64.max);decide,by show(IntKind.i64.min<=0∧0<=IntKind.i64.max);decide⟩
section
variable {p : kz0} {t : kzi} {r : zz6} {c : kz5} {a : kz3} {x : yzl} {e : yz1}
theorem yne(h:t∈p.attrs):t.size+2<=p.size:=by have:=zt0 (f:=kzi.size) h;rw[kz0.size_eq];omega
theorem zte(h:r∈p.rules):r.size+2<=p.size:=by have:=zt0 (f:=zz6.size) h;rw[kz0.size_eq];omega
theorem yo3:t.value.size+t.name.length+2<=t.size:=by rw[kzi.size_eq];omega
theorem zyl(h:c∈r.cases):c.size+2<=r.size:=by have:=zt0 (f:=kz5.size) h;rw[zz6.size_eq];omega
theorem z00o:r.name.length+2<=r.size:=by rw[zz6.size_eq];omega
theorem z00v{s:B8}(h:s∈r.params):s.length+2<=r.size:=by have:=zt0 (f:=λs:B8=>s.length+1) h;rw[zz6.size_eq];omega
theorem yr5:c.when_.size+2<=c.size:=by rw[kz5.size_eq];omega
theorem y5q(h:a∈c.do_):a.size+2<=c.size:=by have:=zt0 (f:=kz3.size) h;rw[kz5.size_eq];omega
theorem z00j:a.name.length+2<=a.size:=by rw[kz3.size_eq];omega
theorem ymy:(a.args.map yz1.size).sum+5<=a.size:=by rw[kz3.size_eq];omega
theorem yfw(h:x∈a.items):x.size+2<=a.size:=by have:=zt0 (f:=yzl.size) h;rw[kz3.size_eq];omega
theorem z00i:x.name.length+2<=x.size:=by rw[yzl.size_eq];omega
theorem ylw:(x.args.map yz1.size).sum+4<=x.size:=by rw[yzl.size_eq];omega
theorem zya:p.attrs.length<=p.size:=by have:=zsr (f:=kzi.size) (λx=>by rw[kzi.size_eq];omega) p.attrs;rw[kz0.size_eq];omega
theorem zr2:p.rules.length<=p.size:=by have:=zsr (f:=zz6.size) (λx=>by rw[zz6.size_eq];omega) p.rules;rw[kz0.size_eq];omega
theorem y2a:r.params.length<=r.size:=by have:=zsr (f:=λs:B8=>s.length+1) (λx=>by omega) r.params;rw[zz6.size_eq];omega
theorem y3e:r.cases.length<=r.size:=by have:=zsr (f:=kz5.size) (λx=>by rw[kz5.size_eq];omega) r.cases;rw[zz6.size_eq];omega
theorem y1j:c.do_.length<=c.size:=by have:=zsr (f:=kz3.size) (λx=>by rw[kz3.size_eq];omega) c.do_;rw[kz5.size_eq];omega
theorem ybm:a.items.length<=a.size:=by have:=zsr (f:=yzl.size) (λx=>by rw[yzl.size_eq];omega) a.items;rw[kz3.size_eq];omega
theorem z00u:a.args.length<=a.size:=by have:=zew a.args;have:=@ymy a;omega
theorem yxn:x.args.length<=x.size:=by have:=zew x.args;have:=@ylw x;omega
theorem z00t(h:p.wf)(ht:t∈p.attrs):t.value.wf:=by rw[kz0.z2g]at h;have:=h.1 t ht;rw[kzi.z2g]at this;exact this.2
theorem yxx(h:p.wf)(hr:r∈p.rules):r.wf:=by rw[kz0.z2g]at h;exact h.2 r hr
theorem ywd(h:r.wf)(hc:c∈r.cases):c.wf:=by rw[zz6.z2g]at h;exact h.2.2 c hc
theorem z011(h:c.wf):c.when_.wf:=by rw[kz5.z2g]at h;exact h.2.1
theorem yur(h:c.wf)(ha:a∈c.do_):a.wf:=by rw[kz5.z2g]at h;exact h.2.2 a ha
theorem z00m(h:a.wf):(0<=a.kind∧a.kind<=255)∧(0<=a.axis∧a.axis<=255):=by rw[kz3.z2g]at h;exact⟨h.1,h.2.1⟩
theorem wf_aa(h:a.wf):(zeb a.args).wf:=by rw[kz3.z2g]at h;exact ynd h.2.2.2.1
theorem wf_ae(h:a.wf)(he:e∈a.args):e.wf:=by rw[kz3.z2g]at h;exact h.2.2.2.1 e he
theorem z00r(h:a.wf)(hx:x∈a.items):x.wf:=by rw[kz3.z2g]at h;exact h.2.2.2.2 x hx
theorem wf_xa(h:x.wf):(zeb x.args).wf:=by rw[yzl.z2g]at h;exact ynd h.2.2
theorem wf_xe(h:x.wf)(he:e∈x.args):e.wf:=by rw[yzl.z2g]at h;exact h.2.2 e he
end
theorem y3t{α:Type}{L:Nat->Int->List α->Int->Option Int}{S:Nat->α->Option Bool}{l:List α}{p:α->Bool}
  (hL:∀n (k:Int),L (n+1) k l (l.length:Int)=pIf (decide (k<(l.length:Int))) ((ix l k).bind λx0=>(S n x0).bind λy1=>pIf y1 (some k) (L n (IntKind.i64.wrap (k+1)) l (l.length:Int))) (some (-1)))
  (hb:l.length<=8388608) (hS:∀x∈l,Ev (λn=>S n x) (p x)):∃i:Int,Ev (λn=>L n 0 l (l.length:Int)) i∧decide (i>=0)=l.any p:=by
 have:∀k,k<=l.length->∃i:Int,Ev (λn=>L n (k:Int) l (l.length:Int)) i∧decide (i>=0)=(l.drop k).any p :=
  down ⟨-1,by rw[Ev.zrp (λn=>hL n _),Ev.kz1 (by simp),Ev.zz0],by simp⟩ λk hk ⟨i,h1,h2⟩=>by
   cases hp:p l[k]with
   |true=>
    refine⟨k,?_,?_⟩;rw[Ev.zrp (λn=>hL n _),Ev.zz2 (by simpa using hk),Ev.yz2 (zz5 hk),Ev.zz1 (hS _ (Qad hk)),hp,Ev.zz2 rfl,Ev.zz0]
    rw[<-Qah (h:=hk),List.any_cons,hp];simp
   |false=>
    refine⟨i,?_,?_⟩;rw[Ev.zrp (λn=>hL n _),Ev.zz2 (by simpa using hk),Ev.yz2 (zz5 hk),Ev.zz1 (hS _ (Qad hk)),hp,Ev.kz1 rfl,wrk (by omega)];exact h1;rw[<-Qah (h:=hk),List.any_cons,hp,h2];simp
 simpa using this 0 (Qbr _)
theorem andF{c d:Bool}{A:Nat->Option Bool}(h:c=true->Ev A d):Ev (λn=>pIf c (A n) (some false)) (c&&d):=by
 cases c;exact Ev.pure rfl;exact h rfl
theorem ifB(c:Bool):(if c=true then true else false)=c:=by cases c <;> rfl
theorem yog{c:kz5}(hs:c.size<=8000000):∃b,Ev (λn=>z5s n c) b:=by
 have:=@yr5 c;have:=@y1j c;have list:∀l:zz8,Ev (λn=>z3f n l) (zeb l):=λl=>by rw[zy4,Ev.zz0];rfl
 have l1:∃b,Ev (λn=>yzu n 0 c) b:=by
  refine zr3 (L:=λn k=>yzu n k c) (len:=c.do_.length) ⟨false,by rw[zib,Ev.kz1 (by simp),Ev.zz0]⟩ λk hk v hv =>?_
  have ha:=Qad hk;have hsa:=y5q ha;have:=@ymy c.do_[k];have:=@ybm c.do_[k]
  have l3:∃b,Ev (λn=>zzu n 0 (k:Int) c) b:=by
   refine zr3 (L:=λn j=>zzu n j (k:Int) c) (len:=c.do_[k].items.length) ⟨v,by rw[zic,Ev.yz2 (zz5 hk),Ev.kz1 (by simp),wrk (by omega),kz5.yz4];exact hv⟩ λj hj w hw =>?_
   have:=yfw (Qad hj);have:=@ylw c.do_[k].items[j]
   have l4:∀b,∃d,Ev (λn=>z0i n (k:Int) (j:Int) b c) d:=λb=>by
    cases b;exact⟨w,by rw[zif,Ev.kz1 (by rfl),wrk (by omega),kz5.yz4];exact hw⟩;exact⟨true,by rw[zif,Ev.zz2 (by rfl),Ev.zz0]⟩
   obtain⟨g,hg⟩:=zny (e:=zeb c.do_[k].items[j].args) (by rw[zml];omega);simp only[zic,Ev.yz2 (zz5 hk)];simp only[Ev.zz2 (show decide ((j:Int)<(c.do_[k].items.length:Int))=true by simpa using hj),Ev.yz2 (zz5 hk),Ev.yz2 (zz5 hj),Ev.zz1 (list _),yz1.yz4,kz5.yz4,Ev.zz1 hg,Ev.pif];split <;> exact l4 _
  have l2:∀b,∃d,Ev (λn=>kzt n (k:Int) b c) d:=λb=>by
   cases b;obtain⟨d,hd⟩:=l3;exact⟨d,by rw[zia,Ev.kz1 (by rfl),kz5.yz4];exact hd⟩;exact⟨true,by rw[zia,Ev.zz2 (by rfl),Ev.zz0]⟩
  obtain⟨g,hg⟩:=zny (e:=zeb c.do_[k].args) (by rw[zml];omega);simp only[zib,Ev.zz2 (show decide ((k:Int)<(c.do_.length:Int))=true by simpa using hk),Ev.yz2 (zz5 hk),Ev.zz1 (list _),yz1.yz4,kz5.yz4,Ev.zz1 hg,Ev.pif];split;exact l2 _;split <;> exact l2 _
 have l0:∀b,∃d,Ev (λn=>z0e n b c) d:=λb=>by
  cases b;obtain⟨d,hd⟩:=l1;exact⟨d,by rw[zih,Ev.kz1 (by rfl),kz5.yz4];exact hd⟩;exact⟨true,by rw[zih,Ev.zz2 (by rfl),Ev.zz0]⟩
 obtain⟨g,hg⟩:=zny (e:=c.when_) (by omega);simp only[zyx,Ev.pif,kz5.yz4,yz1.yz4,Ev.zz1 hg];split <;> exact l0 _
theorem great{p:kz0}(hs:p.size<=8000000):∃b,Ev (λn=>zbg n p) b:=by
 have:=@zya p;have:=@zr2 p
 have l3:∃b,Ev (λn=>z1y n 0 p) b:=by
  refine zr3 (L:=λn k=>z1y n k p) (len:=p.rules.length) ⟨false,by rw[zo8,Ev.kz1 (by simp),Ev.zz0]⟩ λk hk v hv =>?_
  have hsa:=zte (Qad hk);have:=@y2a p.rules[k];have:=@y3e p.rules[k]
  have l6:∃b,Ev (λn=>z1v n 0 (k:Int) p.rules[k] p) b:=by
   refine zr3 (L:=λn j=>z1v n j (k:Int) p.rules[k] p) (len:=p.rules[k].cases.length) ⟨v,by rw[zok,Ev.kz1 (by simp),wrk (by omega)];exact hv⟩ λj hj w hw =>?_
   obtain⟨g,hg⟩:=yog (c:=p.rules[k].cases[j]) (by have:=zyl (Qad hj);omega);simp only[zok (a:=(j:Int)),Ev.zz2 (show decide ((j:Int)<(p.rules[k].cases.length:Int))=true by simpa using hj),Ev.yz2 (zz5 hj),kz5.yz4,Ev.zz1 hg];simp only[Ev.pif];split;exact⟨true,Ev.pure rfl⟩;exact⟨w,by rw[wrk (by omega)];exact hw⟩
  have l5:∃b,Ev (λn=>z1q n 0 (k:Int) p.rules[k] p) b:=by
   obtain⟨d,hd⟩:=l6;refine zr3 (L:=λn j=>z1q n j (k:Int) p.rules[k] p) (len:=p.rules[k].params.length) ⟨d,by rw[zo0,Ev.kz1 (by simp)];exact hd⟩ λj hj w hw =>?_
   simp only[zo0 (a:=(j:Int)),Ev.zz2 (show decide ((j:Int)<(p.rules[k].params.length:Int))=true by simpa using hj),Ev.yz2 (zz5 hj),Ev.pif];split;exact⟨true,Ev.pure rfl⟩;exact⟨w,by rw[wrk (by omega)];exact hw⟩
  have l4:∀b,∃d,Ev (λn=>z1n n (k:Int) b p.rules[k] p) d:=λb=>by
   cases b;obtain⟨d,hd⟩:=l5;exact⟨d,by rw[znh,Ev.kz1 (by rfl)];exact hd⟩;exact⟨true,by rw[znh,Ev.zz2 (by rfl),Ev.zz0]⟩
  simp only[zo8,Ev.zz2 (show decide ((k:Int)<(p.rules.length:Int))=true by simpa using hk),Ev.yz2 (zz5 hk),Ev.pif];split;exact l4 _;split <;> exact l4 _
 have l1:∃b,Ev (λn=>z1r n 0 p) b:=by
  obtain⟨d,hd⟩:=l3;refine zr3 (L:=λn k=>z1r n k p) (len:=p.attrs.length) ⟨d,by rw[zos,Ev.kz1 (by simp)];exact hd⟩ λk hk v hv =>?_
  have:=yne (Qad hk);have:=@yo3 p.attrs[k]
  have l2:∀b,∃d,Ev (λn=>z4n n (k:Int) b p) d:=λb=>by
   cases b;exact⟨v,by rw[zon,Ev.kz1 (by rfl),wrk (by omega)];exact hv⟩;exact⟨true,by rw[zon,Ev.zz2 (by rfl),Ev.zz0]⟩
  obtain⟨g,hg⟩:=zny (e:=p.attrs[k].value) (by omega);simp only[zos,Ev.zz2 (show decide ((k:Int)<(p.attrs.length:Int))=true by simpa using hk),Ev.yz2 (zz5 hk),yz1.yz4,Ev.zz1 hg,Ev.pif];split <;> exact l2 _
 have l0:∀b,∃d,Ev (λn=>z3k n b p) d:=λb=>by
  cases b;obtain⟨d,hd⟩:=l1;exact⟨d,by rw[znv,Ev.kz1 (by rfl)];exact hd⟩;exact⟨true,by rw[znv,Ev.zz2 (by rfl),Ev.zz0]⟩
 simp only[y9e,Ev.pif];split <;> exact l0 _
def y0b(c:kz5):Bool:=decide (10<c.do_.length)||c.do_.any λa=>decide (10<a.items.length)
def y0q(r:zz6):Bool:=decide (4<r.params.length)||(decide (6<r.cases.length)||r.cases.any y0b)
def y2g(p:kz0):Bool:=decide (20<p.attrs.length)||(decide (40<p.rules.length)||p.rules.any y0q)
theorem gt4{k:Nat}:decide ((k:Int)>4)=decide (4<k):=decide_eq_decide.2 (by omega)
theorem gt6{k:Nat}:decide ((k:Int)>6)=decide (6<k):=decide_eq_decide.2 (by omega)
theorem gt10{k:Nat}:decide ((k:Int)>10)=decide (10<k):=decide_eq_decide.2 (by omega)
theorem gt20{k:Nat}:decide ((k:Int)>20)=decide (20<k):=decide_eq_decide.2 (by omega)
theorem gt40{k:Nat}:decide ((k:Int)>40)=decide (40<k):=decide_eq_decide.2 (by omega)
theorem orB{c d:Bool}{γ:Type}{x y:γ}:(if (c||d)=true then x else y)=if c=true then x else if d=true then x else y:=by cases c <;> rfl
theorem ypp{p:kz0}(hs:p.size<=8000000):Ev (λn=>zd1 n p) (y2g p):=by
 have:=@zya p;have:=@zr2 p
 have l1:Ev (λn=>z34 n 0 p.rules (p.rules.length:Int)) (if p.rules.any y0q=true then true else false):=by
  refine zob (L:=λn k=>z34 n k p.rules (p.rules.length:Int)) (by rw[zqe,Ev.kz1 (by simp),Ev.zz0]) λk hk v hv =>?_
  have:=zte (Qad hk);have:=@y2a p.rules[k];have:=@y3e p.rules[k]
  have l3:Ev (λn=>z2u n 0 p.rules[k].cases p.rules (p.rules.length:Int) (k:Int) (p.rules[k].cases.length:Int)) (if p.rules[k].cases.any y0b=true then true else v):=by
   refine zob (L:=λn j=>z2u n j p.rules[k].cases p.rules (p.rules.length:Int) (k:Int) (p.rules[k].cases.length:Int)) (by rw[zpz,Ev.kz1 (by simp),wrk (by omega)];exact hv) λj hj w hw =>?_
   have:=zyl (Qad hj);have:=@y1j p.rules[k].cases[j]
   have l4:∀b,Ev (λn=>z5r n p.rules[k].cases p.rules (p.rules.length:Int) (k:Int) (p.rules[k].cases.length:Int) (j:Int) b) (if b=true then true else w):=λb=>by
    cases b;rw[zq6,Ev.kz1 (by rfl),wrk (by omega)];exact hw;rw[zq6,Ev.zz2 (by rfl),Ev.zz0];rfl
   obtain⟨i,h1,h2⟩:=y3t (S:=λn x=>z9n n x) (l:=p.rules[k].cases[j].do_) (p:=λa=>decide (10<a.items.length)) (L:=λn k l m=>kz9 n k l m) (λn k=>kz9.eq_2 _ _ _ n) (by omega) λx hx=>by
    rw[y7x,Ev.zz0];exact gt10
   have hc:Ev (λn=>zza n p.rules[k].cases[j].do_) (p.rules[k].cases[j].do_.any λa=>decide (10<a.items.length)):=by
    rw[zba,Ev.zz1 (by rw[zct];exact h1),Ev.zz0,h2]
   rw[zpz,Ev.zz2 (by simpa using hj),Ev.yz2 (zz5 hj),y0b,orB,Ev.pif,gt10];split;exact l4 true;rw[Ev.zz1 hc];exact l4 _
  have l2:∀b,Ev (λn=>z5p n p.rules (p.rules.length:Int) (k:Int) b p.rules[k]) (if b=true then true else if p.rules[k].cases.any y0b=true then true else v):=λb=>by
   cases b;rw[zro,Ev.kz1 (by rfl)];exact l3;rw[zro,Ev.zz2 (by rfl),Ev.zz0];rfl
  rw[zqe,Ev.zz2 (by simpa using hk),Ev.yz2 (zz5 hk),y0q,orB,orB,Ev.pif,gt4,gt6];split;exact l2 true;exact l2 _
 have l0:∀b,Ev (λn=>z62 n b p) (b||p.rules.any y0q):=λb=>by
  cases b;rw[zql,Ev.kz1 (by rfl),ifB]at *;exact l1;rw[zql,Ev.zz2 (by rfl),Ev.zz0];rfl
 rw[yeq,Ev.pif,gt20,gt40,y2g];split;rename_i h;rw[h];exact l0 true;rename_i h;simp only[h,Bool.false_or];exact l0 _
theorem ypn{p:kz0}(hs:p.size<=8000000):Ev (λn=>zcw n p) (y2g p):=by
 have:=@zya p;have:=@zr2 p
 have l1:Ev (λn=>z32 n 0 p) (if p.rules.any y0q=true then true else false):=by
  refine zob (L:=λn k=>z32 n k p) (by rw[zpr,Ev.kz1 (by simp),Ev.zz0]) λk hk v hv =>?_
  have:=zte (Qad hk);have:=@y2a p.rules[k];have:=@y3e p.rules[k]
  have l3:Ev (λn=>z35 n 0 (k:Int) p.rules[k] p) (if p.rules[k].cases.any y0b=true then true else v):=by
   refine zob (L:=λn j=>z35 n j (k:Int) p.rules[k] p) (by rw[zqk,Ev.kz1 (by simp),wrk (by omega)];exact hv) λj hj w hw =>?_
   have:=zyl (Qad hj);have:=@y1j p.rules[k].cases[j]
   have l4:Ev (λn=>z36 n 0 (j:Int) (k:Int) p.rules[k] p) (if (p.rules[k].cases[j].do_.any λa=>decide (10<a.items.length))=true then true else w):=by
    refine zob (L:=λn i=>z36 n i (j:Int) (k:Int) p.rules[k] p) (by rw[zrh,Ev.yz2 (zz5 hj),Ev.kz1 (by simp),wrk (by omega)];exact hw) λi hi u hu =>?_
    rw[zrh,Ev.yz2 (zz5 hj),Ev.zz2 (by simpa using hi),Ev.yz2 (zz5 hj),Ev.yz2 (zz5 hi),Ev.pif,gt10,wrk (by omega),Ev.zz0];split;rfl;exact hu
   rw[zqk,Ev.zz2 (by simpa using hj),Ev.yz2 (zz5 hj),y0b,orB,Ev.pif,gt10];split;exact Ev.pure rfl;exact l4
  have l2:∀b,Ev (λn=>z5y n (k:Int) b p.rules[k] p) (if b=true then true else if p.rules[k].cases.any y0b=true then true else v):=λb=>by
   cases b;rw[zr0,Ev.kz1 (by rfl)];exact l3;rw[zr0,Ev.zz2 (by rfl),Ev.zz0];rfl
  rw[zpr,Ev.zz2 (by simpa using hk),Ev.yz2 (zz5 hk),y0q,orB,orB,Ev.pif,gt4,gt6];split;exact l2 true;exact l2 _
 have l0:∀b,Ev (λn=>z6e n b p) (b||p.rules.any y0q):=λb=>by
  cases b;rw[zr8,Ev.kz1 (by rfl),ifB]at *;exact l1;rw[zr8,Ev.zz2 (by rfl),Ev.zz0];rfl
 rw[yfn,Ev.pif,gt20,gt40,y2g];split;rename_i h;rw[h];exact l0 true;rename_i h;simp only[h,Bool.false_or];exact l0 _
def kept:List B8:=[[116,114,117,101],[102,97,108,115,101],[115,120],[115,121],[115,122]]
def zbm(s:B8):Bool:=zkf s && !(kept.any λx=>s==x)
theorem zjk{s}(hs:s.length<=8388608):Ev (λn=>z26 n s) (zbm s):=by
 obtain⟨i,h1,h2⟩:=y3t (S:=λn x=>some (s==x)) (l:=kept) (p:=λx=>s==x) (L:=λn k l m=>kzb n k l s m) (λn k=>kzb.eq_2 _ _ _ _ n) (by decide) λx hx=>Ev.pure rfl
 have hc:Ev (λn=>zzl n kept s) (kept.any λx=>s==x):=by
  rw[zhj,Ev.zz1 (by rw[zbt];exact h1),Ev.zz0,h2]
 rw[yci,Ev.zz1 (yce hs),zbm];refine andF λ_ =>?_
 exact(Ev.zz1 hc).2 (Ev.pure rfl)
theorem zn1{s}(hs:s.length<=8388608):Ev (λn=>z3g n s) (zbm s):=by
 have h1:Ev (λn=>z9p n s) ((s==[115,120])||((s==[115,121])||(s==[115,122]))):=by
  rw[y74,Ev.pif];split;rename_i h;rw[h];exact Ev.pure rfl;rename_i h;rw[Ev.pif];simp only[h,Bool.false_or];split;rename_i h;rw[h];exact Ev.pure rfl;rename_i h;simp[h,Bool.false_or];exact Ev.pure rfl
 have e:zbm s=(zkf s&&(!(s==[116,114,117,101])&&(!(s==[102,97,108,115,101]) && !((s==[115,120])||((s==[115,121])||(s==[115,122])))))):=by
  simp_all[zbm,kept]
 rw[yf6,Ev.zz1 (y9k hs),e];refine andF λ_=>andF λ_=>andF λ_ =>?_
 rw[Ev.zz1 h1,Ev.zz0]
theorem yg6:zbm []=false:=rfl
theorem yq0{α:Type}{l:List α}:decide ((l.length:Int)>0) = !l.isEmpty:=by cases l <;> simp
theorem sc_t{α:Type}{k:Int}{l:List α}(h:¬(k=5↔l≠[])):(!((k==5)==decide ((l.length:Int)>0)))=true:=by
 grind[yq0]
theorem sc_f{α:Type}{k:Int}{l:List α}(h:k=5↔l≠[]):(!((k==5)==decide ((l.length:Int)>0)))=false:=by
 rw[yq0];grind
def own(k:Int):Int:=if k=2∨k=3 then 3 else if k=4∨k=6 then 1 else 0
theorem y4i{k}:Ev (λn=>z9w n k) (own k):=by
 have l1:∀b,Ev (λn=>z7t n b) (if b=true then 1 else 0):=λb=>by cases b <;> rw[y7f] <;> exact Ev.pure rfl
 have l0:∀b,Ev (λn=>z82 n k b) (if b=true then 3 else if k=4∨k=6 then 1 else 0):=λb=>by
  rw[y6m,Ev.pif];split;exact Ev.pure rfl;rw[Ev.pif];split
  simp_all
  rename_i h;have h:=by simpa using h
  refine(l1 _).to ?_
  grind
 rw[yhs,Ev.pif,own];split
 simp_all
 refine(l0 _).to ?_
 grind
theorem ygw{k}:Ev (λn=>zc5 n k) (own k):=by
 have l1:∀b,Ev (λn=>z7x n b) (if b=true then 1 else 0):=λb=>by cases b <;> rw[y7v] <;> exact Ev.pure rfl
 have l0:∀b,Ev (λn=>z7v n k b) (if b=true then 3 else if k=4∨k=6 then 1 else 0):=λb=>by
  rw[y6v,Ev.pif];split;exact Ev.pure rfl;rw[Ev.pif];split
  simp_all
  rename_i h;have h:=by simpa using h
  refine(l1 _).to ?_
  grind
 rw[yi0,Ev.pif,own];split
 simp_all
 refine(l0 _).to ?_
 grind
noncomputable def ybk(x:yzl):Bool:=decide (1<=x.kind)&&(decide (x.kind<=3)&&(zbm x.name&&(!x.args.isEmpty&&(z97 (zeb x.args)==0))))
def ypk(a:kz3):Prop:=(1<=a.kind∧a.kind<=6)∧(a.axis<=if a.kind=4∨a.kind=5 then 2 else 0)∧(if a.kind<=4 then zbm a.name=true else a.name=[])∧z97 (zeb a.args)=0∧(own a.kind<=a.args.length)∧(4<a.kind->(a.args.length:Int)=own a.kind)∧(a.kind=5↔a.items≠[])∧a.items.all ybk=true
noncomputable def z39(a:kz3):Bool:=@decide (ypk a) (Classical.propDecidable _)
theorem zv4{a}:z39 a=true↔ypk a:=@decide_eq_true_iff _ (Classical.propDecidable _)
theorem z9v{a}(h:¬ypk a):z39 a=false:=@decide_eq_false _ (Classical.propDecidable _) h
theorem ygr{l}(hw:(zeb l).wf)(hs:(l.map yz1.size).sum<=8000000):Ev (λn=>z05 n (zeb l)) (z97 (zeb l)):=zs4 hw (by rw[zml];omega)
theorem neI{k:Int}:(k != 0) = !(k==0):=rfl
theorem yp4{a:kz3}(hw:a.wf)(hs:a.size<=8000000):Ev (λn=>z4s n a) (z39 a):=by
 have:=@ymy a;have:=@ybm a;have:=@z00j a;have list:∀l:zz8,Ev (λn=>z3e n l) (zeb l):=λl=>by rw[yds,Ev.zz0];rfl
 obtain⟨⟨hk0,hk1⟩,hx0,hx1⟩:=z00m hw
 have l6:Ev (λn=>yzr n 0 a.items (a.items.length:Int)) (if a.items.all ybk=true then true else false):=by
  refine zay (L:=λn k=>yzr n k a.items (a.items.length:Int)) (by rw[zh6,Ev.kz1 (by simp),Ev.zz0]) λk hk v hv =>?_
  have hx:=Qad hk;have:=yfw hx;have:=@ylw a.items[k];have:=@z00i a.items[k]
  have l7:∀b,Ev (λn=>zzj n a.items (a.items.length:Int) (k:Int) (!b)) (if b=true then v else false):=λb=>by
   cases b;rw[zi5,Ev.zz2 (by rfl),Ev.zz0];rfl;rw[zi5,Ev.kz1 (by rfl),wrk (by omega)];exact hv
  rw[zh6,Ev.zz2 (by simpa using hk),Ev.yz2 (zz5 hk),ybk];generalize a.items[k]=x at *;by_cases h1:1<=x.kind
  case neg=>rw[Ev.zz2 (by simp;omega),Qbo h1];exact l7 false
  rw[Ev.kz1 (by simp;omega),Qbp h1];by_cases h2:x.kind<=3
  case neg=>rw[Ev.zz2 (by simp;omega),Qbo h2];exact l7 false
  rw[Ev.kz1 (by simp;omega),Qbp h2,Ev.zz1 (zjk (by omega))];cases h3:zbm x.name;exact l7 false;rw[Ev.kz1 (by rfl)];cases h4:x.args.isEmpty
  case true=>rw[Ev.zz2 (by rw[List.isEmpty_iff.1 h4];rfl)];exact l7 false
  have h4':x.args≠[]:=by intro h;rw[h]at h4;cases h4
  have h4':x.args.length≠0:=by intro h;exact h4' (List.length_eq_zero_iff.1 h)
  rw[Ev.kz1 (by simpa using h4'),Ev.zz1 (list _),yz1.yz4,Ev.zz1 (ygr (wf_xa (z00r hw hx)) (by omega)),neI];exact l7 _
 have l5:∀b,(b=false->((1<=a.kind∧a.kind<=6)∧(a.axis<=if a.kind=4∨a.kind=5 then 2 else 0)∧(if a.kind<=4 then zbm a.name=true else a.name=[])∧z97 (zeb a.args)=0∧(own a.kind<=a.args.length)∧(4<a.kind->(a.args.length:Int)=own a.kind)))->(b=true->¬ypk a)->Ev (λn=>zzn n b a) (z39 a):=λb hf ht=>by
  cases b
  case true=>rw[zha,Ev.zz2 (by rfl),Ev.zz0,z9v (ht rfl)]
  obtain⟨g1,g2,g3,g4,g5,g6⟩:=hf rfl;rw[zha,Ev.kz1 (by rfl)];by_cases h:a.kind=5↔a.items≠[]
  case neg=>
   rw[Ev.zz2 (sc_t h),Ev.zz0,z9v (λq=>h q.2.2.2.2.2.2.1)]
  rw[Ev.kz1 (sc_f h)];refine l6.to ?_;by_cases q:a.items.all ybk=true;rw[Qbt q,zv4.2 ⟨g1,g2,g3,g4,g5,g6,h,q⟩];rw[Qbu q,z9v (λz=>q z.2.2.2.2.2.2.2)]
 have l4:∀c:Bool,(c=decide (1<=a.kind∧a.kind<=4))->((1<=a.kind∧a.kind<=6)∧(a.axis<=if a.kind=4∨a.kind=5 then 2 else 0))->∀b,(b=false->(if a.kind<=4 then zbm a.name=true else a.name=[]))->(b=true->¬ypk a)->Ev (λn=>zzr n c b a) (z39 a):=λc hc hg b hf ht=>by
  cases b
  case true=>rw[zgy,Ev.zz2 (by rfl),Ev.zz0,z9v (ht rfl)]
  have g3:=hf rfl;rw[zgy,Ev.kz1 (by rfl),Ev.zz1 (list _),yz1.yz4,Ev.zz1 (ygr (wf_aa hw) (by omega))];by_cases h1:z97 (zeb a.args)=0
  case neg=>rw[Ev.zz2 (by simpa using h1)];exact l5 true (λh=>by cases h) λ_ q=>h1 q.2.2.2.1
  rw[Ev.kz1 (by simpa using h1),Ev.zz1 y4i];by_cases h2:own a.kind<=a.args.length
  case neg=>rw[Ev.zz2 (by simp;omega)];exact l5 true (λh=>by cases h) λ_ q=>h2 q.2.2.2.2.1
  rw[Ev.kz1 (by simp;omega)];cases hcc:c;rw[Ev.zz2 (by rfl),Ev.zz1 y4i];have hk4:4<a.kind:=by rw[hcc]at hc;have:=of_decide_eq_false hc.symm;omega
  refine l5 _ (λh=>⟨hg.1,hg.2,g3,h1,h2,λ_=>by simpa using h⟩) λh q =>?_
  have:=q.2.2.2.2.2.1 hk4;simp[this]at h;rw[Ev.kz1 (by rfl)];have hk4:a.kind<=4:=by rw[hcc]at hc;have:=Qac hc.symm;omega
  exact l5 _ (λh=>⟨hg.1,hg.2,g3,h1,h2,λh=>by omega⟩) λh=>by cases h
 have l3:∀c:Bool,(c=decide (1<=a.kind∧a.kind<=4))->∀b,(b=false->((1<=a.kind∧a.kind<=6)∧(a.axis<=if a.kind=4∨a.kind=5 then 2 else 0)))->(b=true->¬ypk a)->Ev (λn=>kzr n c b a) (z39 a):=λc hc b hf ht=>by
  cases b
  case true=>rw[zhe,Ev.zz2 (by rfl),Ev.zz0,z9v (ht rfl)]
  have hg:=hf rfl;rw[zhe,Ev.kz1 (by rfl),Ev.zz1 (zjk (by omega))];by_cases hk4:a.kind<=4;rw[Qbp (by omega)]at hc;subst hc;cases hn:zbm a.name;exact l4 true (by rw[Qbp (by omega)]) hg true (λh=>by cases h) λ_ q=>by have:=q.2.2.1;rw[Qbt hk4,hn]at this;cases this
  exact l4 true (by rw[Qbp (by omega)]) hg false (λ_=>by rw[Qbt hk4,hn]) λh=>by cases h
  rw[Qbo (by omega)]at hc;subst hc;cases hn:zbm a.name;rw[Ev.kz1 (by rfl),Ev.zz2 (by rfl)];refine l4 false (by rw[Qbo (by omega)]) hg _ (λh=>by rw[Qbu hk4];simpa using h) λh q =>?_
  have:=q.2.2.1;rw[Qbu hk4]at this;rw[this]at h;cases h
  exact l4 false (by rw[Qbo (by omega)]) hg true (λh=>by cases h) λ_ q=>by
   have:=q.2.2.1;rw[Qbu hk4]at this;rw[this,yg6]at hn;cases hn
 have l2:∀c:Bool,(c=decide (1<=a.kind∧a.kind<=4))->∀x:Int,x=(if a.kind=4∨a.kind=5 then 2 else 0)->Ev (λn=>kzy n c x a) (z39 a):=λc hc x hx=>by
  rw[zt1];by_cases h1:1<=a.kind
  case neg=>rw[Ev.zz2 (by simp;omega)];exact l3 c hc true (λh=>by cases h) λ_ q=>h1 q.1.1
  rw[Ev.kz1 (by simp;omega)];by_cases h2:a.kind<=6
  case neg=>rw[Ev.zz2 (by simp;omega)];exact l3 c hc true (λh=>by cases h) λ_ q=>h2 q.1.2
  rw[Ev.kz1 (by simp;omega),hx];refine l3 c hc _ (λh=>⟨⟨h1,h2⟩,by have:=of_decide_eq_false h;omega⟩) λh q =>?_
  have:=Qac h;have:=q.2.1;omega
 have l1:∀c:Bool,(c=decide (1<=a.kind∧a.kind<=4))->∀b:Bool,b=decide (a.kind=4∨a.kind=5)->Ev (λn=>zzz n c 0 b a) (z39 a):=λc hc b hb=>by
  rw[zsx];by_cases h:a.kind=4∨a.kind=5;rw[hb,Qbp h,Ev.zz2 rfl];exact l2 c hc _ (by rw[Qbt h]);rw[hb,Qbo h,Ev.kz1 rfl];exact l2 c hc _ (by rw[Qbu h])
 have l0:∀c:Bool,(c=decide (1<=a.kind∧a.kind<=4))->Ev (λn=>z00 n c a) (z39 a):=λc hc=>by
  rw[zrw];by_cases h:a.kind=4;rw[Ev.zz2 (by simpa using h)];exact l1 c hc true (by rw[Qbp (.inl h)]);rw[Ev.kz1 (by simpa using h)];exact l1 c hc _ (by by_cases q:a.kind=5 <;> simp[q,h])
 rw[zxk];by_cases h:1<=a.kind;rw[Ev.zz2 (by simpa using h)];exact l0 _ (by simp[h]);rw[Ev.kz1 (by simpa using h)];exact l0 _ (by simp[h])
theorem yoo{a:kz3}(hw:a.wf)(hs:a.size<=8000000):Ev (λn=>z9o n a) (z39 a):=by
 have:=@ymy a;have:=@ybm a;have:=@z00j a;have list:∀l:zz8,Ev (λn=>z3f n l) (zeb l):=λl=>by rw[zy4,Ev.zz0];rfl
 obtain⟨⟨hk0,hk1⟩,hx0,hx1⟩:=z00m hw
 have l6:Ev (λn=>z16 n 0 a) (if a.items.all ybk=true then true else false):=by
  refine zay (L:=λn k=>z16 n k a) (by rw[zmt,Ev.kz1 (by simp),Ev.zz0]) λk hk v hv =>?_
  have hx:=Qad hk;have:=yfw hx;have:=@ylw a.items[k];have:=@z00i a.items[k]
  have l7:∀b,Ev (λn=>yzs n (k:Int) (!b) a) (if b=true then v else false):=λb=>by
   cases b;rw[zlh,Ev.zz2 (by rfl),Ev.zz0];rfl;rw[zlh,Ev.kz1 (by rfl),wrk (by omega)];exact hv
  rw[zmt,Ev.zz2 (by simpa using hk),Ev.yz2 (zz5 hk),ybk];generalize a.items[k]=x at *;by_cases h1:1<=x.kind
  case neg=>rw[Ev.zz2 (by simp;omega),Qbo h1];exact l7 false
  rw[Ev.kz1 (by simp;omega),Qbp h1];by_cases h2:x.kind<=3
  case neg=>rw[Ev.zz2 (by simp;omega),Qbo h2];exact l7 false
  rw[Ev.kz1 (by simp;omega),Qbp h2,Ev.zz1 (zn1 (by omega))];cases h3:zbm x.name;exact l7 false;rw[Ev.kz1 (by rfl)];cases h4:x.args.isEmpty
  case true=>rw[Ev.zz2 (by rw[List.isEmpty_iff.1 h4];rfl)];exact l7 false
  have h4':x.args≠[]:=by intro h;rw[h]at h4;cases h4
  have h4':x.args.length≠0:=by intro h;exact h4' (List.length_eq_zero_iff.1 h)
  rw[Ev.kz1 (by simpa using h4'),Ev.zz1 (list _),yz1.yz4,Ev.zz1 (zgq (by rw[zml];omega)),neI];exact l7 _
 have l5:((1<=a.kind∧a.kind<=6)∧(a.axis<=if a.kind=4∨a.kind=5 then 2 else 0)∧(if a.kind<=4 then zbm a.name=true else a.name=[])∧z97 (zeb a.args)=0∧(own a.kind<=a.args.length)∧(4<a.kind->(a.args.length:Int)=own a.kind))->Ev (λn=>z2t n a) (z39 a):=λ⟨g1,g2,g3,g4,g5,g6⟩=>by
  rw[y0v];by_cases h:a.kind=5↔a.items≠[]
  case neg=>
   rw[Ev.zz2 (sc_t h),Ev.zz0,z9v (λq=>h q.2.2.2.2.2.2.1)]
  rw[Ev.kz1 (sc_f h)];refine l6.to ?_;by_cases q:a.items.all ybk=true;rw[Qbt q,zv4.2 ⟨g1,g2,g3,g4,g5,g6,h,q⟩];rw[Qbu q,z9v (λz=>q z.2.2.2.2.2.2.2)]
 have l4:(1<=a.kind∧a.kind<=6)∧(a.axis<=if a.kind=4∨a.kind=5 then 2 else 0)∧z97 (zeb a.args)=0∧own a.kind<=a.args.length->4<a.kind->∀b:Bool,(b=true↔¬(a.name=[]∧(a.args.length:Int)=own a.kind))->Ev (λn=>kzn n b a) (z39 a):=λ⟨g1,g2,g4,g5⟩ hk b hb=>by
  cases b
  case true=>rw[zn0,Ev.zz2 (by rfl),Ev.zz0,z9v];exact λq=>hb.1 rfl ⟨by have:=q.2.2.1;rwa[Qbu (by omega)]at this,q.2.2.2.2.2.1 hk⟩
  obtain⟨q1,q2⟩:=Classical.byContradiction λq=>Bool.noConfusion (hb.2 q)
  rw[zn0,Ev.kz1 (by rfl)];exact l5 ⟨g1,g2,by rw[Qbu (by omega)];exact q1,g4,g5,λ_=>q2⟩
 have l2:(1<=a.kind∧a.kind<=6)∧(a.axis<=if a.kind=4∨a.kind=5 then 2 else 0)∧z97 (zeb a.args)=0∧own a.kind<=a.args.length->Ev (λn=>z2h n a) (z39 a):=λhg=>by
  have nm:decide ((a.name.length:Int)>0) = !(a.name==[]):=by rw[yq0];cases a.name <;> rfl
  rw[y03];by_cases h5:a.kind=5
  ·rw[Ev.zz2 (by simpa using h5),zgl,Ev.zz2 (by rfl),nm];have ho:own a.kind=0:=by rw[h5];rfl
   by_cases hn:a.name=[]
   case neg=>rw[Ev.zz2 (by simpa using hn)];exact l4 hg (by omega) true (by simp[hn])
   rw[Ev.kz1 (by simpa using hn),Ev.zz2 (by simpa using h5)];by_cases ha:(a.args.length:Int)=0;rw[Ev.kz1 (Qbo (by omega)),Ev.kz1 (by rw[h5];rfl)];exact l4 hg (by omega) false ⟨λh=>(Bool.noConfusion h),λh=>(h ⟨hn,by rw[ho];exact ha⟩).elim⟩;rw[Ev.zz2 (Qbp (by omega))];exact l4 hg (by omega) true ⟨λ_ h=>ha (by rw[<-ho];exact h.2),λ_=>rfl⟩
  rw[Ev.kz1 (by simpa using h5)];by_cases h6:a.kind=6
  ·rw[show(a.kind==6)=true by simpa using h6,zgl,Ev.zz2 (by rfl),nm];have ho:own a.kind=1:=by rw[h6];rfl
   by_cases hn:a.name=[]
   case neg=>rw[Ev.zz2 (by simpa using hn)];exact l4 hg (by omega) true (by simp[hn])
   rw[Ev.kz1 (by simpa using hn),Ev.kz1 (by simpa using h5),Ev.zz2 (by simpa using h6)];have:=hg.2.2.2;refine l4 hg (by omega) _ ?_;rw[ho]at this ⊢;simp only[Qar,hn,true_and];omega
  rw[show(a.kind==6)=false by simpa using h6,zgl,Ev.kz1 (by rfl),Ev.zz1 (zn1 (by omega))];have hk:a.kind<=4:=by have:=hg.1;omega
  cases hn:zbm a.name;rw[Ev.zz2 (by rfl),Ev.zz0,z9v];exact λq=>by have:=q.2.2.1;rw[Qbt hk,hn]at this;cases this
  rw[Ev.kz1 (by rfl)];exact l5 ⟨hg.1,hg.2.1,by rw[Qbt hk,hn],hg.2.2.1,hg.2.2.2,λh=>by omega⟩
 have l1:(1<=a.kind∧a.kind<=6)∧z97 (zeb a.args)=0∧own a.kind<=a.args.length->∀b:Bool,b=decide (a.kind=4∨a.kind=5)->Ev (λn=>z2n n b a) (z39 a):=λhg b hb=>by
  rw[y09];by_cases h:a.kind=4∨a.kind=5;rw[hb,Qbp h,Ev.zz2 rfl];by_cases q:a.axis<=2;rw[Ev.kz1 (by simp;omega)];exact l2 ⟨hg.1,by rw[Qbt h];exact q,hg.2⟩;rw[Ev.zz2 (by simp;omega),Ev.zz0,z9v];exact λz=>q (by have:=z.2.1;rwa[Qbt h]at this)
  rw[hb,Qbo h,Ev.kz1 rfl];by_cases q:a.axis<=0;rw[Ev.kz1 (by simp;omega)];exact l2 ⟨hg.1,by rw[Qbu h];exact q,hg.2⟩;rw[Ev.zz2 (by simp;omega),Ev.zz0,z9v];exact λz=>q (by have:=z.2.1;rwa[Qbu h]at this)
 have l0:∀b:Bool,(b=false->(1<=a.kind∧a.kind<=6)∧z97 (zeb a.args)=0∧own a.kind<=a.args.length)->(b=true->¬ypk a)->Ev (λn=>yzz n b a) (z39 a):=λb hf ht=>by
  cases b
  case true=>rw[zmk,Ev.zz2 (by rfl),Ev.zz0,z9v (ht rfl)]
  rw[zmk,Ev.kz1 (by rfl)];by_cases h:a.kind=4;rw[Ev.zz2 (by simpa using h)];exact l1 (hf rfl) true (by rw[Qbp (.inl h)]);rw[Ev.kz1 (by simpa using h)];exact l1 (hf rfl) _ (by by_cases q:a.kind=5 <;> simp[q,h])
 rw[y73];by_cases h1:1<=a.kind
 case neg=>rw[Ev.zz2 (by simp;omega)];exact l0 true (λh=>by cases h) λ_ q=>h1 q.1.1
 rw[Ev.kz1 (by simp;omega)];by_cases h2:a.kind<=6
 case neg=>rw[Ev.zz2 (by simp;omega)];exact l0 true (λh=>by cases h) λ_ q=>h2 q.1.2
 rw[Ev.kz1 (by simp;omega),Ev.zz1 (list _),yz1.yz4,Ev.zz1 (zgq (by rw[zml];omega))];by_cases h3:z97 (zeb a.args)=0
 case neg=>rw[Ev.zz2 (by simpa using h3)];exact l0 true (λh=>by cases h) λ_ q=>h3 q.2.2.2.1
 rw[Ev.kz1 (by simpa using h3),Ev.zz1 ygw];exact l0 _ (λh=>⟨⟨h1,h2⟩,h3,by have:=of_decide_eq_false h;omega⟩) λh q=>by have:=Qac h;have:=q.2.2.2.2.1;omega
noncomputable def y62(c:kz5):Bool:=decide (1<=c.weight)&&(decide (c.weight<=1000000)&&((z97 c.when_==0)&&c.do_.all z39))
noncomputable def y1p(r:zz6):Bool:=zbm r.name&&(r.params.all zbm&&r.cases.all y62)
noncomputable def y9q(t:kzi):Bool:=zbm t.name&&(z97 t.value==0)
noncomputable def zhm(p:kz0):Bool:=p.attrs.all y9q&&p.rules.all y1p
theorem ifA{c d}{γ:Type}{x y:γ}:(if (c&&d)=true then x else y)=if c=true then (if d=true then x else y)else y:=by cases c <;> rfl
theorem yjx{p:kz0}(hw:p.wf)(hs:p.size<=8000000):Ev (λn=>z9u n p) (zhm p):=by
 have:=@zya p;have:=@zr2 p
 have l2:Ev (λn=>z0v n 0 p.rules (p.rules.length:Int)) (if p.rules.all y1p=true then true else false):=by
  refine zay (L:=λn k=>z0v n k p.rules (p.rules.length:Int)) (by rw[zm8,Ev.kz1 (by simp),Ev.zz0]) λk hk v hv =>?_
  have hr:=Qad hk;have:=zte hr;have:=@y2a p.rules[k];have:=@y3e p.rules[k];have:=@z00o p.rules[k];have hwr:=yxx hw hr
  have l4:Ev (λn=>z0x n 0 p.rules[k].cases p.rules (p.rules.length:Int) (k:Int) (p.rules[k].cases.length:Int)) (if p.rules[k].cases.all y62=true then v else false):=by
   refine zay (L:=λn j=>z0x n j p.rules[k].cases p.rules (p.rules.length:Int) (k:Int) (p.rules[k].cases.length:Int)) (by rw[zln,Ev.kz1 (by simp),wrk (by omega)];exact hv) λj hj w hv =>?_
   have hc:=Qad hj;have:=zyl hc;have:=@yr5 p.rules[k].cases[j];have:=@y1j p.rules[k].cases[j];have hwc:=ywd hwr hc
   have l6:Ev (λn=>z0s n 0 p.rules[k].cases[j].do_ p.rules[k].cases p.rules (p.rules.length:Int) (k:Int) (p.rules[k].cases.length:Int) (j:Int) (p.rules[k].cases[j].do_.length:Int)) (if p.rules[k].cases[j].do_.all z39=true then w else false):=by
    refine zay (L:=λn i=>z0s n i p.rules[k].cases[j].do_ p.rules[k].cases p.rules (p.rules.length:Int) (k:Int) (p.rules[k].cases.length:Int) (j:Int) (p.rules[k].cases[j].do_.length:Int)) (by rw[zmh,Ev.kz1 (by simp),wrk (by omega)];exact hv) λi hi u hu =>?_
    have ha:=Qad hi;have:=y5q ha;rw[zmh,Ev.zz2 (by simpa using hi),Ev.yz2 (zz5 hi),Ev.zz1 (yp4 (yur hwc ha) (by omega))];cases z39 p.rules[k].cases[j].do_[i];rw[Ev.zz2 (by rfl),Ev.zz0];rfl;rw[Ev.kz1 (by rfl),wrk (by omega)];exact hu
   have l5:∀b,Ev (λn=>z0r n p.rules[k].cases p.rules (p.rules.length:Int) (k:Int) (p.rules[k].cases.length:Int) (j:Int) (!b) p.rules[k].cases[j]) (if b=true then (if p.rules[k].cases[j].do_.all z39=true then w else false)else false):=λb=>by
    cases b;rw[zm5,Ev.zz2 (by rfl),Ev.zz0];rfl;rw[zm5,Ev.kz1 (by rfl)];exact l6
   rw[zln,Ev.zz2 (by simpa using hj),Ev.yz2 (zz5 hj),kz5.yz4,y62,ifA,ifA,ifA];by_cases h1:1<=p.rules[k].cases[j].weight
   case neg=>rw[Ev.zz2 (by simp;omega),Qbo h1];exact l5 false
   rw[Ev.kz1 (by simp;omega),Qbp h1];by_cases h2:p.rules[k].cases[j].weight<=1000000
   case neg=>rw[Ev.zz2 (by simp;omega),Qbo h2];exact l5 false
   rw[Ev.kz1 (by simp;omega),Qbp h2,yz1.yz4,Ev.zz1 (zs4 (z011 hwc) (by omega)),neI];exact l5 _
  have l3:∀b,Ev (λn=>z2l n p.rules (p.rules.length:Int) (k:Int) (!b) p.rules[k]) (if b=true then (if p.rules[k].cases.all y62=true then v else false)else false):=λb=>by
   cases b;rw[zms,Ev.zz2 (by rfl),Ev.zz0];rfl;rw[zms,Ev.kz1 (by rfl)];exact l4
  obtain⟨i,h1,h2⟩:=y3t (S:=λn x=>z7p n x) (l:=p.rules[k].params) (p:=λs => !zbm s) (L:=λn k l m=>kzg n k l m) (λn k=>kzg.eq_2 _ _ _ n) (by omega) λx hx=>by
   have:=z00v hx;rw[y1l,Ev.zz1 (zjk (by omega)),Ev.zz0]
  have hc:Ev (λn=>zzh n p.rules[k].params) (!p.rules[k].params.all zbm):=by
   rw[zfi,Ev.zz1 (by rw[zgr];exact h1),Ev.zz0,h2,<-List.not_all_eq_any_not]
  rw[zm8,Ev.zz2 (by simpa using hk),Ev.yz2 (zz5 hk),y1p,ifA,ifA,Ev.zz1 (zjk (by omega))];cases zbm p.rules[k].name;rw[Ev.zz2 (by rfl)];exact l3 false;rw[Ev.kz1 (by rfl),Ev.zz1 hc];exact l3 _
 have l0:Ev (λn=>z10 n 0 p.attrs (p.attrs.length:Int) p) (if p.attrs.all y9q=true then p.rules.all y1p else false):=by
  refine zay (L:=λn k=>z10 n k p.attrs (p.attrs.length:Int) p) (by rw[zmv,Ev.kz1 (by simp),<-ifB (p.rules.all y1p)];exact l2) λk hk v hv =>?_
  have ht:=Qad hk;have:=yne ht;have:=@yo3 p.attrs[k]
  have l1:∀b,Ev (λn=>z2r n p.attrs (p.attrs.length:Int) (k:Int) (!b) p) (if b=true then v else false):=λb=>by
   cases b;rw[zmx,Ev.zz2 (by rfl),Ev.zz0];rfl;rw[zmx,Ev.kz1 (by rfl),wrk (by omega)];exact hv
  rw[zmv,Ev.zz2 (by simpa using hk),Ev.yz2 (zz5 hk),y9q,ifA,Ev.zz1 (zjk (by omega))];cases zbm p.attrs[k].name;rw[Ev.zz2 (by rfl)];exact l1 false;rw[Ev.kz1 (by rfl),yz1.yz4,Ev.zz1 (zs4 (z00t hw ht) (by omega)),neI];exact l1 _
 rw[y78];refine l0.to ?_;rw[zhm];cases p.attrs.all y9q <;> rfl
theorem yij{p:kz0}(hw:p.wf)(hs:p.size<=8000000):Ev (λn=>z9q n p) (zhm p):=by
 have:=@zya p;have:=@zr2 p
 have l2:Ev (λn=>z0z n 0 p) (if p.rules.all y1p=true then true else false):=by
  refine zay (L:=λn k=>z0z n k p) (by rw[zm2,Ev.kz1 (by simp),Ev.zz0]) λk hk v hv =>?_
  have hr:=Qad hk;have:=zte hr;have:=@y2a p.rules[k];have:=@y3e p.rules[k];have:=@z00o p.rules[k];have hwr:=yxx hw hr
  have l4:Ev (λn=>z0w n 0 (k:Int) p.rules[k] p) (if p.rules[k].cases.all y62=true then v else false):=by
   refine zay (L:=λn j=>z0w n j (k:Int) p.rules[k] p) (by rw[zmp,Ev.kz1 (by simp),wrk (by omega)];exact hv) λj hj w hv =>?_
   have hc:=Qad hj;have:=zyl hc;have:=@yr5 p.rules[k].cases[j];have:=@y1j p.rules[k].cases[j];have hwc:=ywd hwr hc
   have l6:Ev (λn=>z13 n 0 (k:Int) (j:Int) p.rules[k].cases[j] p.rules[k] p) (if p.rules[k].cases[j].do_.all z39=true then w else false):=by
    refine zay (L:=λn i=>z13 n i (k:Int) (j:Int) p.rules[k].cases[j] p.rules[k] p) (by rw[zls,Ev.kz1 (by simp),wrk (by omega)];exact hv) λi hi u hu =>?_
    have ha:=Qad hi;have:=y5q ha;rw[zls,Ev.zz2 (by simpa using hi),Ev.yz2 (zz5 hi),Ev.zz1 (yoo (yur hwc ha) (by omega)),kz5.yz4];cases z39 p.rules[k].cases[j].do_[i];rw[Ev.zz2 (by rfl),Ev.zz0];rfl;rw[Ev.kz1 (by rfl),wrk (by omega)];exact hu
   have l5:∀b,Ev (λn=>z15 n (k:Int) (j:Int) (!b) p.rules[k].cases[j] p.rules[k] p) (if b=true then (if p.rules[k].cases[j].do_.all z39=true then w else false)else false):=λb=>by
    cases b;rw[zm6,Ev.zz2 (by rfl),Ev.zz0];rfl;rw[zm6,Ev.kz1 (by rfl),kz5.yz4];exact l6
   rw[zmp,Ev.zz2 (by simpa using hj),Ev.yz2 (zz5 hj),kz5.yz4,y62,ifA,ifA,ifA];by_cases h1:1<=p.rules[k].cases[j].weight
   case neg=>rw[Ev.zz2 (by simp;omega),Qbo h1];exact l5 false
   rw[Ev.kz1 (by simp;omega),Qbp h1];by_cases h2:p.rules[k].cases[j].weight<=1000000
   case neg=>rw[Ev.zz2 (by simp;omega),Qbo h2];exact l5 false
   rw[Ev.kz1 (by simp;omega),Qbp h2,yz1.yz4,Ev.zz1 (zgq (by omega)),neI];exact l5 _
  have l3:Ev (λn=>z0y n 0 (k:Int) p.rules[k] p) (if p.rules[k].params.all zbm=true then (if p.rules[k].cases.all y62=true then v else false)else false):=by
   refine zay (L:=λn j=>z0y n j (k:Int) p.rules[k] p) (by rw[zmn,Ev.kz1 (by simp)];exact l4) λj hj w hv =>?_
   have:=z00v (Qad hj);rw[zmn,Ev.zz2 (by simpa using hj),Ev.yz2 (zz5 hj),Ev.zz1 (zn1 (by omega))];cases zbm p.rules[k].params[j];rw[Ev.zz2 (by rfl),Ev.zz0];rfl;rw[Ev.kz1 (by rfl),wrk (by omega)];exact hv
  rw[zm2,Ev.zz2 (by simpa using hk),Ev.yz2 (zz5 hk),y1p,ifA,ifA,Ev.zz1 (zn1 (by omega))];cases zbm p.rules[k].name;rw[Ev.zz2 (by rfl),Ev.zz0];rfl;rw[Ev.kz1 (by rfl)];exact l3
 have l0:Ev (λn=>z0u n 0 p) (if p.attrs.all y9q=true then p.rules.all y1p else false):=by
  refine zay (L:=λn k=>z0u n k p) (by rw[zmb,Ev.kz1 (by simp),<-ifB (p.rules.all y1p)];exact l2) λk hk v hv =>?_
  have ht:=Qad hk;have:=yne ht;have:=@yo3 p.attrs[k]
  have l1:∀b,Ev (λn=>z2i n (k:Int) (!b) p) (if b=true then v else false):=λb=>by
   cases b;rw[zmo,Ev.zz2 (by rfl),Ev.zz0];rfl;rw[zmo,Ev.kz1 (by rfl),wrk (by omega)];exact hv
  rw[zmb,Ev.zz2 (by simpa using hk),Ev.yz2 (zz5 hk),y9q,ifA,Ev.zz1 (zn1 (by omega))];cases zbm p.attrs[k].name;rw[Ev.zz2 (by rfl)];exact l1 false;rw[Ev.kz1 (by rfl),Ev.yz2 (zz5 hk),yz1.yz4,Ev.zz1 (zgq (by omega)),neI];exact l1 _
 rw[y7e];refine l0.to ?_;rw[zhm];cases p.attrs.all y9q <;> rfl
def yzm(p:kz0):List B8:=p.attrs.map (·.name)
def zz7(p:kz0):List B8:=p.rules.map (·.name)
theorem zyu{α β:Type}{g}(l:List α)(s:List β):l.foldl (λs x=>s++[g x]) s=s++l.map g:=by
 induction l generalizing s with
 |nil=>simp
 |cons x l ih=>simp[ih]
theorem zw4{p}(hs:p.size<=8000000):Ev (λn=>z71 n p) (yzm p):=by
 have:=@zya p;rw[ych]
 refine yb0 (L:=λn k s=>z4p n k p s) (xs:=p.attrs) (f:=λs x=>s++[x.name]) (I:=λk s=>s.length=k) rfl (λ_=>by
  rw[zoa,Ev.kz1 (by simp),Ev.zz0,zyu];rfl) λk hk s hi=>⟨by simp[hi],λh=>by
  rw[zoa,Ev.zz2 (by simpa using hk),Ev.yz2 (zz5 hk),Ev.yz2 (z8j (by simp;omega)),wrk (by omega)];exact h⟩
theorem zug{p}(hs:p.size<=8000000):Ev (λn=>z77 n p) (zz7 p):=by
 have:=@zr2 p;rw[yb3]
 refine yb0 (L:=λn k s=>z3p n k p s) (xs:=p.rules) (f:=λs x=>s++[x.name]) (I:=λk s=>s.length=k) rfl (λ_=>by
  rw[zo6,Ev.kz1 (by simp),Ev.zz0,zyu];rfl) λk hk s hi=>⟨by simp[hi],λh=>by
  rw[zo6,Ev.zz2 (by simpa using hk),Ev.yz2 (zz5 hk),Ev.yz2 (z8j (by simp;omega)),wrk (by omega)];exact h⟩
def atI(l:List B8)(s:B8):Int:=match l.idxOf? s with
 |some i=>(i:Int)
 |none => -1
theorem yxt{l s} : -1<=atI l s:=by unfold atI;split <;> omega
theorem zlo(x)(l)(s):atI (x::l) s=if x=s then 0 else if atI l s = -1 then -1 else atI l s+1:=by
 unfold atI;rw[List.idxOf?_cons];by_cases h:x=s;subst h;simp
 grind
theorem ybd{L:Nat->Int->Option Int}{l s}{p:B8->Bool}(hp:∀x,p x=true↔x=s)(hb:l.length<=8388608)
  (hL:∀n (k:Int),L (n+1) k=pIf (decide (k<(l.length:Int))) ((ix l k).bind λx0=>pIf (p x0) (some k) (L n (IntKind.i64.wrap (k+1)))) (some (-1))):Ev (λn=>L n 0) (atI l s):=by
 have:∀k,k<=l.length->Ev (λn=>L n (k:Int)) (if atI (l.drop k) s = -1 then -1 else atI (l.drop k) s+k) :=
  down (by rw[Ev.zrp (λn=>hL n _),Ev.kz1 (by simp),Ev.zz0,List.drop_length];rfl) λk hk ih=>by
   rw[Ev.zrp (λn=>hL n _),Ev.zz2 (by simpa using hk),Ev.yz2 (zz5 hk),<-Qah (h:=hk),zlo];by_cases h:l[k]=s
   simp_all[Ev.zz2,Ev.zz0]
   rw[Ev.kz1 (by grind),wrk (by omega),Qbu h];refine ih.to ?_;by_cases q:atI (l.drop (k+1)) s = -1;simp[q];have h0:=@yxt (l.drop (k+1)) s;omega
 grind
theorem zlq{l s}(hb:l.length<=8388608):Ev (λn=>z4t n l s) (atI l s):=by
 rw[ymb];exact ybd (L:=λn k=>zb4 n k s l) (p:=λx=>x==s) (λx=>by simp) hb λn k=>zb4.eq_2 _ _ _ n
theorem ysc{l s}(hb:l.length<=8388608):Ev (λn=>kz8 n l s) (atI l s):=by
 rw[zbt];exact ybd (L:=λn k=>kzb n k l s (l.length:Int)) (p:=λx=>s==x) (λx=>by simp;exact eq_comm) hb λn k=>kzb.eq_2 _ _ _ _ n
theorem zg9{l s}:atI l s<0↔s∉l:=by
 induction l with
 |nil=>simp[atI]
 |cons x l ih=>
  rw[zlo];by_cases h:x=s;subst h;simp
  grind
theorem ybb{l s}(h:s∈l):∃i:Nat,∃(hi:i<l.length),atI l s=(i:Int)∧l[i]=s∧∀j (hj:j<i),l[j]'(by omega)≠s:=by
 induction l with
 |nil=>cases h
 |cons x l ih=>
  rw[zlo];by_cases q:x=s;exact⟨0,by simp,by simp[q],by simpa using q,λj hj=>by omega⟩;have hm:s∈l:=by grind
  obtain⟨i,hi,h1,h2,h3⟩:=ih hm;refine⟨i+1,by simp;omega,?_,by simpa using h2,λj hj =>?_⟩
  grind
  grind
end Go.Proofs.YthphaiccgnkobaaGreatDoor
