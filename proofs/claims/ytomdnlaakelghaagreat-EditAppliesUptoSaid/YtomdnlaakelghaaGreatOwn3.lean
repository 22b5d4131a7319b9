/-
  What each function comes to, by its body, by a program of this repo.
-/
import Derived.Test.YtomdnlaakelghaaGreatLib7
import Derived.Test.YtomdnlaakelghaaGreatOwn2
import Derived.Lib.Bytealg
import Derived.Test.YtomdnlaakelghaaGreatLib8
import Derived.Test.YtomdnlaakelghaaGreatOwn0
namespace Go.Proofs.YtomdnlaakelghaaGreat
open Go Go.Ab
set_option linter.unusedVariables false
theorem y8i {r} (a0 a1):type_of% (evS (z99 · a0 a1) r (z99.eq_2 a0 a1)):=evS _ _ λ_=>rfl
theorem znv {r} (a0 a1 a2):type_of% (evS (z2d · a0 a1 a2) r (z2d.eq_2 a0 a1 a2)):=evS _ _ λ_=>rfl
theorem zo0 {r} (a0 a1 a2):type_of% (evS (z45 · a0 a1 a2) r (z45.eq_2 a0 a1 a2)):=evS _ _ λ_=>rfl
theorem ybb {r} (a0):type_of% (evS (z7f · a0) r (z7f.eq_2 a0)):=evS _ _ λ_=>rfl
theorem zi7 {r} (a0 a1 a2):type_of% (evS (z3v · a0 a1 a2) r (z3v.eq_2 a0 a1 a2)):=evS _ _ λ_=>rfl
theorem zi3 {r} (a0 a1 a2 a3):type_of% (evS (z4j · a0 a1 a2 a3) r (z4j.eq_2 a0 a1 a2 a3)):=evS _ _ λ_=>rfl
theorem zu6 {r} (a0):type_of% (evS (zb3 · a0) r (zb3.eq_2 a0)):=evS _ _ λ_=>rfl
theorem yal {r} (a0 a1):type_of% (evS (z98 · a0 a1) r (z98.eq_2 a0 a1)):=evS _ _ λ_=>rfl
theorem zox {r} (a0 a1 a2):type_of% (evS (z0x · a0 a1 a2) r (z0x.eq_2 a0 a1 a2)):=evS _ _ λ_=>rfl
theorem zou {r} (a0 a1 a2):type_of% (evS (z4d · a0 a1 a2) r (z4d.eq_2 a0 a1 a2)):=evS _ _ λ_=>rfl
theorem y84 {r} (a0):type_of% (evS (z7d · a0) r (z7d.eq_2 a0)):=evS _ _ λ_=>rfl
theorem zp1 {r} (a0 a1 a2):type_of% (evS (z4f · a0 a1 a2) r (z4f.eq_2 a0 a1 a2)):=evS _ _ λ_=>rfl
theorem ztr {r} (a0):type_of% (evS (z41 · a0) r (z41.eq_2 a0)):=evS _ _ λ_=>rfl
theorem zg3 {r} (a0):type_of% (evS (zzs · a0) r (zzs.eq_2 a0)):=evS _ _ λ_=>rfl
theorem zww {r} (a0):type_of% (evS (z6g · a0) r (z6g.eq_2 a0)):=evS _ _ λ_=>rfl
theorem zj4 {r} (a0 a1):type_of% (evS (z0q · a0 a1) r (z0q.eq_2 a0 a1)):=evS _ _ λ_=>rfl
theorem zj3 {r} (a0 a1):type_of% (evS (zzy · a0 a1) r (zzy.eq_2 a0 a1)):=evS _ _ λ_=>rfl
theorem zj9 {r} (a0 a1 a2):type_of% (evS (kzx · a0 a1 a2) r (kzx.eq_2 a0 a1 a2)):=evS _ _ λ_=>rfl
theorem zj1 {r} (a0 a1 a2):type_of% (evS (zzx · a0 a1 a2) r (zzx.eq_2 a0 a1 a2)):=evS _ _ λ_=>rfl
theorem zj0 {r} (a0 a1 a2 a3):type_of% (evS (z0m · a0 a1 a2 a3) r (z0m.eq_2 a0 a1 a2 a3)):=evS _ _ λ_=>rfl
theorem y7m {r} (a0):type_of% (evS (z9a · a0) r (z9a.eq_2 a0)):=evS _ _ λ_=>rfl
theorem zoj {r} (a0 a1):type_of% (evS (z4c · a0 a1) r (z4c.eq_2 a0 a1)):=evS _ _ λ_=>rfl
theorem zoh {r} (a0 a1):type_of% (evS (z2g · a0 a1) r (z2g.eq_2 a0 a1)):=evS _ _ λ_=>rfl
theorem zoa {r} (a0 a1 a2):type_of% (evS (z3s · a0 a1 a2) r (z3s.eq_2 a0 a1 a2)):=evS _ _ λ_=>rfl
theorem zng {r} (a0 a1):type_of% (evS (z29 · a0 a1) r (z29.eq_2 a0 a1)):=evS _ _ λ_=>rfl
theorem zo2 {r} (a0 a1 a2 a3):type_of% (evS (z2f · a0 a1 a2 a3) r (z2f.eq_2 a0 a1 a2 a3)):=evS _ _ λ_=>rfl
theorem znp {r} (a0 a1 a2 a3):type_of% (evS (z2a · a0 a1 a2 a3) r (z2a.eq_2 a0 a1 a2 a3)):=evS _ _ λ_=>rfl
theorem zof {r} (a0 a1 a2 a3):type_of% (evS (z22 · a0 a1 a2 a3) r (z22.eq_2 a0 a1 a2 a3)):=evS _ _ λ_=>rfl
theorem ya0 {r} (a0):type_of% (evS (zax · a0) r (zax.eq_2 a0)):=evS _ _ λ_=>rfl
theorem zn8 {r} (a0 a1):type_of% (evS (z4h · a0 a1) r (z4h.eq_2 a0 a1)):=evS _ _ λ_=>rfl
theorem zo1 {r} (a0 a1 a2):type_of% (evS (z2b · a0 a1 a2) r (z2b.eq_2 a0 a1 a2)):=evS _ _ λ_=>rfl
theorem yfv {r} (a0):type_of% (evS (zak · a0) r (zak.eq_2 a0)):=evS _ _ λ_=>rfl
theorem zrk {r} (a0 a1 a2 a3 a4 a5 a6 a7 a8 a9 a10 a11 a12 a13):type_of% (evS (z6r · a0 a1 a2 a3 a4 a5 a6 a7 a8 a9 a10 a11 a12 a13) r (z6r.eq_2 a0 a1 a2 a3 a4 a5 a6 a7 a8 a9 a10 a11 a12 a13)):=evS _ _ λ_=>rfl
theorem ygk {r} (a0):type_of% (evS (z2m · a0) r (z2m.eq_2 a0)):=evS _ _ λ_=>rfl
theorem zrb {r} (a0 a1 a2 a3 a4 a5 a6 a7 a8 a9 a10 a11 a12 a13 a14 a15 a16 a17 a18 a19):type_of% (evS (z5x · a0 a1 a2 a3 a4 a5 a6 a7 a8 a9 a10 a11 a12 a13 a14 a15 a16 a17 a18 a19) r (z5x.eq_2 a0 a1 a2 a3 a4 a5 a6 a7 a8 a9 a10 a11 a12 a13 a14 a15 a16 a17 a18 a19)):=evS _ _ λ_=>rfl
theorem zx1 {r} (a0):type_of% (evS (z36 · a0) r (z36.eq_2 a0)):=evS _ _ λ_=>rfl
theorem zxo {r} (a0):type_of% (evS (z0y · a0) r (z0y.eq_2 a0)):=evS _ _ λ_=>rfl
theorem zk8 {r} (a0 a1 a2 a3 a4 a5 a6 a7):type_of% (evS (z1i · a0 a1 a2 a3 a4 a5 a6 a7) r (z1i.eq_2 a0 a1 a2 a3 a4 a5 a6 a7)):=evS _ _ λ_=>rfl
theorem zka {r} (a0 a1 a2 a3 a4 a5 a6 a7 a8 a9 a10 a11 a12 a13 a14 a15 a16 a17 a18 a19):type_of% (evS (z1l · a0 a1 a2 a3 a4 a5 a6 a7 a8 a9 a10 a11 a12 a13 a14 a15 a16 a17 a18 a19) r (z1l.eq_2 a0 a1 a2 a3 a4 a5 a6 a7 a8 a9 a10 a11 a12 a13 a14 a15 a16 a17 a18 a19)):=evS _ _ λ_=>rfl
theorem zjx {r} (a0 a1 a2 a3 a4 a5 a6 a7 a8 a9 a10 a11 a12 a13 a14 a15 a16 a17 a18 a19 a20 a21 a22 a23 a24 a25 a26):type_of% (evS (z13 · a0 a1 a2 a3 a4 a5 a6 a7 a8 a9 a10 a11 a12 a13 a14 a15 a16 a17 a18 a19 a20 a21 a22 a23 a24 a25 a26) r (z13.eq_2 a0 a1 a2 a3 a4 a5 a6 a7 a8 a9 a10 a11 a12 a13 a14 a15 a16 a17 a18 a19 a20 a21 a22 a23 a24 a25 a26)):=evS _ _ λ_=>rfl
theorem yhd {r} (a0):type_of% (evS (zah · a0) r (zah.eq_2 a0)):=evS _ _ λ_=>rfl
theorem zqz {r} (a0 a1 a2 a3 a4 a5):type_of% (evS (z69 · a0 a1 a2 a3 a4 a5) r (z69.eq_2 a0 a1 a2 a3 a4 a5)):=evS _ _ λ_=>rfl
theorem zqx {r} (a0 a1 a2 a3 a4 a5):type_of% (evS (z5p · a0 a1 a2 a3 a4 a5) r (z5p.eq_2 a0 a1 a2 a3 a4 a5)):=evS _ _ λ_=>rfl
theorem y44 {r} (a0):type_of% (evS (z9p · a0) r (z9p.eq_2 a0)):=evS _ _ λ_=>rfl
theorem zcm {r} (a0):type_of% (evS (kzg · a0) r (kzg.eq_2 a0)):=evS _ _ λ_=>rfl
theorem zat {r} (a0):type_of% (evS (zzb · a0) r (zzb.eq_2 a0)):=evS _ _ λ_=>rfl
theorem yen {r} (a0):type_of% (evS (zcx · a0) r (zcx.eq_2 a0)):=evS _ _ λ_=>rfl
theorem zq0 {r} (a0 a1):type_of% (evS (z63 · a0 a1) r (z63.eq_2 a0 a1)):=evS _ _ λ_=>rfl
theorem zqn {r} (a0 a1 a2):type_of% (evS (z3f · a0 a1 a2) r (z3f.eq_2 a0 a1 a2)):=evS _ _ λ_=>rfl
theorem zr5 {r} (a0 a1 a2 a3 a4):type_of% (evS (z5j · a0 a1 a2 a3 a4) r (z5j.eq_2 a0 a1 a2 a3 a4)):=evS _ _ λ_=>rfl
theorem zre {r} (a0 a1 a2 a3 a4 a5):type_of% (evS (z3e · a0 a1 a2 a3 a4 a5) r (z3e.eq_2 a0 a1 a2 a3 a4 a5)):=evS _ _ λ_=>rfl
theorem zpf {r} (a0 a1 a2 a3 a4 a5 a6):type_of% (evS (z65 · a0 a1 a2 a3 a4 a5 a6) r (z65.eq_2 a0 a1 a2 a3 a4 a5 a6)):=evS _ _ λ_=>rfl
theorem ygv {r} (a0):type_of% (evS (zap · a0) r (zap.eq_2 a0)):=evS _ _ λ_=>rfl
theorem zpj {r} (a0 a1):type_of% (evS (z8u · a0 a1) r (z8u.eq_2 a0 a1)):=evS _ _ λ_=>rfl
theorem zpp {r} (a0 a1):type_of% (evS (z0g · a0 a1) r (z0g.eq_2 a0 a1)):=evS _ _ λ_=>rfl
theorem zra {r} (a0 a1 a2 a3 a4):type_of% (evS (z6u · a0 a1 a2 a3 a4) r (z6u.eq_2 a0 a1 a2 a3 a4)):=evS _ _ λ_=>rfl
theorem zqf {r} (a0 a1 a2):type_of% (evS (zzz · a0 a1 a2) r (zzz.eq_2 a0 a1 a2)):=evS _ _ λ_=>rfl
theorem zbw {r} (a0 a1):type_of% (evS (kzk · a0 a1) r (kzk.eq_2 a0 a1)):=evS _ _ λ_=>rfl
theorem zhm {r} (a0 a1):type_of% (evS (zzl · a0 a1) r (zzl.eq_2 a0 a1)):=evS _ _ λ_=>rfl
theorem y7e {r} (a0):type_of% (evS (z2n · a0) r (z2n.eq_2 a0)):=evS _ _ λ_=>rfl
theorem y53 {r} (a0):type_of% (evS (z7p · a0) r (z7p.eq_2 a0)):=evS _ _ λ_=>rfl
theorem zmn {r} (a0 a1 a2 a3 a4):type_of% (evS (z34 · a0 a1 a2 a3 a4) r (z34.eq_2 a0 a1 a2 a3 a4)):=evS _ _ λ_=>rfl
theorem zvc {r} (a0):type_of% (evS (zcz · a0) r (zcz.eq_2 a0)):=evS _ _ λ_=>rfl
theorem zqr {r} (a0 a1 a2):type_of% (evS (zzt · a0 a1 a2) r (zzt.eq_2 a0 a1 a2)):=evS _ _ λ_=>rfl
theorem zr9 {r} (a0 a1 a2):type_of% (evS (z6b · a0 a1 a2) r (z6b.eq_2 a0 a1 a2)):=evS _ _ λ_=>rfl
theorem zqt {r} (a0 a1 a2):type_of% (evS (z5m · a0 a1 a2) r (z5m.eq_2 a0 a1 a2)):=evS _ _ λ_=>rfl
theorem zpx {r} (a0 a1 a2):type_of% (evS (z8n · a0 a1 a2) r (z8n.eq_2 a0 a1 a2)):=evS _ _ λ_=>rfl
theorem zr2 {r}:type_of% (evS (z8t ·) r (z8t.eq_2)):=evS _ _ λ_=>rfl
theorem zqs {r} (a0):type_of% (evS (z0d · a0) r (z0d.eq_2 a0)):=evS _ _ λ_=>rfl
theorem y2i {r} (a0):type_of% (evS (z5v · a0) r (z5v.eq_2 a0)):=evS _ _ λ_=>rfl
theorem zl1 {r} (a0 a1 a2 a3 a4):type_of% (evS (z1r · a0 a1 a2 a3 a4) r (z1r.eq_2 a0 a1 a2 a3 a4)):=evS _ _ λ_=>rfl
theorem zuu {r} (a0 a1):type_of% (evS (z1w · a0 a1) r (z1w.eq_2 a0 a1)):=evS _ _ λ_=>rfl
theorem ygn {r} (a0):type_of% (evS (zal · a0) r (zal.eq_2 a0)):=evS _ _ λ_=>rfl
theorem yjw {r} (a0 a1):type_of% (evS (zee · a0 a1) r (zee.eq_2 a0 a1)):=evS _ _ λ_=>rfl
theorem y4j {r} (a0 a1):type_of% (evS (z7k · a0 a1) r (z7k.eq_2 a0 a1)):=evS _ _ λ_=>rfl
theorem ya2 {r} (a0):type_of% (evS (zbd · a0) r (zbd.eq_2 a0)):=evS _ _ λ_=>rfl
theorem zxn {r} (a0):type_of% (evS (z0v · a0) r (z0v.eq_2 a0)):=evS _ _ λ_=>rfl
theorem yhl {r} (a0):type_of% (evS (zad · a0) r (zad.eq_2 a0)):=evS _ _ λ_=>rfl
theorem zr4 {r} (a0 a1 a2):type_of% (evS (z6w · a0 a1 a2) r (z6w.eq_2 a0 a1 a2)):=evS _ _ λ_=>rfl
theorem zrm {r} (a0 a1 a2 a3):type_of% (evS (z5i · a0 a1 a2 a3) r (z5i.eq_2 a0 a1 a2 a3)):=evS _ _ λ_=>rfl
theorem zrn {r} (a0 a1 a2 a3):type_of% (evS (z64 · a0 a1 a2 a3) r (z64.eq_2 a0 a1 a2 a3)):=evS _ _ λ_=>rfl
theorem y0w {r} (a0):type_of% (evS (z1o · a0) r (z1o.eq_2 a0)):=evS _ _ λ_=>rfl
theorem ybi {r} (a0):type_of% (evS (zau · a0) r (zau.eq_2 a0)):=evS _ _ λ_=>rfl
theorem zy1 {r} (a0 a1):type_of% (evS (z43 · a0 a1) r (z43.eq_2 a0 a1)):=evS _ _ λ_=>rfl
theorem ydq {r} (a0):type_of% (evS (zcw · a0) r (zcw.eq_2 a0)):=evS _ _ λ_=>rfl
theorem ygl {r} (a0 a1):type_of% (evS (z2k · a0 a1) r (z2k.eq_2 a0 a1)):=evS _ _ λ_=>rfl
theorem zps {r} (a0 a1 a2):type_of% (evS (z0f · a0 a1 a2) r (z0f.eq_2 a0 a1 a2)):=evS _ _ λ_=>rfl
theorem zpy {r} (a0 a1 a2 a3):type_of% (evS (z5o · a0 a1 a2 a3) r (z5o.eq_2 a0 a1 a2 a3)):=evS _ _ λ_=>rfl
theorem ylx {r} (a0):type_of% (evS (zc6 · a0) r (zc6.eq_2 a0)):=evS _ _ λ_=>rfl
theorem y5v {r} (a0 a1):type_of% (evS (z5c · a0 a1) r (z5c.eq_2 a0 a1)):=evS _ _ λ_=>rfl
theorem y4t {r} (a0 a1):type_of% (evS (z5d · a0 a1) r (z5d.eq_2 a0 a1)):=evS _ _ λ_=>rfl
theorem y47 {r} (a0 a1):type_of% (evS (z7x · a0 a1) r (z7x.eq_2 a0 a1)):=evS _ _ λ_=>rfl
theorem y5q {r} (a0 a1):type_of% (evS (z7m · a0 a1) r (z7m.eq_2 a0 a1)):=evS _ _ λ_=>rfl
theorem y4p {r} (a0):type_of% (evS (z5b · a0) r (z5b.eq_2 a0)):=evS _ _ λ_=>rfl
theorem zbr {r} (a0):type_of% (evS (kzb · a0) r (kzb.eq_2 a0)):=evS _ _ λ_=>rfl
theorem zd9 {r} (a0):type_of% (evS (kzc · a0) r (kzc.eq_2 a0)):=evS _ _ λ_=>rfl
theorem z02 {r} (a0 a1 a2):type_of% (evS (kz8 · a0 a1 a2) r (kz8.eq_2 a0 a1 a2)):=evS _ _ λ_=>rfl
theorem ybp {r} (a0):type_of% (evS (zbb · a0) r (zbb.eq_2 a0)):=evS _ _ λ_=>rfl
theorem ydl {r} (a0):type_of% (evS (z2i · a0) r (z2i.eq_2 a0)):=evS _ _ λ_=>rfl
theorem y0s {r} (a0 a1):type_of% (evS (z5t · a0 a1) r (z5t.eq_2 a0 a1)):=evS _ _ λ_=>rfl
theorem zyu {r} (a0):type_of% (evS (z7i · a0) r (z7i.eq_2 a0)):=evS _ _ λ_=>rfl
theorem zhf {r} (a0):type_of% (evS (yzs · a0) r (yzs.eq_2 a0)):=evS _ _ λ_=>rfl
theorem zf6 {r} (a0):type_of% (evS (yzg · a0) r (yzg.eq_2 a0)):=evS _ _ λ_=>rfl
theorem zvk {r} (a0):type_of% (evS (z77 · a0) r (z77.eq_2 a0)):=evS _ _ λ_=>rfl
theorem yn0 {r} (a0):type_of% (evS (z9s · a0) r (z9s.eq_2 a0)):=evS _ _ λ_=>rfl
theorem y4u {r} (a0 a1):type_of% (evS (z7z · a0 a1) r (z7z.eq_2 a0 a1)):=evS _ _ λ_=>rfl
theorem y4b {r} (a0):type_of% (evS (z7l · a0) r (z7l.eq_2 a0)):=evS _ _ λ_=>rfl
theorem zv0 {r} (a0):type_of% (evS (z57 · a0) r (z57.eq_2 a0)):=evS _ _ λ_=>rfl
theorem zs5 {r} (a0 a1):type_of% (evS (z07 · a0 a1) r (z07.eq_2 a0 a1)):=evS _ _ λ_=>rfl
theorem zry {r} (a0 a1 a2 a3):type_of% (evS (z08 · a0 a1 a2 a3) r (z08.eq_2 a0 a1 a2 a3)):=evS _ _ λ_=>rfl
theorem zsl {r} (a0 a1 a2):type_of% (evS (z09 · a0 a1 a2) r (z09.eq_2 a0 a1 a2)):=evS _ _ λ_=>rfl
theorem zig {r} (a0 a1 a2):type_of% (evS (yzu · a0 a1 a2) r (yzu.eq_2 a0 a1 a2)):=evS _ _ λ_=>rfl
theorem zil {r} (a0 a1 a2):type_of% (evS (zzu · a0 a1 a2) r (zzu.eq_2 a0 a1 a2)):=evS _ _ λ_=>rfl
theorem zic {r} (a0 a1):type_of% (evS (yzo · a0 a1) r (yzo.eq_2 a0 a1)):=evS _ _ λ_=>rfl
theorem zhs {r} (a0 a1 a2):type_of% (evS (kzu · a0 a1 a2) r (kzu.eq_2 a0 a1 a2)):=evS _ _ λ_=>rfl
theorem zij {r} (a0 a1 a2 a3):type_of% (evS (zzk · a0 a1 a2 a3) r (zzk.eq_2 a0 a1 a2 a3)):=evS _ _ λ_=>rfl
theorem y5b {r} (a0):type_of% (evS (z9o · a0) r (z9o.eq_2 a0)):=evS _ _ λ_=>rfl
theorem zmk {r} (a0 a1 a2 a3):type_of% (evS (z1k · a0 a1 a2 a3) r (z1k.eq_2 a0 a1 a2 a3)):=evS _ _ λ_=>rfl
theorem zmg {r} (a0 a1 a2 a3 a4):type_of% (evS (z2v · a0 a1 a2 a3 a4) r (z2v.eq_2 a0 a1 a2 a3 a4)):=evS _ _ λ_=>rfl
theorem zmr {r} (a0 a1 a2):type_of% (evS (z15 · a0 a1 a2) r (z15.eq_2 a0 a1 a2)):=evS _ _ λ_=>rfl
theorem zms {r} (a0 a1 a2 a3 a4):type_of% (evS (z2t · a0 a1 a2 a3 a4) r (z2t.eq_2 a0 a1 a2 a3 a4)):=evS _ _ λ_=>rfl
theorem zmd {r} (a0 a1 a2 a3 a4 a5):type_of% (evS (z1f · a0 a1 a2 a3 a4 a5) r (z1f.eq_2 a0 a1 a2 a3 a4 a5)):=evS _ _ λ_=>rfl
theorem zn3 {r} (a0 a1 a2 a3 a4 a5 a6 a7):type_of% (evS (z16 · a0 a1 a2 a3 a4 a5 a6 a7) r (z16.eq_2 a0 a1 a2 a3 a4 a5 a6 a7)):=evS _ _ λ_=>rfl
theorem zma {r} (a0 a1 a2 a3 a4 a5 a6 a7 a8):type_of% (evS (z19 · a0 a1 a2 a3 a4 a5 a6 a7 a8) r (z19.eq_2 a0 a1 a2 a3 a4 a5 a6 a7 a8)):=evS _ _ λ_=>rfl
theorem zi1 {r} (a0 a1):type_of% (evS (yzl · a0 a1) r (yzl.eq_2 a0 a1)):=evS _ _ λ_=>rfl
theorem z2o {r} (a0 a1 a2 a3):type_of% (evS (zze · a0 a1 a2 a3) r (zze.eq_2 a0 a1 a2 a3)):=evS _ _ λ_=>rfl
theorem zfn {r} (a0 a1):type_of% (evS (kzh · a0 a1) r (kzh.eq_2 a0 a1)):=evS _ _ λ_=>rfl
theorem yf5 {r} (a0 a1):type_of% (evS (zac · a0 a1) r (zac.eq_2 a0 a1)):=evS _ _ λ_=>rfl
theorem zpq {r} (a0 a1 a2):type_of% (evS (z8s · a0 a1 a2) r (z8s.eq_2 a0 a1 a2)):=evS _ _ λ_=>rfl
theorem y1q {r} (a0 a1):type_of% (evS (z6d · a0 a1) r (z6d.eq_2 a0 a1)):=evS _ _ λ_=>rfl
theorem zpv {r} (a0 a1 a2 a3):type_of% (evS (z6x · a0 a1 a2 a3) r (z6x.eq_2 a0 a1 a2 a3)):=evS _ _ λ_=>rfl
theorem ydv {r} (a0):type_of% (evS (zd2 · a0) r (zd2.eq_2 a0)):=evS _ _ λ_=>rfl
theorem y5p {r} (a0 a1 a2):type_of% (evS (z9f · a0 a1 a2) r (z9f.eq_2 a0 a1 a2)):=evS _ _ λ_=>rfl
theorem zf4 {r} (a0 a1 a2):type_of% (evS (zzo · a0 a1 a2) r (zzo.eq_2 a0 a1 a2)):=evS _ _ λ_=>rfl
theorem z10 {r} (a0 a1 a2 a3 a4):type_of% (evS (kza · a0 a1 a2 a3 a4) r (kza.eq_2 a0 a1 a2 a3 a4)):=evS _ _ λ_=>rfl
theorem zdg {r} (a0 a1 a2):type_of% (evS (yze · a0 a1 a2) r (yze.eq_2 a0 a1 a2)):=evS _ _ λ_=>rfl
theorem ygh {r} (a0 a1 a2):type_of% (evS (za9 · a0 a1 a2) r (za9.eq_2 a0 a1 a2)):=evS _ _ λ_=>rfl
theorem y77 {r} (a0):type_of% (evS (zbq · a0) r (zbq.eq_2 a0)):=evS _ _ λ_=>rfl
theorem zna {r} (a0 a1 a2 a3):type_of% (evS (z3w · a0 a1 a2 a3) r (z3w.eq_2 a0 a1 a2 a3)):=evS _ _ λ_=>rfl
theorem znz {r} (a0 a1 a2 a3 a4 a5 a6):type_of% (evS (z4g · a0 a1 a2 a3 a4 a5 a6) r (z4g.eq_2 a0 a1 a2 a3 a4 a5 a6)):=evS _ _ λ_=>rfl
theorem zp4 {r} (a0 a1 a2 a3 a4 a5 a6 a7 a8 a9):type_of% (evS (z54 · a0 a1 a2 a3 a4 a5 a6 a7 a8 a9) r (z54.eq_2 a0 a1 a2 a3 a4 a5 a6 a7 a8 a9)):=evS _ _ λ_=>rfl
theorem y35 {r} (a0 a1 a2):type_of% (evS (z8p · a0 a1 a2) r (z8p.eq_2 a0 a1 a2)):=evS _ _ λ_=>rfl
theorem zei {r} (a0 a1 a2):type_of% (evS (kzl · a0 a1 a2) r (kzl.eq_2 a0 a1 a2)):=evS _ _ λ_=>rfl
theorem z0s {r} (a0 a1 a2 a3 a4):type_of% (evS (kz9 · a0 a1 a2 a3 a4) r (kz9.eq_2 a0 a1 a2 a3 a4)):=evS _ _ λ_=>rfl
theorem zda {r} (a0 a1 a2):type_of% (evS (zzd · a0 a1 a2) r (zzd.eq_2 a0 a1 a2)):=evS _ _ λ_=>rfl
theorem ybe {r} (a0):type_of% (evS (zaz · a0) r (zaz.eq_2 a0)):=evS _ _ λ_=>rfl
theorem znm {r} (a0 a1 a2 a3):type_of% (evS (z4t · a0 a1 a2 a3) r (z4t.eq_2 a0 a1 a2 a3)):=evS _ _ λ_=>rfl
theorem zo8 {r} (a0 a1 a2 a3 a4 a5 a6):type_of% (evS (z2c · a0 a1 a2 a3 a4 a5 a6) r (z2c.eq_2 a0 a1 a2 a3 a4 a5 a6)):=evS _ _ λ_=>rfl
theorem y00 {r} (a0 a1 a2 a3 a4 a5 a6 a7):type_of% (evS (z4z · a0 a1 a2 a3 a4 a5 a6 a7) r (z4z.eq_2 a0 a1 a2 a3 a4 a5 a6 a7)):=evS _ _ λ_=>rfl
theorem zoz {r} (a0 a1 a2 a3 a4 a5 a6 a7 a8 a9):type_of% (evS (z4i · a0 a1 a2 a3 a4 a5 a6 a7 a8 a9) r (z4i.eq_2 a0 a1 a2 a3 a4 a5 a6 a7 a8 a9)):=evS _ _ λ_=>rfl
theorem y94 {r} (a0):type_of% (evS (z7e · a0) r (z7e.eq_2 a0)):=evS _ _ λ_=>rfl
theorem zo9 {r} (a0 a1 a2 a3 a4 a5 a6 a7 a8):type_of% (evS (z4v · a0 a1 a2 a3 a4 a5 a6 a7 a8) r (z4v.eq_2 a0 a1 a2 a3 a4 a5 a6 a7 a8)):=evS _ _ λ_=>rfl
theorem zy4 {r} (a0 a1 a2 a3 a4 a5 a6 a7 a8 a9):type_of% (evS (z3r · a0 a1 a2 a3 a4 a5 a6 a7 a8 a9) r (z3r.eq_2 a0 a1 a2 a3 a4 a5 a6 a7 a8 a9)):=evS _ _ λ_=>rfl
theorem zoi {r} (a0 a1 a2 a3 a4 a5 a6 a7 a8):type_of% (evS (z52 · a0 a1 a2 a3 a4 a5 a6 a7 a8) r (z52.eq_2 a0 a1 a2 a3 a4 a5 a6 a7 a8)):=evS _ _ λ_=>rfl
theorem zop {r} (a0 a1 a2 a3 a4 a5 a6 a7 a8 a9 a10 a11 a12):type_of% (evS (z48 · a0 a1 a2 a3 a4 a5 a6 a7 a8 a9 a10 a11 a12) r (z48.eq_2 a0 a1 a2 a3 a4 a5 a6 a7 a8 a9 a10 a11 a12)):=evS _ _ λ_=>rfl
theorem znx {r} (a0 a1 a2 a3 a4 a5 a6 a7 a8 a9 a10 a11 a12 a13):type_of% (evS (z4e · a0 a1 a2 a3 a4 a5 a6 a7 a8 a9 a10 a11 a12 a13) r (z4e.eq_2 a0 a1 a2 a3 a4 a5 a6 a7 a8 a9 a10 a11 a12 a13)):=evS _ _ λ_=>rfl
theorem zob {r} (a0 a1 a2 a3 a4 a5 a6 a7 a8 a9):type_of% (evS (z26 · a0 a1 a2 a3 a4 a5 a6 a7 a8 a9) r (z26.eq_2 a0 a1 a2 a3 a4 a5 a6 a7 a8 a9)):=evS _ _ λ_=>rfl
theorem zom {r} (a0 a1 a2 a3 a4 a5 a6 a7 a8 a9 a10 a11 a12 a13 a14):type_of% (evS (z4n · a0 a1 a2 a3 a4 a5 a6 a7 a8 a9 a10 a11 a12 a13 a14) r (z4n.eq_2 a0 a1 a2 a3 a4 a5 a6 a7 a8 a9 a10 a11 a12 a13 a14)):=evS _ _ λ_=>rfl
theorem zow {r} (a0 a1 a2 a3 a4 a5 a6 a7 a8 a9 a10 a11 a12 a13 a14 a15):type_of% (evS (z25 · a0 a1 a2 a3 a4 a5 a6 a7 a8 a9 a10 a11 a12 a13 a14 a15) r (z25.eq_2 a0 a1 a2 a3 a4 a5 a6 a7 a8 a9 a10 a11 a12 a13 a14 a15)):=evS _ _ λ_=>rfl
theorem zys {r} (a0 a1 a2 a3 a4 a5 a6 a7 a8 a9 a10):type_of% (evS (z4r · a0 a1 a2 a3 a4 a5 a6 a7 a8 a9 a10) r (z4r.eq_2 a0 a1 a2 a3 a4 a5 a6 a7 a8 a9 a10)):=evS _ _ λ_=>rfl
theorem znq {r} (a0 a1 a2 a3 a4 a5 a6 a7 a8 a9 a10 a11 a12):type_of% (evS (z4p · a0 a1 a2 a3 a4 a5 a6 a7 a8 a9 a10 a11 a12) r (z4p.eq_2 a0 a1 a2 a3 a4 a5 a6 a7 a8 a9 a10 a11 a12)):=evS _ _ λ_=>rfl
theorem zwz {r} (a0 a1 a2 a3 a4 a5 a6 a7 a8 a9 a10 a11 a12 a13 a14 a15):type_of% (evS (z30 · a0 a1 a2 a3 a4 a5 a6 a7 a8 a9 a10 a11 a12 a13 a14 a15) r (z30.eq_2 a0 a1 a2 a3 a4 a5 a6 a7 a8 a9 a10 a11 a12 a13 a14 a15)):=evS _ _ λ_=>rfl
theorem zxf {r} (a0 a1 a2 a3 a4 a5 a6 a7 a8 a9 a10 a11 a12):type_of% (evS (z11 · a0 a1 a2 a3 a4 a5 a6 a7 a8 a9 a10 a11 a12) r (z11.eq_2 a0 a1 a2 a3 a4 a5 a6 a7 a8 a9 a10 a11 a12)):=evS _ _ λ_=>rfl
theorem y4o {r} (a0):type_of% (evS (z7s · a0) r (z7s.eq_2 a0)):=evS _ _ λ_=>rfl
theorem zmw {r} (a0 a1 a2 a3 a4 a5 a6 a7 a8 a9 a10):type_of% (evS (z2z · a0 a1 a2 a3 a4 a5 a6 a7 a8 a9 a10) r (z2z.eq_2 a0 a1 a2 a3 a4 a5 a6 a7 a8 a9 a10)):=evS _ _ λ_=>rfl
theorem yg3 {r} (a0):type_of% (evS (zcr · a0) r (zcr.eq_2 a0)):=evS _ _ λ_=>rfl
theorem yb0 {r} (a0):type_of% (evS (zb2 · a0) r (zb2.eq_2 a0)):=evS _ _ λ_=>rfl
theorem y79 {r} (a0):type_of% (evS (z9c · a0) r (z9c.eq_2 a0)):=evS _ _ λ_=>rfl
theorem zoo {r} (a0 a1 a2 a3 a4 a5 a6 a7 a8 a9 a10 a11 a12 a13 a14 a15 a16 a17 a18 a19 a20):type_of% (evS (z42 · a0 a1 a2 a3 a4 a5 a6 a7 a8 a9 a10 a11 a12 a13 a14 a15 a16 a17 a18 a19 a20) r (z42.eq_2 a0 a1 a2 a3 a4 a5 a6 a7 a8 a9 a10 a11 a12 a13 a14 a15 a16 a17 a18 a19 a20)):=evS _ _ λ_=>rfl
theorem ymd {r} (a0):type_of% (evS (z89 · a0) r (z89.eq_2 a0)):=evS _ _ λ_=>rfl
theorem y08 {r} (a0):type_of% (evS (z4w · a0) r (z4w.eq_2 a0)):=evS _ _ λ_=>rfl
theorem ydt {r} (a0):type_of% (evS (z8e · a0) r (z8e.eq_2 a0)):=evS _ _ λ_=>rfl
theorem zqb {r} (a0 a1 a2 a3 a4 a5 a6 a7):type_of% (evS (z67 · a0 a1 a2 a3 a4 a5 a6 a7) r (z67.eq_2 a0 a1 a2 a3 a4 a5 a6 a7)):=evS _ _ λ_=>rfl
theorem zpr {r} (a0 a1 a2 a3 a4 a5 a6):type_of% (evS (z6q · a0 a1 a2 a3 a4 a5 a6) r (z6q.eq_2 a0 a1 a2 a3 a4 a5 a6)):=evS _ _ λ_=>rfl
theorem zpn {r} (a0 a1 a2 a3 a4 a5 a6 a7 a8 a9 a10 a11 a12):type_of% (evS (z6i · a0 a1 a2 a3 a4 a5 a6 a7 a8 a9 a10 a11 a12) r (z6i.eq_2 a0 a1 a2 a3 a4 a5 a6 a7 a8 a9 a10 a11 a12)):=evS _ _ λ_=>rfl
theorem zqy {r} (a0 a1 a2 a3 a4 a5 a6 a7 a8 a9 a10 a11 a12 a13 a14 a15 a16 a17 a18 a19 a20 a21 a22 a23 a24 a25 a26):type_of% (evS (z5n · a0 a1 a2 a3 a4 a5 a6 a7 a8 a9 a10 a11 a12 a13 a14 a15 a16 a17 a18 a19 a20 a21 a22 a23 a24 a25 a26) r (z5n.eq_2 a0 a1 a2 a3 a4 a5 a6 a7 a8 a9 a10 a11 a12 a13 a14 a15 a16 a17 a18 a19 a20 a21 a22 a23 a24 a25 a26)):=evS _ _ λ_=>rfl
theorem zqq {r} (a0 a1 a2 a3 a4 a5 a6 a7 a8 a9 a10 a11 a12 a13 a14 a15 a16 a17 a18 a19 a20 a21 a22 a23 a24 a25 a26 a27 a28 a29 a30 a31 a32 a33 a34):type_of% (evS (z6f · a0 a1 a2 a3 a4 a5 a6 a7 a8 a9 a10 a11 a12 a13 a14 a15 a16 a17 a18 a19 a20 a21 a22 a23 a24 a25 a26 a27 a28 a29 a30 a31 a32 a33 a34) r (z6f.eq_2 a0 a1 a2 a3 a4 a5 a6 a7 a8 a9 a10 a11 a12 a13 a14 a15 a16 a17 a18 a19 a20 a21 a22 a23 a24 a25 a26 a27 a28 a29 a30 a31 a32 a33 a34)):=evS _ _ λ_=>rfl
theorem ye0 {r} (a0):type_of% (evS (zcy · a0) r (zcy.eq_2 a0)):=evS _ _ λ_=>rfl
theorem ylm {r} (a0 a1):type_of% (evS (z86 · a0 a1) r (z86.eq_2 a0 a1)):=evS _ _ λ_=>rfl
theorem yay {r} (a0):type_of% (evS (zbh · a0) r (zbh.eq_2 a0)):=evS _ _ λ_=>rfl
theorem y06 {r} (a0 a1 a2 a3 a4):type_of% (evS (z0w · a0 a1 a2 a3 a4) r (z0w.eq_2 a0 a1 a2 a3 a4)):=evS _ _ λ_=>rfl
theorem ybg {r} (a0 a1):type_of% (evS (zb9 · a0 a1) r (zb9.eq_2 a0 a1)):=evS _ _ λ_=>rfl
theorem zer {r} (a0 a1):type_of% (evS (yzf · a0 a1) r (yzf.eq_2 a0 a1)):=evS _ _ λ_=>rfl
theorem z0n {r} (a0 a1 a2 a3):type_of% (evS (yza · a0 a1 a2 a3) r (yza.eq_2 a0 a1 a2 a3)):=evS _ _ λ_=>rfl
theorem ymz {r} (a0 a1):type_of% (evS (z9u · a0 a1) r (z9u.eq_2 a0 a1)):=evS _ _ λ_=>rfl
theorem yav {r} (a0 a1):type_of% (evS (zbf · a0 a1) r (zbf.eq_2 a0 a1)):=evS _ _ λ_=>rfl
theorem zek {r} (a0 a1):type_of% (evS (zzf · a0 a1) r (zzf.eq_2 a0 a1)):=evS _ _ λ_=>rfl
theorem z0o {r} (a0 a1 a2 a3):type_of% (evS (zza · a0 a1 a2 a3) r (zza.eq_2 a0 a1 a2 a3)):=evS _ _ λ_=>rfl
theorem ynk {r} (a0):type_of% (evS (zc2 · a0) r (zc2.eq_2 a0)):=evS _ _ λ_=>rfl
theorem y1p {r} (a0 a1 a2 a3):type_of% (evS (z8v · a0 a1 a2 a3) r (z8v.eq_2 a0 a1 a2 a3)):=evS _ _ λ_=>rfl
theorem zuz {r} (a0 a1 a2 a3):type_of% (evS (z58 · a0 a1 a2 a3) r (z58.eq_2 a0 a1 a2 a3)):=evS _ _ λ_=>rfl
theorem zv6 {r} (a0 a1 a2 a3 a4):type_of% (evS (z5a · a0 a1 a2 a3 a4) r (z5a.eq_2 a0 a1 a2 a3 a4)):=evS _ _ λ_=>rfl
theorem y8j {r} (a0 a1 a2 a3):type_of% (evS (z97 · a0 a1 a2 a3) r (z97.eq_2 a0 a1 a2 a3)):=evS _ _ λ_=>rfl
theorem zno {r} (a0 a1 a2 a3 a4 a5):type_of% (evS (z4x · a0 a1 a2 a3 a4 a5) r (z4x.eq_2 a0 a1 a2 a3 a4 a5)):=evS _ _ λ_=>rfl
theorem znn {r} (a0 a1 a2 a3 a4 a5 a6 a7 a8 a9):type_of% (evS (z4y · a0 a1 a2 a3 a4 a5 a6 a7 a8 a9) r (z4y.eq_2 a0 a1 a2 a3 a4 a5 a6 a7 a8 a9)):=evS _ _ λ_=>rfl
theorem zol {r} (a0 a1 a2 a3 a4 a5 a6 a7 a8 a9 a10 a11 a12 a13 a14 a15 a16 a17 a18 a19 a20 a21 a22 a23):type_of% (evS (z4o · a0 a1 a2 a3 a4 a5 a6 a7 a8 a9 a10 a11 a12 a13 a14 a15 a16 a17 a18 a19 a20 a21 a22 a23) r (z4o.eq_2 a0 a1 a2 a3 a4 a5 a6 a7 a8 a9 a10 a11 a12 a13 a14 a15 a16 a17 a18 a19 a20 a21 a22 a23)):=evS _ _ λ_=>rfl
theorem zoq {r} (a0 a1 a2 a3 a4 a5 a6 a7 a8 a9 a10 a11 a12 a13 a14 a15 a16 a17 a18 a19 a20 a21 a22 a23 a24 a25 a26):type_of% (evS (z3u · a0 a1 a2 a3 a4 a5 a6 a7 a8 a9 a10 a11 a12 a13 a14 a15 a16 a17 a18 a19 a20 a21 a22 a23 a24 a25 a26) r (z3u.eq_2 a0 a1 a2 a3 a4 a5 a6 a7 a8 a9 a10 a11 a12 a13 a14 a15 a16 a17 a18 a19 a20 a21 a22 a23 a24 a25 a26)):=evS _ _ λ_=>rfl
theorem yn1 {r} (a0 a1 a2):type_of% (evS (zbz · a0 a1 a2) r (zbz.eq_2 a0 a1 a2)):=evS _ _ λ_=>rfl
theorem y5t {r} (a0 a1 a2 a3 a4):type_of% (evS (z7y · a0 a1 a2 a3 a4) r (z7y.eq_2 a0 a1 a2 a3 a4)):=evS _ _ λ_=>rfl
theorem y4d {r} (a0 a1 a2 a3):type_of% (evS (z7o · a0 a1 a2 a3) r (z7o.eq_2 a0 a1 a2 a3)):=evS _ _ λ_=>rfl
theorem y4l {r} (a0 a1 a2 a3):type_of% (evS (z5e · a0 a1 a2 a3) r (z5e.eq_2 a0 a1 a2 a3)):=evS _ _ λ_=>rfl
theorem z2s {r} (a0 a1 a2 a3 a4):type_of% (evS (z7u · a0 a1 a2 a3 a4) r (z7u.eq_2 a0 a1 a2 a3 a4)):=evS _ _ λ_=>rfl
theorem y5f {r} (a0 a1):type_of% (evS (z1m · a0 a1) r (z1m.eq_2 a0 a1)):=evS _ _ λ_=>rfl
theorem yh5 {r} (a0 a1):type_of% (evS (zd0 · a0 a1) r (zd0.eq_2 a0 a1)):=evS _ _ λ_=>rfl
theorem zrd {r} (a0 a1 a2 a3 a4 a5):type_of% (evS (z5w · a0 a1 a2 a3 a4 a5) r (z5w.eq_2 a0 a1 a2 a3 a4 a5)):=evS _ _ λ_=>rfl
theorem yd9 {r} (a0):type_of% (evS (zcv · a0) r (zcv.eq_2 a0)):=evS _ _ λ_=>rfl
theorem zqw {r} (a0 a1):type_of% (evS (z5k · a0 a1) r (z5k.eq_2 a0 a1)):=evS _ _ λ_=>rfl
theorem zq2 {r} (a0 a1):type_of% (evS (z3b · a0 a1) r (z3b.eq_2 a0 a1)):=evS _ _ λ_=>rfl
theorem zrc {r} (a0 a1 a2 a3):type_of% (evS (z6y · a0 a1 a2 a3) r (z6y.eq_2 a0 a1 a2 a3)):=evS _ _ λ_=>rfl
theorem zpt {r} (a0 a1 a2 a3):type_of% (evS (z3h · a0 a1 a2 a3) r (z3h.eq_2 a0 a1 a2 a3)):=evS _ _ λ_=>rfl
theorem zqv {r} (a0 a1 a2 a3 a4):type_of% (evS (z3j · a0 a1 a2 a3 a4) r (z3j.eq_2 a0 a1 a2 a3 a4)):=evS _ _ λ_=>rfl
theorem y63 {r} (a0):type_of% (evS (z9e · a0) r (z9e.eq_2 a0)):=evS _ _ λ_=>rfl
theorem ybj {r} (a0):type_of% (evS (zbe · a0) r (zbe.eq_2 a0)):=evS _ _ λ_=>rfl
theorem yhv {r} (a0):type_of% (evS (zam · a0) r (zam.eq_2 a0)):=evS _ _ λ_=>rfl
theorem zqk {r} (a0 a1):type_of% (evS (z00 · a0 a1) r (z00.eq_2 a0 a1)):=evS _ _ λ_=>rfl
theorem zqd {r} (a0 a1 a2):type_of% (evS (z0h · a0 a1 a2) r (z0h.eq_2 a0 a1 a2)):=evS _ _ λ_=>rfl
theorem y64 {r} (a0):type_of% (evS (z9k · a0) r (z9k.eq_2 a0)):=evS _ _ λ_=>rfl
theorem ycd {r} (a0):type_of% (evS (z3p · a0) r (z3p.eq_2 a0)):=evS _ _ λ_=>rfl
theorem ydy {r} (a0):type_of% (evS (zaq · a0) r (zaq.eq_2 a0)):=evS _ _ λ_=>rfl
theorem zq8 {r} (a0 a1 a2):type_of% (evS (z6s · a0 a1 a2) r (z6s.eq_2 a0 a1 a2)):=evS _ _ λ_=>rfl
theorem zvb {r} (a0):type_of% (evS (zct · a0) r (zct.eq_2 a0)):=evS _ _ λ_=>rfl
theorem zro {r} (a0 a1):type_of% (evS (z8r · a0 a1) r (z8r.eq_2 a0 a1)):=evS _ _ λ_=>rfl
theorem zqo {r} (a0 a1):type_of% (evS (yzt · a0 a1) r (yzt.eq_2 a0 a1)):=evS _ _ λ_=>rfl
theorem zqg {r} (a0 a1):type_of% (evS (z5r · a0 a1) r (z5r.eq_2 a0 a1)):=evS _ _ λ_=>rfl
theorem yd4 {r} (a0):type_of% (evS (zaf · a0) r (zaf.eq_2 a0)):=evS _ _ λ_=>rfl
theorem zjf {r} (a0 a1 a2):type_of% (evS (z5s · a0 a1 a2) r (z5s.eq_2 a0 a1 a2)):=evS _ _ λ_=>rfl
theorem zjk {r} (a0 a1 a2 a3):type_of% (evS (z66 · a0 a1 a2 a3) r (z66.eq_2 a0 a1 a2 a3)):=evS _ _ λ_=>rfl
theorem y55 {r} (a0 a1):type_of% (evS (z9i · a0 a1) r (z9i.eq_2 a0 a1)):=evS _ _ λ_=>rfl
theorem zx3 {r} (a0 a1):type_of% (evS (z2u · a0 a1) r (z2u.eq_2 a0 a1)):=evS _ _ λ_=>rfl
theorem y7k {r} (a0):type_of% (evS (zbn · a0) r (zbn.eq_2 a0)):=evS _ _ λ_=>rfl
theorem zyc {r} (a0):type_of% (evS (z01 · a0) r (z01.eq_2 a0)):=evS _ _ λ_=>rfl
theorem ycb {r} (a0):type_of% (evS (zaj · a0) r (zaj.eq_2 a0)):=evS _ _ λ_=>rfl
theorem zrh {r} (a0 a1):type_of% (evS (z0c · a0 a1) r (z0c.eq_2 a0 a1)):=evS _ _ λ_=>rfl
theorem zpu {r} (a0 a1):type_of% (evS (z6o · a0 a1) r (z6o.eq_2 a0 a1)):=evS _ _ λ_=>rfl
theorem zqc {r} (a0 a1 a2):type_of% (evS (z6a · a0 a1 a2) r (z6a.eq_2 a0 a1 a2)):=evS _ _ λ_=>rfl
theorem zpm {r} (a0 a1):type_of% (evS (z1n · a0 a1) r (z1n.eq_2 a0 a1)):=evS _ _ λ_=>rfl
theorem zrq {r} (a0 a1):type_of% (evS (z6c · a0 a1) r (z6c.eq_2 a0 a1)):=evS _ _ λ_=>rfl
theorem y98 {r} (a0):type_of% (evS (zaw · a0) r (zaw.eq_2 a0)):=evS _ _ λ_=>rfl
theorem zxz {r} (a0 a1):type_of% (evS (z3z · a0 a1) r (z3z.eq_2 a0 a1)):=evS _ _ λ_=>rfl
theorem ygc {r} (a0 a1):type_of% (evS (z2l · a0 a1) r (z2l.eq_2 a0 a1)):=evS _ _ λ_=>rfl
theorem zqp {r} (a0 a1 a2):type_of% (evS (z0e · a0 a1 a2) r (z0e.eq_2 a0 a1 a2)):=evS _ _ λ_=>rfl
theorem zqu {r} (a0 a1 a2):type_of% (evS (z6v · a0 a1 a2) r (z6v.eq_2 a0 a1 a2)):=evS _ _ λ_=>rfl
theorem ybn {r} (a0):type_of% (evS (zbi · a0) r (zbi.eq_2 a0)):=evS _ _ λ_=>rfl
theorem ydo {r} (a0):type_of% (evS (zai · a0) r (zai.eq_2 a0)):=evS _ _ λ_=>rfl
theorem y1m {r} (a0 a1):type_of% (evS (z3g · a0 a1) r (z3g.eq_2 a0 a1)):=evS _ _ λ_=>rfl
theorem y2u {r} (a0 a1):type_of% (evS (kzy · a0 a1) r (kzy.eq_2 a0 a1)):=evS _ _ λ_=>rfl
theorem y31 {r} (a0 a1):type_of% (evS (z0b · a0 a1) r (z0b.eq_2 a0 a1)):=evS _ _ λ_=>rfl
theorem zq3 {r} (a0 a1):type_of% (evS (z61 · a0 a1) r (z61.eq_2 a0 a1)):=evS _ _ λ_=>rfl
theorem yaf {r} (a0):type_of% (evS (z1h · a0) r (z1h.eq_2 a0)):=evS _ _ λ_=>rfl
theorem zyv {r} (a0 a1):type_of% (evS (z56 · a0 a1) r (z56.eq_2 a0 a1)):=evS _ _ λ_=>rfl
theorem yli {r} (a0):type_of% (evS (zc7 · a0) r (zc7.eq_2 a0)):=evS _ _ λ_=>rfl
theorem y43 {r} (a0 a1):type_of% (evS (z7t · a0 a1) r (z7t.eq_2 a0 a1)):=evS _ _ λ_=>rfl
theorem y4q {r} (a0):type_of% (evS (z7r · a0) r (z7r.eq_2 a0)):=evS _ _ λ_=>rfl
theorem y4i {r} (a0):type_of% (evS (z9m · a0) r (z9m.eq_2 a0)):=evS _ _ λ_=>rfl
theorem zm7 {r} (a0 a1):type_of% (evS (z06 · a0 a1) r (z06.eq_2 a0 a1)):=evS _ _ λ_=>rfl
theorem zw5 {r} (a0 a1):type_of% (evS (z2y · a0 a1) r (z2y.eq_2 a0 a1)):=evS _ _ λ_=>rfl
theorem zwh {r} (a0):type_of% (evS (z35 · a0) r (z35.eq_2 a0)):=evS _ _ λ_=>rfl
theorem zh2 {r} (a0 a1):type_of% (evS (z5z · a0 a1) r (z5z.eq_2 a0 a1)):=evS _ _ λ_=>rfl
theorem zm4 {r} (a0 a1):type_of% (evS (yzq · a0 a1) r (yzq.eq_2 a0 a1)):=evS _ _ λ_=>rfl
theorem zwm {r} (a0):type_of% (evS (z38 · a0) r (z38.eq_2 a0)):=evS _ _ λ_=>rfl
theorem zm1 {r} (a0 a1):type_of% (evS (z17 · a0 a1) r (z17.eq_2 a0 a1)):=evS _ _ λ_=>rfl
theorem zmo {r} (a0 a1 a2):type_of% (evS (zzv · a0 a1 a2) r (zzv.eq_2 a0 a1 a2)):=evS _ _ λ_=>rfl
theorem y5k {r} (a0):type_of% (evS (z9n · a0) r (z9n.eq_2 a0)):=evS _ _ λ_=>rfl
theorem zmt {r} (a0 a1):type_of% (evS (z1c · a0 a1) r (z1c.eq_2 a0 a1)):=evS _ _ λ_=>rfl
theorem zmb {r} (a0 a1 a2):type_of% (evS (z32 · a0 a1 a2) r (z32.eq_2 a0 a1 a2)):=evS _ _ λ_=>rfl
theorem zmm {r} (a0 a1):type_of% (evS (z1b · a0 a1) r (z1b.eq_2 a0 a1)):=evS _ _ λ_=>rfl
theorem zn4 {r} (a0 a1 a2 a3):type_of% (evS (z1j · a0 a1 a2 a3) r (z1j.eq_2 a0 a1 a2 a3)):=evS _ _ λ_=>rfl
theorem zm0 {r} (a0 a1 a2 a3):type_of% (evS (z1g · a0 a1 a2 a3) r (z1g.eq_2 a0 a1 a2 a3)):=evS _ _ λ_=>rfl
theorem zn1 {r} (a0 a1 a2 a3 a4 a5):type_of% (evS (z1e · a0 a1 a2 a3 a4 a5) r (z1e.eq_2 a0 a1 a2 a3 a4 a5)):=evS _ _ λ_=>rfl
theorem zm5 {r} (a0 a1 a2 a3 a4 a5):type_of% (evS (z1d · a0 a1 a2 a3 a4 a5) r (z1d.eq_2 a0 a1 a2 a3 a4 a5)):=evS _ _ λ_=>rfl
theorem ybw {r} (a0):type_of% (evS (z3x · a0) r (z3x.eq_2 a0)):=evS _ _ λ_=>rfl
theorem zos {r} (a0 a1 a2):type_of% (evS (z3y · a0 a1 a2) r (z3y.eq_2 a0 a1 a2)):=evS _ _ λ_=>rfl
theorem ypm {r} (a0 a1):type_of% (evS (z0k · a0 a1) r (z0k.eq_2 a0 a1)):=evS _ _ λ_=>rfl
theorem y8y {r} (a0):type_of% (evS (z8z · a0) r (z8z.eq_2 a0)):=evS _ _ λ_=>rfl
theorem znf {r} (a0 a1):type_of% (evS (z3q · a0 a1) r (z3q.eq_2 a0 a1)):=evS _ _ λ_=>rfl
theorem yah {r} (a0):type_of% (evS (z3t · a0) r (z3t.eq_2 a0)):=evS _ _ λ_=>rfl
theorem zn9 {r} (a0 a1 a2):type_of% (evS (z4m · a0 a1 a2) r (z4m.eq_2 a0 a1 a2)):=evS _ _ λ_=>rfl
theorem y7w {r} (a0 a1):type_of% (evS (zba · a0 a1) r (zba.eq_2 a0 a1)):=evS _ _ λ_=>rfl
theorem zy0 {r} (a0):type_of% (evS (z7h · a0) r (z7h.eq_2 a0)):=evS _ _ λ_=>rfl
theorem zjy {r} (a0 a1):type_of% (evS (z14 · a0 a1) r (z14.eq_2 a0 a1)):=evS _ _ λ_=>rfl
theorem y1a {r} (a0):type_of% (evS (z8q · a0) r (z8q.eq_2 a0)):=evS _ _ λ_=>rfl
theorem zl4 {r} (a0 a1):type_of% (evS (z1v · a0 a1) r (z1v.eq_2 a0 a1)):=evS _ _ λ_=>rfl
theorem zkz {r} (a0 a1):type_of% (evS (z0l · a0 a1) r (z0l.eq_2 a0 a1)):=evS _ _ λ_=>rfl
theorem yhe {r} (a0 a1):type_of% (evS (za6 · a0 a1) r (za6.eq_2 a0 a1)):=evS _ _ λ_=>rfl
theorem zr8 {r} (a0 a1 a2):type_of% (evS (z3i · a0 a1 a2) r (z3i.eq_2 a0 a1 a2)):=evS _ _ λ_=>rfl
theorem zri {r} (a0 a1 a2 a3):type_of% (evS (z6z · a0 a1 a2 a3) r (z6z.eq_2 a0 a1 a2 a3)):=evS _ _ λ_=>rfl
theorem zpk {r} (a0 a1 a2 a3):type_of% (evS (z60 · a0 a1 a2 a3) r (z60.eq_2 a0 a1 a2 a3)):=evS _ _ λ_=>rfl
theorem y2f {r} (a0 a1):type_of% (evS (z3d · a0 a1) r (z3d.eq_2 a0 a1)):=evS _ _ λ_=>rfl
theorem zpo {r} (a0 a1 a2):type_of% (evS (z6j · a0 a1 a2) r (z6j.eq_2 a0 a1 a2)):=evS _ _ λ_=>rfl
theorem y8d {r} (a0):type_of% (evS (zbc · a0) r (zbc.eq_2 a0)):=evS _ _ λ_=>rfl
theorem y5m {r} (a0 a1):type_of% (evS (z81 · a0 a1) r (z81.eq_2 a0 a1)):=evS _ _ λ_=>rfl
theorem zme {r} (a0 a1 a2):type_of% (evS (z2x · a0 a1 a2) r (z2x.eq_2 a0 a1 a2)):=evS _ _ λ_=>rfl
theorem y91 {r} (a0):type_of% (evS (zbg · a0) r (zbg.eq_2 a0)):=evS _ _ λ_=>rfl
theorem zok {r} (a0 a1 a2):type_of% (evS (z50 · a0 a1 a2) r (z50.eq_2 a0 a1 a2)):=evS _ _ λ_=>rfl
theorem zoy {r} (a0 a1 a2 a3):type_of% (evS (z4q · a0 a1 a2 a3) r (z4q.eq_2 a0 a1 a2 a3)):=evS _ _ λ_=>rfl
theorem yhr {r} (a0):type_of% (evS (zae · a0) r (zae.eq_2 a0)):=evS _ _ λ_=>rfl
theorem zqa {r} (a0 a1 a2):type_of% (evS (z6k · a0 a1 a2) r (z6k.eq_2 a0 a1 a2)):=evS _ _ λ_=>rfl
theorem zrj {r} (a0 a1 a2 a3):type_of% (evS (z3k · a0 a1 a2 a3) r (z3k.eq_2 a0 a1 a2 a3)):=evS _ _ λ_=>rfl
theorem zrf {r} (a0 a1 a2 a3 a4 a5):type_of% (evS (z5y · a0 a1 a2 a3 a4 a5) r (z5y.eq_2 a0 a1 a2 a3 a4 a5)):=evS _ _ λ_=>rfl
theorem y1s {r} (a0 a1 a2 a3 a4):type_of% (evS (z6n · a0 a1 a2 a3 a4) r (z6n.eq_2 a0 a1 a2 a3 a4)):=evS _ _ λ_=>rfl
theorem zqj {r} (a0 a1 a2 a3 a4 a5):type_of% (evS (z62 · a0 a1 a2 a3 a4 a5) r (z62.eq_2 a0 a1 a2 a3 a4 a5)):=evS _ _ λ_=>rfl
theorem yak {r} (a0):type_of% (evS (zbj · a0) r (zbj.eq_2 a0)):=evS _ _ λ_=>rfl
theorem zo6 {r} (a0 a1 a2):type_of% (evS (z55 · a0 a1 a2) r (z55.eq_2 a0 a1 a2)):=evS _ _ λ_=>rfl
theorem zoc {r} (a0 a1 a2):type_of% (evS (z2e · a0 a1 a2) r (z2e.eq_2 a0 a1 a2)):=evS _ _ λ_=>rfl
theorem znd {r} (a0 a1 a2 a3 a4 a5):type_of% (evS (z23 · a0 a1 a2 a3 a4 a5) r (z23.eq_2 a0 a1 a2 a3 a4 a5)):=evS _ _ λ_=>rfl
theorem znc {r} (a0 a1 a2 a3 a4 a5 a6 a7):type_of% (evS (z44 · a0 a1 a2 a3 a4 a5 a6 a7) r (z44.eq_2 a0 a1 a2 a3 a4 a5 a6 a7)):=evS _ _ λ_=>rfl
theorem znr {r} (a0 a1 a2 a3 a4):type_of% (evS (z27 · a0 a1 a2 a3 a4) r (z27.eq_2 a0 a1 a2 a3 a4)):=evS _ _ λ_=>rfl
theorem y6u {r} (a0):type_of% (evS (z4s · a0) r (z4s.eq_2 a0)):=evS _ _ λ_=>rfl
theorem znt {r} (a0 a1):type_of% (evS (z4u · a0 a1) r (z4u.eq_2 a0 a1)):=evS _ _ λ_=>rfl
theorem zon {r} (a0 a1 a2 a3):type_of% (evS (z4a · a0 a1 a2 a3) r (z4a.eq_2 a0 a1 a2 a3)):=evS _ _ λ_=>rfl
theorem yhi {r} (a0 a1):type_of% (evS (z2h · a0 a1) r (z2h.eq_2 a0 a1)):=evS _ _ λ_=>rfl
theorem zr6 {r} (a0 a1 a2):type_of% (evS (z1q · a0 a1 a2) r (z1q.eq_2 a0 a1 a2)):=evS _ _ λ_=>rfl
theorem zqm {r} (a0 a1 a2):type_of% (evS (z6e · a0 a1 a2) r (z6e.eq_2 a0 a1 a2)):=evS _ _ λ_=>rfl
theorem ydr {r} (a0):type_of% (evS (z8k · a0) r (z8k.eq_2 a0)):=evS _ _ λ_=>rfl
theorem y4m {r} (a0):type_of% (evS (z9g · a0) r (z9g.eq_2 a0)):=evS _ _ λ_=>rfl
theorem zwf {r} (a0 a1):type_of% (evS (z18 · a0 a1) r (z18.eq_2 a0 a1)):=evS _ _ λ_=>rfl
theorem zwl {r} (a0 a1 a2 a3):type_of% (evS (z39 · a0 a1 a2 a3) r (z39.eq_2 a0 a1 a2 a3)):=evS _ _ λ_=>rfl
theorem y22 {r} (a0):type_of% (evS (z6p · a0) r (z6p.eq_2 a0)):=evS _ _ λ_=>rfl
theorem zl3 {r} (a0 a1 a2 a3 a4 a5):type_of% (evS (z1y · a0 a1 a2 a3 a4 a5) r (z1y.eq_2 a0 a1 a2 a3 a4 a5)):=evS _ _ λ_=>rfl
theorem zkw {r} (a0 a1 a2 a3 a4 a5):type_of% (evS (z1u · a0 a1 a2 a3 a4 a5) r (z1u.eq_2 a0 a1 a2 a3 a4 a5)):=evS _ _ λ_=>rfl
theorem y6v {r} (a0 a1 a2):type_of% (evS (z7c · a0 a1 a2) r (z7c.eq_2 a0 a1 a2)):=evS _ _ λ_=>rfl
theorem y0v {r} (a0 a1 a2):type_of% (evS (z6t · a0 a1 a2) r (z6t.eq_2 a0 a1 a2)):=evS _ _ λ_=>rfl
theorem zl2 {r} (a0 a1 a2 a3 a4 a5):type_of% (evS (z1t · a0 a1 a2 a3 a4 a5) r (z1t.eq_2 a0 a1 a2 a3 a4 a5)):=evS _ _ λ_=>rfl
theorem zky {r} (a0 a1 a2 a3 a4 a5 a6 a7):type_of% (evS (z1z · a0 a1 a2 a3 a4 a5 a6 a7) r (z1z.eq_2 a0 a1 a2 a3 a4 a5 a6 a7)):=evS _ _ λ_=>rfl
theorem zkv {r} (a0 a1 a2 a3 a4 a5 a6 a7 a8):type_of% (evS (z1s · a0 a1 a2 a3 a4 a5 a6 a7 a8) r (z1s.eq_2 a0 a1 a2 a3 a4 a5 a6 a7 a8)):=evS _ _ λ_=>rfl
theorem zl0 {r} (a0 a1 a2 a3 a4 a5 a6 a7 a8 a9 a10 a11 a12 a13 a14):type_of% (evS (z1x · a0 a1 a2 a3 a4 a5 a6 a7 a8 a9 a10 a11 a12 a13 a14) r (z1x.eq_2 a0 a1 a2 a3 a4 a5 a6 a7 a8 a9 a10 a11 a12 a13 a14)):=evS _ _ λ_=>rfl
theorem yc4 {r} (a0 a1):type_of% (evS (zd3 · a0 a1) r (zd3.eq_2 a0 a1)):=evS _ _ λ_=>rfl
theorem y1k {r} (a0 a1 a2 a3):type_of% (evS (z0i · a0 a1 a2 a3) r (z0i.eq_2 a0 a1 a2 a3)):=evS _ _ λ_=>rfl
theorem y7c {r} (a0 a1):type_of% (evS (zb6 · a0 a1) r (zb6.eq_2 a0 a1)):=evS _ _ λ_=>rfl
theorem zo7 {r} (a0 a1 a2 a3):type_of% (evS (z4l · a0 a1 a2 a3) r (z4l.eq_2 a0 a1 a2 a3)):=evS _ _ λ_=>rfl
theorem zxh {r} (a0 a1):type_of% (evS (z2w · a0 a1) r (z2w.eq_2 a0 a1)):=evS _ _ λ_=>rfl
theorem zto {r} (a0 a1):type_of% (evS (z3l · a0 a1) r (z3l.eq_2 a0 a1)):=evS _ _ λ_=>rfl
theorem zh8 {r} (a0 a1 a2):type_of% (evS (zzi · a0 a1 a2) r (zzi.eq_2 a0 a1 a2)):=evS _ _ λ_=>rfl
theorem zh6 {r} (a0 a1 a2):type_of% (evS (yzz · a0 a1 a2) r (yzz.eq_2 a0 a1 a2)):=evS _ _ λ_=>rfl
theorem zh7 {r} (a0 a1 a2 a3):type_of% (evS (kzr · a0 a1 a2 a3) r (kzr.eq_2 a0 a1 a2 a3)):=evS _ _ λ_=>rfl
theorem zwa {r} (a0 a1):type_of% (evS (z5l · a0 a1) r (z5l.eq_2 a0 a1)):=evS _ _ λ_=>rfl
theorem zj7 {r} (a0 a1 a2):type_of% (evS (yzx · a0 a1 a2) r (yzx.eq_2 a0 a1 a2)):=evS _ _ λ_=>rfl
theorem zj8 {r} (a0 a1 a2):type_of% (evS (z0p · a0 a1 a2) r (z0p.eq_2 a0 a1 a2)):=evS _ _ λ_=>rfl
theorem zw2 {r} (a0 a1):type_of% (evS (z6m · a0 a1) r (z6m.eq_2 a0 a1)):=evS _ _ λ_=>rfl
theorem zj2 {r} (a0 a1 a2):type_of% (evS (kzw · a0 a1 a2) r (kzw.eq_2 a0 a1 a2)):=evS _ _ λ_=>rfl
theorem zj5 {r} (a0 a1 a2):type_of% (evS (z0t · a0 a1 a2) r (z0t.eq_2 a0 a1 a2)):=evS _ _ λ_=>rfl
theorem ziz {r} (a0 a1 a2):type_of% (evS (z0r · a0 a1 a2) r (z0r.eq_2 a0 a1 a2)):=evS _ _ λ_=>rfl
theorem ych {r} (a0 a1):type_of% (evS (z8f · a0 a1) r (z8f.eq_2 a0 a1)):=evS _ _ λ_=>rfl
theorem y2n {r} (a0 a1 a2):type_of% (evS (z8o · a0 a1 a2) r (z8o.eq_2 a0 a1 a2)):=evS _ _ λ_=>rfl
theorem zpi {r} (a0 a1 a2):type_of% (evS (z6l · a0 a1 a2) r (z6l.eq_2 a0 a1 a2)):=evS _ _ λ_=>rfl
theorem y2z {r} (a0 a1 a2 a3):type_of% (evS (z8w · a0 a1 a2 a3) r (z8w.eq_2 a0 a1 a2 a3)):=evS _ _ λ_=>rfl
theorem zr7 {r} (a0 a1 a2):type_of% (evS (z6h · a0 a1 a2) r (z6h.eq_2 a0 a1 a2)):=evS _ _ λ_=>rfl
theorem zle {r} (a0 a1):type_of% (evS (kzo · a0 a1) r (kzo.eq_2 a0 a1)):=evS _ _ λ_=>rfl
theorem zbk {r} (a0 a1 a2):type_of% (evS (yzj · a0 a1 a2) r (yzj.eq_2 a0 a1 a2)):=evS _ _ λ_=>rfl
theorem za5 {α:Type} {x y:List α} (h:x.length+y.length<=268435456):ext x y=some (x++y):=by unfold ext;rw [Qbt (by simpa [zgh] using h)]
set_option linter.unusedSimpArgs false
def I64 (x:Int):Prop := -9223372036854775808<=x∧x<=9223372036854775807
theorem y8k {x:Int} (h:I64 x):Ev (λn=>zal n x) (x.natAbs:Int):=by
 unfold I64 at h;rw [ygn];simp only [Ev.pif,Ev.yz0,Qar];split
 ·rw [wUn (x:=x) (by omega),wUn (by omega)];omega
 ·rw [wU (by omega)];omega
theorem yuq:∀(b a:Nat),Ev (λn=>z7k n (b:Int) (a:Int)) (Nat.gcd a b:Int):=by
 intro b
 induction b using Nat.strongRecOn with
 |ind b ih=>
  intro a;rw [y4j];by_cases hb:b=0
  · subst hb;simp [Ev.pif,Ev.yz0]
  · have hm:rem .u64 (a:Int) (b:Int)=some ((a % b:Nat):Int):=by
     unfold rem;rw [Qbu (by omega),Int.tmod_eq_emod_of_nonneg (by omega)];simp
    rw [Ev.yz2 (by simpa using hb),Ev.zz1 hm];have:=ih (a % b) (Nat.mod_lt _ (by omega)) b;rw [Nat.gcd_comm a b,Nat.gcd_rec b a,Nat.gcd_comm];exact this
theorem ywb {a b:Nat}:Ev (λn=>zee n (a:Int) (b:Int)) (Nat.gcd a b:Int):=by
 rw [yjw];exact yuq b a
def rok (r:kz6):Bool:=decide (1<=r.den)&&decide (r.den<=1000000000)&&decide (r.num.natAbs<=1000000000)&&(Nat.gcd r.num.natAbs r.den.natAbs==1)
theorem zlf {r:kz6}:rok r=true↔1<=r.den∧r.den<=1000000000∧r.num.natAbs<=1000000000∧Nat.gcd r.num.natAbs r.den.natAbs=1:=by
 simp [rok,and_assoc]
theorem yr9 {r:kz6} (h:I64 r.num):Ev (λn=>zbd n r) (if rok r then 0 else 8):=by
 have l0:∀b,Ev (λn=>z0v n b) (if b then 8 else 0):=λb=>by
  rw [zxn];cases b <;> simp [Ev.pif,Ev.yz0]
 rw [ya2];simp only [Ev.pif,Qar];split
 ·refine (l0 _).to ?_;rw [Qbt rfl,Qbu];rw [zlf];omega
 split
 ·refine (l0 _).to ?_;rw [Qbt rfl,Qbu];rw [zlf];omega
 rw [Ev.kz0 (y8k h)];simp only [Ev.pif,Qar];split
 ·refine (l0 _).to ?_;rw [Qbt rfl,Qbu];rw [zlf];omega
 rw [Ev.kz0 (y8k h),wU (by omega)];have hd:r.den=(r.den.natAbs:Int):=by omega
 rw [hd,Ev.kz0 ywb];refine (l0 _).to ?_
 have:((((Nat.gcd r.num.natAbs r.den.natAbs:Nat):Int) != 1)=true)↔¬rok r=true:=by
  rw [zlf];simp only [bne_iff_ne,ne_eq];omega
 by_cases hr:rok r=true
 ·rw [Qbu (by rw [this];simpa using hr),Qbt hr]
 ·rw [Qbt (by rw [this];exact hr),Qbu hr]
theorem z02g (a b:Int):Nat.gcd a.natAbs b.natAbs=Nat.gcd b.natAbs (a.tmod b).natAbs:=by
 rw [Int.natAbs_tmod,Nat.gcd_comm a.natAbs,Nat.gcd_rec b.natAbs a.natAbs,Nat.gcd_comm]
theorem yey:∀(m:Nat) (b a:Int),b.natAbs=m->I64 a->I64 b->¬a = -9223372036854775808->¬b = -9223372036854775808->Ev (λn=>z2u n b a) (Nat.gcd a.natAbs b.natAbs:Int):=by
 intro m
 induction m using Nat.strongRecOn with
 |ind m ih=>
  intro b a hm ha hb ha0 hb0;unfold I64 at ha hb;rw [zx3];by_cases h0:b=0
  · subst h0;simp only [Ev.pif,Ev.yz0,Qar];rw [Qbu (by simp)];split
    · rw [wI (by omega)];simp;omega
    · simp;omega
  · have hr:rem .i64 a b=some (a.tmod b):=by unfold rem;rw [Qbu h0]
    have h1:(a.tmod b).natAbs<b.natAbs:=by rw [Int.natAbs_tmod];exact Nat.mod_lt _ (by omega)
    rw [Ev.yz2 (by simpa using h0),Ev.zz1 hr];have:=ih _ (by rw [<-hm];exact h1) (a.tmod b) b rfl hb (by unfold I64;omega) hb0 (by omega);rw [z02g a b];exact this
theorem ymu {a b:Int} (ha:I64 a) (hb:I64 b) (ha0:¬a = -9223372036854775808) (hb0:¬b = -9223372036854775808):Ev (λn=>z9i n a b) (Nat.gcd a.natAbs b.natAbs:Int):=by
 rw [y55];exact yey _ b a rfl ha hb ha0 hb0
theorem yp2 {r:kz6}:Ev (λn=>zbn n r) (if rok r then 0 else 8):=by
 have l0:∀b,Ev (λn=>z01 n b) (if b then 8 else 0):=λb=>by
  rw [zyc];cases b <;> simp [Ev.pif,Ev.yz0]
 rw [y7k];simp only [Ev.pif,Qar];split
 ·refine (l0 _).to ?_;rw [Qbt rfl,Qbu];rw [zlf];omega
 split
 ·refine (l0 _).to ?_;rw [Qbt rfl,Qbu];rw [zlf];omega
 split
 ·refine (l0 _).to ?_;rw [Qbt rfl,Qbu];rw [zlf];omega
 split
 ·refine (l0 _).to ?_;rw [Qbt rfl,Qbu];rw [zlf];omega
 rw [Ev.kz0 (ymu (by unfold I64;omega) (by unfold I64;omega) (by omega) (by omega))];refine (l0 _).to ?_
 have:((((Nat.gcd r.num.natAbs r.den.natAbs:Nat):Int) != 1)=true)↔¬rok r=true:=by
  rw [zlf];simp only [bne_iff_ne,ne_eq];omega
 by_cases hr:rok r=true
 ·rw [Qbu (by rw [this];simpa using hr),Qbt hr]
 ·rw [Qbt (by rw [this];exact hr),Qbu hr]
set_option linter.unusedSimpArgs false
def wfR (r:kz6):Prop:=I64 r.num∧I64 r.den
def fdiv (a b:kz6):Int×Int:=(a.num * b.den,a.den * b.num)
theorem y2d {P:kz1->Prop} (h:∀v:kz1,(∀x,x∈v.list->P x)->P v) (v:kz1):P v:=h v λx hx=>y2d h x
termination_by v
decreasing_by exact kz1.y0l hx
mutual
def zf1:kz1->Nat
 |⟨k,_,_,_,l⟩=>if k=4 then 1+z7j l else 1
def z7j:List kz1->Nat
 |[]=>0
 |x::l=>zf1 x+z7j l
end
mutual
def zh3:kz1->Nat
 |⟨k,_,_,_,l⟩=>if k=4 then max 1 (zkl l) else 1
def zkl:List kz1->Nat
 |[]=>0
 |x::l=>max (1+zh3 x) (zkl l)
end
theorem zr0 (v:kz1):zf1 v=if v.kind=4 then 1+z7j v.list else 1:=by cases v;rw [zf1]
theorem zxs (v:kz1):zh3 v=if v.kind=4 then max 1 (zkl v.list) else 1:=by cases v;rw [zh3]
theorem yym {l:List kz1} {x:kz1} (h:x∈l):x.size<=(l.map kz1.size).sum:=by
 induction l with
 |nil=>cases h
 |cons y l ih=>
  rcases Qbi.1 h with rfl|h
  · simp
  · have:=ih h;simp;omega
theorem z8m (v:kz1):(v.list.map kz1.size).sum+v.str.length+4<=v.size:=by rw [kz1.size_eq];omega
theorem zjs {v x:kz1} (h:x∈v.list):x.size<=v.size:=by have:=yym h;have:=z8m v;omega
theorem zfu (l:List kz1):l.length<=(l.map kz1.size).sum:=by
 induction l with
 |nil=>simp
 |cons x l ih=>have:=z8m x;simp;omega
theorem zun:∀v:kz1,zf1 v<=v.size:=y2d λv ih=>by
 have:∀l:List kz1,(∀x,x∈l->x∈v.list)->z7j l<=(l.map kz1.size).sum:=λl=>by
  induction l with
  |nil=>intro _;simp [z7j]
  |cons x l ihl=>
   intro hl;have:=ih x (hl x Qak);have:=ihl λy hy=>hl y (Qai _ hy)
   simp [z7j];omega
 have:=this v.list λ_ h=>h
 have:=z8m v;rw [zr0];split <;> omega
theorem yrl:∀v:kz1,zh3 v<=zf1 v:=y2d λv ih=>by
 have:∀l:List kz1,(∀x,x∈l->x∈v.list)->zkl l<=1+z7j l:=λl=>by
  induction l with
  |nil=>intro _;simp [z7j,zkl]
  |cons x l ihl=>
   intro hl;have:=ih x (hl x Qak);have:=ihl λy hy=>hl y (Qai _ hy)
   simp [z7j,zkl];omega
 have:=this v.list λ_ h=>h
 rw [zr0,zxs];split <;> omega
theorem y97 (l:List kz1):z7j l<=(l.map kz1.size).sum:=by
 induction l with
 |nil=>simp [z7j]
 |cons x l ih=>have:=zun x;simp [z7j];omega
theorem yfy:∀v:kz1,v.size<=8388608->Ev (λn=>z5v n v) ((zf1 v:Int),(zh3 v:Int)):=y2d λv ih hs=>by
 have l1:∀d p,Ev (λn=>z1w n d p) (p,d):=λd p=>by rw [zuu,Ev.yz0]
 have hsl:=z8m v;have hlen:=zfu v.list
 have loop:∀k,k<=v.list.length->∀d p:Nat,p+z7j (v.list.drop k)<=8388609->d<=8388609->Ev (λn=>z1r n (k:Int) (d:Int) (p:Int) v.list (v.list.length:Int)) (((p+z7j (v.list.drop k):Nat):Int),((max d (zkl (v.list.drop k)):Nat):Int)) :=
  down (λd p hp hd=>by
   rw [zl1,Ev.zz2 (by simp)];refine (l1 _ _).to ?_
   simp [z7j,zkl]) λk hk ihk d p hp hd=>by
   have hx:=Qad hk;have hsx:=zjs hx;rw [<-Qah (h:=hk)] at hp ⊢;simp only [z7j,zkl] at hp ⊢;have hpl:=zun v.list[k];have hdl:=yrl v.list[k];rw [zl1,Ev.yz2 (by simpa using hk),Ev.zz1 (zz6 hk),kz1.zz4,Ev.kz0 (ih _ hx (by omega)),wI (x:=_+1) (by omega),wI (x:=(zh3 _:Int)+1) (by omega),wI (x:=(p:Int)+_) (by omega)];have e1:(k:Int)+1=((k+1:Nat):Int):=by omega
   have e2:(zh3 v.list[k]:Int)+1=((1+zh3 v.list[k]:Nat):Int):=by omega
   have e3:(p:Int)+(zf1 v.list[k]:Int)=((p+zf1 v.list[k]:Nat):Int):=by omega
   rw [e1,e2,e3,y67];refine (ihk (max d (1+zh3 v.list[k])) (p+zf1 v.list[k]) (by omega) (by omega)).to ?_
   congr 2 <;> omega
 rw [y2i];by_cases hk:v.kind=4
 ·rw [Ev.yz2 (by simpa using hk)];have hv:=y97 v.list;have:=loop 0 (Qbr _) 1 1 (by simp;omega) (by omega);refine this.to ?_;rw [zr0,zxs,Qbt hk,Qbt hk,List.drop_zero]
 ·rw [Ev.zz2 (by simpa using hk)];refine (l1 1 1).to ?_;rw [zr0,zxs,Qbu hk,Qbu hk];rfl
theorem y3z:∀v:kz1,v.size<=8388608->Ev (λn=>z7f n v) (zf1 v:Int):=y2d λv ih hs=>by
 have hsl:=z8m v;have hlen:=zfu v.list;rw [ybb,kz1.zz4,zr0];by_cases hk:v.kind=4
 ·rw [Qbt hk];have hkk:(v.kind==4)=true:=by simpa using hk
  have loop:∀k,k<=v.list.length->∀p:Nat,p+z7j (v.list.drop k)<=8388609->Ev (λn=>z3v n (k:Int) (p:Int) v) ((p+z7j (v.list.drop k):Nat):Int) :=
   down (λp hp=>by
    rw [zi7,Ev.zz2 (by simp),zi3,Ev.zz2 (by rfl),Ev.yz0]
    simp [z7j]) λk hk ihk p hp=>by
    have hx:=Qad hk;have hsx:=zjs hx;rw [<-Qah (h:=hk)] at hp ⊢;simp only [z7j] at hp ⊢;have hpl:=zun v.list[k];rw [zi7,Ev.yz2 (by simpa using hk),hkk,kz1.zz4,zi3,Ev.yz2 (by rfl),Ev.zz1 (zz6 hk),kz1.zz4,Ev.kz0 (ih _ hx (by omega)),wI (x:=_+1) (by omega),wI (x:=(p:Int)+_) (by omega)];have e1:(k:Int)+1=((k+1:Nat):Int):=by omega
    have e3:(p:Int)+(zf1 v.list[k]:Int)=((p+zf1 v.list[k]:Nat):Int):=by omega
    rw [e1,e3,kz1.zz4];refine (ihk (p+zf1 v.list[k]) (by omega)).to ?_
    congr 1;omega
  have hv:=y97 v.list;exact loop 0 (Qbr _) 1 (by simp;omega)
 ·rw [Qbu hk];have hkk:(v.kind==4)=false:=by simpa using hk
  have l1:Ev (λn=>z4j n 0 1 false v) 1:=by rw [zi3,Ev.zz2 (by rfl),Ev.yz0]
  rw [zi7,hkk,kz1.zz4,Ev.pif];split <;> exact l1
theorem yux:∀v:kz1,v.size<=8388608->Ev (λn=>zaf n v) (zh3 v:Int):=y2d λv ih hs=>by
 have hsl:=z8m v;have hlen:=zfu v.list;rw [yd4,kz1.zz4,zxs];by_cases hk:v.kind=4
 ·rw [Qbt hk];have hkk:(v.kind==4)=true:=by simpa using hk
  have loop:∀k,k<=v.list.length->∀p:Nat,p<=8388609->Ev (λn=>z5s n (k:Int) (p:Int) v) ((max p (zkl (v.list.drop k)):Nat):Int) :=
   down (λp hp=>by
    rw [zjf,Ev.zz2 (by simp),zjk,Ev.zz2 (by rfl),Ev.yz0]
    simp [zkl]) λk hk ihk p hp=>by
    have hx:=Qad hk;have hsx:=zjs hx;rw [<-Qah (h:=hk)];simp only [zkl];have hpl:=zun v.list[k];have hdl:=yrl v.list[k];rw [zjf,Ev.yz2 (by simpa using hk),hkk,kz1.zz4,zjk,Ev.yz2 (by rfl),Ev.zz1 (zz6 hk),kz1.zz4,Ev.kz0 (ih _ hx (by omega)),wI (x:=_+1) (by omega),wI (x:=1+_) (by omega)];have e1:(k:Int)+1=((k+1:Nat):Int):=by omega
    have e3:1+(zh3 v.list[k]:Int)=((1+zh3 v.list[k]:Nat):Int):=by omega
    rw [e1,e3,kz1.zz4,y67];refine (ihk (max p (1+zh3 v.list[k])) (by omega)).to ?_
    congr 1;omega
  exact loop 0 (Qbr _) 1 (by omega)
 ·rw [Qbu hk];have hkk:(v.kind==4)=false:=by simpa using hk
  have l1:Ev (λn=>z66 n 0 1 false v) 1:=by rw [zjk,Ev.zz2 (by rfl),Ev.yz0]
  rw [zjf,hkk,kz1.zz4,Ev.pif];split <;> exact l1
def v0:kz1:=⟨0,⟨0,0⟩,false,[],[]⟩
def zsv (c:UInt8):Bool:=decide (32<=c.toNat)&&decide (c.toNat<=126)
def nul (v:kz6):Bool:=v.num==0&&v.den==0
mutual
def zsr:kz1->Bool
 |⟨k,q,t,s,l⟩ =>
  if k=1 then rok q&&(!t&&(s.isEmpty&&l.isEmpty))
  else if k=2 then nul q&&(s.isEmpty&&l.isEmpty)
  else if k=3 then nul q&&(!t&&(l.isEmpty&&(decide (s.length<=60)&&s.all zsv)))
  else if k=4 then nul q&&(!t&&(s.isEmpty&&zmj l))
  else false
def zmj:List kz1->Bool
 |[]=>true
 |x::l=>zsr x&&zmj l
end
theorem yqb (v:kz1):zsr v =
 if v.kind=1 then rok v.num&&(!v.truth&&(v.str.isEmpty&&v.list.isEmpty))
 else if v.kind=2 then nul v.num&&(v.str.isEmpty&&v.list.isEmpty)
 else if v.kind=3 then nul v.num&&(!v.truth&&(v.list.isEmpty&&(decide (v.str.length<=60)&&v.str.all zsv)))
 else if v.kind=4 then nul v.num&&(!v.truth&&(v.str.isEmpty&&zmj v.list))
 else false:=by cases v;rw [zsr]
def zxa (v:kz1):Int:=if 100<zf1 v∨6<zh3 v then 4 else if zsr v then 0 else 8
theorem z04r {v:kz1} (h:v.wf):wfR v.num:=by
 rw [kz1.z04] at h;have:=h.2.1;rw [kz6.z04] at this;simpa [wfR,I64,IntKind.min,IntKind.max,IntKind.signed,IntKind.bits] using this
theorem z03h {v:kz1} (h:v.wf):∀x∈v.list,x.wf:=by
 rw [kz1.z04] at h;exact h.2.2.2.2
theorem zjr {v:kz1}:Ev (λn=>z1o n v) (nul v.num&&(!v.truth&&(v.str.isEmpty&&v.list.isEmpty))):=by
 rw [y0w];obtain ⟨k,⟨p,q⟩,t,s,l⟩:=v;simp only [Ev.pif,Ev.yz0,nul,Bool.and_true];cases p==0 <;> cases q==0 <;> cases t <;> cases s <;> cases l <;> simp <;> omega
theorem yuc:∀v:kz1,v.wf->v.size<=8388608->Ev (λn=>zad n v) (zsr v):=y2d λv ih hw hs=>by
 have hsl:=z8m v;have hlen:=zfu v.list;rw [yhl,yqb];by_cases h1:v.kind=1
 ·rw [Qbt h1,Ev.yz2 (by simpa using h1),Ev.kz0 (yr9 (z04r hw).1)];cases hr:rok v.num
  ·rw [Ev.yz2 (by rfl),Ev.yz0];rfl
  ·rw [Ev.zz2 (by rfl)];exact zjr
 rw [Qbu h1,Ev.zz2 (by simpa using h1)];by_cases h2:v.kind=2
 ·rw [Qbt h2,Ev.yz2 (by simpa using h2)];exact zjr
 rw [Qbu h2,Ev.zz2 (by simpa using h2)];by_cases h3:v.kind=3
 ·rw [Qbt h3,Ev.yz2 (by simpa using h3)];by_cases hl:v.str.length<=60
  ·rw [Ev.zz2 (by simp;omega),kz1.zz4]
   have loop:∀w:kz1,∀k,k<=v.str.length->Ev (λn=>z6w n (k:Int) v w) ((v.str.drop k).all zsv&&(nul w.num&&(!w.truth&&(w.str.isEmpty&&w.list.isEmpty)))):=λw=>
    down (by
     rw [zr4,Ev.zz2 (by simp),kz1.zz4]
     simpa using zjr) λk hk ihk=>by
     have bad:Ev (λn=>z5i n (k:Int) true v w) false:=by rw [zrm,Ev.yz2 (by rfl),Ev.yz0]
     rw [<-Qah (h:=hk),List.all_cons];rw [zr4,Ev.yz2 (by simpa using hk),Ev.zz1 (zz6 hk),kz1.zz4,kz1.zz4];by_cases c1:v.str[k].toNat<32
     ·rw [Ev.yz2 (by simp;omega)];refine bad.to ?_;have:zsv v.str[k]=false:=by simp [zsv];omega
      rw [this];rfl
     ·rw [Ev.zz2 (by simp;omega),Ev.zz1 (zz6 hk)];by_cases c2:v.str[k].toNat>126
      ·rw [show decide ((v.str[k].toNat:Int)>126)=true by simp;omega];refine bad.to ?_;have:zsv v.str[k]=false:=by simp [zsv];omega
       rw [this];rfl
      ·rw [show decide ((v.str[k].toNat:Int)>126)=false by simp;omega,zrm,Ev.zz2 (by rfl),wrk (by omega),kz1.zz4,kz1.zz4];have:zsv v.str[k]=true:=by simp [zsv];omega
       rw [this,Bool.true_and];exact ihk
   refine (loop ⟨v.kind,v.num,v.truth,[],v.list⟩ 0 (Qbr _)).to ?_;simp only [List.drop_zero,hl,decide_true,Bool.true_and,List.isEmpty_nil];cases nul v.num <;> cases v.truth <;> cases v.list.isEmpty <;> cases v.str.all zsv <;> rfl
  ·rw [Ev.yz2 (by simp;omega),Ev.yz0];simp [hl]
 rw [Qbu h3,Ev.zz2 (by simpa using h3)];by_cases h4:v.kind=4
 ·rw [Qbt h4,Ev.yz2 (by simpa using h4)]
  have loop:∀w:kz1,∀k,k<=v.list.length->Ev (λn=>z64 n (k:Int) v.list (v.list.length:Int) w) (zmj (v.list.drop k)&&(nul w.num&&(!w.truth&&(w.str.isEmpty&&w.list.isEmpty)))):=λw=>
   down (by
    rw [zrn,Ev.zz2 (by simp),kz1.zz4]
    simpa [zmj] using zjr) λk hk ihk=>by
    have hx:=Qad hk;have hsx:=zjs hx;rw [<-Qah (h:=hk),zmj];rw [zrn,Ev.yz2 (by simpa using hk),Ev.zz1 (zz6 hk),kz1.zz4,Ev.kz0 (ih _ hx (z03h hw _ hx) (by omega))];cases hf:zsr v.list[k]
    ·rw [Ev.yz2 (by rfl),Ev.yz0];rfl
    ·rw [Ev.zz2 (by rfl),wrk (by omega),kz1.zz4,Bool.true_and];exact ihk
  refine (loop ⟨v.kind,v.num,v.truth,v.str,[]⟩ 0 (Qbr _)).to ?_;simp only [List.drop_zero,List.isEmpty_nil,Bool.and_true];cases nul v.num <;> cases v.truth <;> cases v.str.isEmpty <;> cases zmj v.list <;> rfl
 ·rw [Qbu h4,Ev.zz2 (by simpa using h4),Ev.yz0]
theorem ys5 {v:kz1} (hw:v.wf) (hs:v.size<=8388608):Ev (λn=>zau n v) (zxa v):=by
 have l0:∀b,Ev (λn=>z43 n b v) (if b then 4 else if zsr v then 0 else 8):=λb=>by
  rw [zy1];cases b
  ·rw [Ev.zz2 (by rfl),kz1.zz4,Ev.kz0 (yuc v hw hs)];cases zsr v
   ·rw [Ev.yz2 (by rfl),Ev.yz0];rfl
   ·rw [Ev.zz2 (by rfl),Ev.yz0];rfl
  ·rw [Ev.yz2 (by rfl),Ev.yz0];rfl
 rw [ybi,kz1.zz4,Ev.kz0 (yfy v hs)];unfold zxa;simp only [Ev.pif];by_cases h1:100<zf1 v
 ·rw [Qbt (by simp;omega),Qbt (.inl h1)];exact l0 true
 ·rw [Qbu (by simp;omega)];by_cases h2:6<zh3 v
  ·rw [Qbt (.inr h2),show decide ((zh3 v:Int)>6)=true by simp;omega];exact l0 true
  ·rw [Qbu (by omega),show decide ((zh3 v:Int)>6)=false by simp;omega];exact l0 false
theorem yst:∀v:kz1,v.size<=8388608->Ev (λn=>zaj n v) (zsr v):=y2d λv ih hs=>by
 have hsl:=z8m v;have hlen:=zfu v.list;rw [ycb,yqb];have hnul:((v.num.num==0)&&((v.num.den==0)&&true))=nul v.num:=by simp [nul]
 have hstr:((v.str.length:Int)==0)=v.str.isEmpty:=by cases v.str <;> simp;omega
 have hlst:((v.list.length:Int)==0)=v.list.isEmpty:=by cases v.list <;> simp;omega
 have hgt:decide ((v.list.length:Int)>0) = !v.list.isEmpty:=by cases v.list <;> simp
 have hgs:decide ((v.str.length:Int)>0) = !v.str.isEmpty:=by cases v.str <;> simp
 simp only [hnul,hstr,hlst,hgt,hgs];by_cases h1:v.kind=1
 ·rw [Qbt h1,Ev.yz2 (by simpa using h1),Ev.kz0 yp2];cases hr:rok v.num <;> cases ht:v.truth <;> cases hss:v.str.isEmpty <;> simp [Ev.pif,Ev.yz0]
 rw [Qbu h1,Ev.zz2 (by simpa using h1)];by_cases h2:v.kind=2
 ·rw [Qbt h2,Ev.yz2 (by simpa using h2)];cases hr:nul v.num <;> cases hss:v.str.isEmpty <;> simp [Ev.pif,Ev.yz0]
 rw [Qbu h2,Ev.zz2 (by simpa using h2)];by_cases h3:v.kind=3
 ·rw [Qbt h3,Ev.yz2 (by simpa using h3)];have bad:Ev (λn=>z0c n true v) false:=by rw [zrh,Ev.yz2 (by rfl),Ev.yz0]
  have loop:∀k,k<=v.str.length->Ev (λn=>z6o n (k:Int) v) ((v.str.drop k).all zsv) :=
   down (by
    rw [zpu,Ev.zz2 (by simp),Ev.yz0]
    simp) λk hk ihk=>by
    have bad:Ev (λn=>z6a n (k:Int) true v) false:=by rw [zqc,Ev.yz2 (by rfl),Ev.yz0]
    rw [<-Qah (h:=hk),List.all_cons];rw [zpu,Ev.yz2 (by simpa using hk),Ev.zz1 (zz6 hk),kz1.zz4];by_cases c1:v.str[k].toNat<32
    ·rw [Ev.yz2 (by simp;omega)];refine bad.to ?_;have:zsv v.str[k]=false:=by simp [zsv];omega
     rw [this];rfl
    ·rw [Ev.zz2 (by simp;omega),Ev.zz1 (zz6 hk)];by_cases c2:v.str[k].toNat>126
     ·rw [show decide ((v.str[k].toNat:Int)>126)=true by simp;omega];refine bad.to ?_;have:zsv v.str[k]=false:=by simp [zsv];omega
      rw [this];rfl
     ·rw [show decide ((v.str[k].toNat:Int)>126)=false by simp;omega,zqc,Ev.zz2 (by rfl),wrk (by omega),kz1.zz4];have:zsv v.str[k]=true:=by simp [zsv];omega
      rw [this,Bool.true_and];exact ihk
  have good:Ev (λn=>z0c n false v) (v.str.all zsv):=by
   rw [zrh,Ev.zz2 (by rfl),kz1.zz4];simpa using loop 0 (Qbr _)
  rw [kz1.zz4];cases hr:nul v.num
  ·rw [Ev.yz2 (by rfl)];exact bad
  rw [Ev.zz2 (by rfl)];cases ht:v.truth
  ·rw [Ev.zz2 (by rfl)];cases hl:v.list.isEmpty
   ·rw [Ev.yz2 (by rfl)];exact bad
   ·rw [Ev.zz2 (by rfl)];by_cases h60:v.str.length<=60
    ·rw [show decide ((v.str.length:Int)>60)=false by simp;omega];simpa [h60] using good
    ·rw [show decide ((v.str.length:Int)>60)=true by simp;omega];simpa [h60] using bad
  ·rw [Ev.yz2 (by rfl)];exact bad
 rw [Qbu h3,Ev.zz2 (by simpa using h3)];by_cases h4:v.kind=4
 ·rw [Qbt h4,Ev.yz2 (by simpa using h4)];have bad:Ev (λn=>z1n n true v) false:=by rw [zpm,Ev.yz2 (by rfl),Ev.yz0]
  have loop:∀k,k<=v.list.length->Ev (λn=>z6c n (k:Int) v) (zmj (v.list.drop k)) :=
   down (by
    rw [zrq,Ev.zz2 (by simp),Ev.yz0]
    simp [zmj]) λk hk ihk=>by
    have hx:=Qad hk;have hsx:=zjs hx;rw [<-Qah (h:=hk),zmj];rw [zrq,Ev.yz2 (by simpa using hk),Ev.zz1 (zz6 hk),kz1.zz4,Ev.kz0 (ih _ hx (by omega))];cases hf:zsr v.list[k]
    ·rw [Ev.yz2 (by rfl),Ev.yz0];rfl
    ·rw [Ev.zz2 (by rfl),wrk (by omega),kz1.zz4,Bool.true_and];exact ihk
  have good:Ev (λn=>z1n n false v) (zmj v.list):=by
   rw [zpm,Ev.zz2 (by rfl),kz1.zz4];simpa using loop 0 (Qbr _)
  rw [kz1.zz4];cases hr:nul v.num
  ·rw [Ev.yz2 (by rfl)];exact bad
  rw [Ev.zz2 (by rfl)];cases ht:v.truth
  ·rw [Ev.zz2 (by rfl)];cases hl:v.str.isEmpty
   ·exact bad
   ·simpa using good
  ·rw [Ev.yz2 (by rfl)];exact bad
 ·rw [Qbu h4,Ev.zz2 (by simpa using h4),Ev.yz0]
theorem ypb {v:kz1} (hs:v.size<=8388608):Ev (λn=>zaw n v) (zxa v):=by
 have l0:∀b,Ev (λn=>z3z n b v) (if b then 4 else if zsr v then 0 else 8):=λb=>by
  rw [zxz];cases b
  ·rw [Ev.zz2 (by rfl),kz1.zz4,Ev.kz0 (yst v hs)];cases zsr v
   ·rw [Ev.yz2 (by rfl),Ev.yz0];rfl
   ·rw [Ev.zz2 (by rfl),Ev.yz0];rfl
  ·rw [Ev.yz2 (by rfl),Ev.yz0];rfl
 rw [y98,kz1.zz4,Ev.kz0 (y3z v hs)];unfold zxa;by_cases h1:100<zf1 v
 ·rw [Ev.yz2 (by simp;omega),Qbt (.inl h1)];exact l0 true
 ·rw [Ev.zz2 (by simp;omega),Ev.kz0 (yux v hs)];by_cases h2:6<zh3 v
  ·rw [Qbt (.inr h2),show decide ((zh3 v:Int)>6)=true by simp;omega];exact l0 true
  ·rw [Qbu (by omega),show decide ((zh3 v:Int)>6)=false by simp;omega];exact l0 false
theorem vext {a b:kz1} (h1:a.kind=b.kind) (h2:a.num.num=b.num.num) (h3:a.num.den=b.num.den) (h4:a.truth=b.truth) (h5:a.str=b.str) (h6:a.list=b.list):a=b:=by
 obtain ⟨k,⟨p,q⟩,t,s,l⟩:=a;obtain ⟨k',⟨p',q'⟩,t',s',l'⟩:=b
 simp_all
theorem yre {α:Type} {x y:α} {l m:List α}:eqB (x::l) (y::m)=(eqB x y&&eqB l m):=by
 cases h:(eqB x y&&eqB l m)
 ·rw [yzh];intro hh;injection hh with h1 h2
  rw [Bool.and_eq_false_iff,yzh,yzh] at h;exact h.elim (λh=>h h1) (λh=>h h2)
 ·rw [z8x];rw [Qag,z8x,z8x] at h;rw [h.1,h.2]
theorem y86:∀a b:kz1,a.size<=8388608->Ev (λn=>z2k n a b) (eqB a b):=y2d (P:=λa=>∀b:kz1,a.size<=8388608->Ev (λn=>z2k n a b) (eqB a b)) λa ih b hs=>by
 have hsl:=z8m a;have hlen:=zfu a.list;have bad:a≠b->Ev (λn=>z0f n true b a) (eqB a b):=λh=>by rw [zps,Ev.yz2 (by rfl),Ev.yz0,yzh.2 h]
 rw [ygl,kz1.zz4,kz1.zz4];by_cases h1:a.kind=b.kind
 case neg=>rw [Ev.yz2 (by simpa using h1)];exact bad λh=>h1 (by rw [h])
 rw [Ev.zz2 (by simpa using h1)];by_cases h2:a.num.num=b.num.num∧a.num.den=b.num.den
 case neg=>rw [Ev.yz2 (by simp;omega)];exact bad λh=>h2 (by rw [h];exact ⟨rfl,rfl⟩)
 rw [Ev.zz2 (by simp [h2])];by_cases h3:a.truth=b.truth
 case neg=>rw [Ev.yz2 (by simpa using h3)];exact bad λh=>h3 (by rw [h])
 rw [Ev.zz2 (by simp [h3])];by_cases h4:a.str=b.str
 case neg=>rw [Ev.yz2 (by simpa using h4)];exact bad λh=>h4 (by rw [h])
 rw [Ev.zz2 (by simp [h4])];by_cases h5:a.list.length=b.list.length
 case neg=>rw [show ((a.list.length:Int) != (b.list.length:Int))=true by simp;omega];exact bad λh=>h5 (by rw [h])
 rw [show ((a.list.length:Int) != (b.list.length:Int))=false by simp;omega,zps,Ev.zz2 (by rfl),kz1.zz4,kz1.zz4]
 have loop:∀k,k<=a.list.length->Ev (λn=>z5o n (k:Int) (a.list.length:Int) b a) (eqB (a.list.drop k) (b.list.drop k)) :=
  down (by
   rw [zpy,Ev.zz2 (by simp),Ev.yz0,List.drop_length,h5,List.drop_length,za4]) λk hk ihk=>by
   have hk2:k<b.list.length:=by omega
   have hx:=Qad hk;have hsx:=zjs hx;rw [<-Qah (h:=hk),<-Qah (h:=hk2),yre];rw [zpy,Ev.yz2 (by simpa using hk),Ev.zz1 (zz6 hk),Ev.zz1 (zz6 hk2),kz1.zz4,kz1.zz4,Ev.kz0 (ih _ hx _ (by omega))];cases hf:eqB a.list[k] b.list[k]
   ·rw [Ev.yz2 (by rfl),Ev.yz0];rfl
   ·rw [Ev.zz2 (by rfl),wrk (by omega),kz1.zz4,kz1.zz4,Bool.true_and];exact ihk
 refine (loop 0 (Qbr _)).to ?_;rw [List.drop_zero,List.drop_zero];by_cases h6:a.list=b.list
 ·rw [z8x.2 h6,z8x.2 (vext h1 h2.1 h2.2 h3 h4 h6)]
 ·rw [yzh.2 h6,yzh.2 λh=>h6 (by rw [h])]
theorem yb4:∀a b:kz1,a.size<=8388608->Ev (λn=>z2l n a b) (eqB a b):=y2d (P:=λa=>∀b:kz1,a.size<=8388608->Ev (λn=>z2l n a b) (eqB a b)) λa ih b hs=>by
 have hsl:=z8m a;have hlen:=zfu a.list;have bad:a≠b->Ev (λn=>z0e n true b a) (eqB a b):=λh=>by rw [zqp,Ev.yz2 (by rfl),Ev.yz0,yzh.2 h]
 rw [ygc,kz1.zz4,kz1.zz4];by_cases h1:a.kind=b.kind
 case neg=>rw [Ev.yz2 (by simpa using h1)];exact bad λh=>h1 (by rw [h])
 rw [Ev.zz2 (by simpa using h1)];by_cases h2:a.num.num=b.num.num∧a.num.den=b.num.den
 case neg=>rw [Ev.yz2 (by simp;omega)];exact bad λh=>h2 (by rw [h];exact ⟨rfl,rfl⟩)
 rw [Ev.zz2 (by simp [h2])];by_cases h3:a.truth=b.truth
 case neg=>rw [Ev.yz2 (by simpa using h3)];exact bad λh=>h3 (by rw [h])
 rw [Ev.zz2 (by simp [h3])];by_cases h4:a.str=b.str
 case neg=>rw [Ev.yz2 (by simpa using h4)];exact bad λh=>h4 (by rw [h])
 rw [Ev.zz2 (by simp [h4])];by_cases h5:a.list.length=b.list.length
 case neg=>rw [show ((a.list.length:Int) != (b.list.length:Int))=true by simp;omega];exact bad λh=>h5 (by rw [h])
 rw [show ((a.list.length:Int) != (b.list.length:Int))=false by simp;omega,zqp,Ev.zz2 (by rfl),kz1.zz4,kz1.zz4]
 have loop:∀k,k<=a.list.length->Ev (λn=>z6v n (k:Int) b a) (eqB (a.list.drop k) (b.list.drop k)) :=
  down (by
   rw [zqu,Ev.zz2 (by simp),Ev.yz0,List.drop_length,h5,List.drop_length,za4]) λk hk ihk=>by
   have hk2:k<b.list.length:=by omega
   have hx:=Qad hk;have hsx:=zjs hx;rw [<-Qah (h:=hk),<-Qah (h:=hk2),yre];rw [zqu,Ev.yz2 (by simpa using hk),Ev.zz1 (zz6 hk),Ev.zz1 (zz6 hk2),kz1.zz4,kz1.zz4,Ev.kz0 (ih _ hx _ (by omega))];cases hf:eqB a.list[k] b.list[k]
   ·rw [Ev.yz2 (by rfl),Ev.yz0];rfl
   ·rw [Ev.zz2 (by rfl),wrk (by omega),kz1.zz4,kz1.zz4,Bool.true_and];exact ihk
 refine (loop 0 (Qbr _)).to ?_;rw [List.drop_zero,List.drop_zero];by_cases h6:a.list=b.list
 ·rw [z8x.2 h6,z8x.2 (vext h1 h2.1 h2.2 h3 h4 h6)]
 ·rw [yzh.2 h6,yzh.2 λh=>h6 (by rw [h])]
theorem yzi {α:Type} {l:List α} {k:Nat} (h:k<l.length):l.take k++[l[k]]=l.take (k+1):=by
 rw [List.take_add_one,Qab h];rfl
theorem yot:∀v:kz1,v.size<=8388608->∀d:Int,∃b,Ev (λn=>z99 n v d) b:=y2d λv ih hs d=>by
 have hsl:=z8m v;have hlen:=zfu v.list
 have loop:∀k,k<=v.list.length->∀d:Int,∃b,Ev (λn=>z45 n (k:Int) d v) b :=
  down (λd=>⟨false,by rw [zo0,Ev.zz2 (by simp),Ev.yz0]⟩) λk hk ihk d=>by
   have hx:=Qad hk;have hsx:=zjs hx;obtain ⟨b,hb⟩:=ih _ hx (by omega) (IntKind.i64.wrap (d-1));obtain ⟨c,hc⟩:=ihk d;refine ⟨if b then true else c,?_⟩;rw [zo0,Ev.yz2 (by simpa using hk),Ev.zz1 (zz6 hk),kz1.zz4,Ev.kz0 hb,kz1.zz4,wrk (by omega)];cases b
   ·rw [Ev.zz2 (by rfl)];exact hc
   ·rw [Ev.yz2 (by rfl),Ev.yz0];rfl
 have l0:∀d b,∃c,Ev (λn=>z2d n d b v) c:=λd b=>by
  cases b
  ·obtain ⟨c,hc⟩:=loop 0 (Qbr _) d;exact ⟨c,by rw [znv,Ev.zz2 (by rfl),kz1.zz4];exact hc⟩
  ·exact ⟨true,by rw [znv,Ev.yz2 (by rfl),Ev.yz0]⟩
 simp only [y8i,kz1.zz4,Ev.pif];split
 ·exact l0 _ _
 split
 ·exact l0 _ _
 ·exact l0 _ _
theorem yrv {v:kz1} (hs:v.size<=8388608):∃b,Ev (λn=>zb3 n v) b:=by
 obtain ⟨b,hb⟩:=yot v hs 10;cases b
 ·exact ⟨_,by rw [zu6,kz1.zz4,Ev.kz0 hb,Ev.zz2 (by rfl),Ev.kz0 (y3z v hs)];exact Ev.yz0.2 rfl⟩
 ·exact ⟨true,by rw [zu6,kz1.zz4,Ev.kz0 hb,Ev.yz2 (by rfl),Ev.yz0]⟩
theorem yb1 {s:List UInt8} (hs:s.length<=8388608):Ev (λn=>zap n s) (zki s):=by
 have l3t:∀q,Ev (λn=>zzz n true s q) false:=λq=>by rw [zqf,Ev.yz2 (by rfl),Ev.yz0]
 have step:∀k (hk:k<s.length) (r:Bool),((if k=0 then isLet s[k] else zfp s[k])=false->r=false)->((if k=0 then isLet s[k] else zfp s[k])=true->Ev (λn=>z0g n s (k+1)) r)->Ev (λn=>z0g n s k) r:=λk hk r hf ht=>by
  have l3:∀b,(if k=0 then isLet s[k] else zfp s[k]) = !b->(b=false->(zl9 s k).2=1)->Ev (λn=>zzz n b s (k+(zl9 s k).2)) r:=λb hb h1=>by
   cases b
   ·rw [zqf,Ev.zz2 (by rfl),h1 rfl];exact ht hb
   ·exact (l3t _).to (hf hb).symm
  rw [zpp,Ev.yz2 (by simpa using hk)];by_cases hlow:s[k].toNat<128
  ·have hd:=z00y hk hlow;rw [hd] at l3;rw [hd]
   have l2:∀b,b=isLet s[k]->Ev (λn=>z6u n (s[k].toNat:Int) (k:Int) b s (k+1)) r:=λb hb=>by
    subst hb;rw [zra];cases hl:isLet s[k]
    ·rw [Ev.yz2 (by rfl)];by_cases h0:k=0
     ·rw [Ev.yz2 (by simpa using h0)];exact l3 true (by rw [Qbt h0,hl];rfl) (by simp)
     ·rw [Ev.zz2 (by simpa using h0)];by_cases h45:s[k].toNat=45
      ·have:s[k]=45:=UInt8.toNat_inj.1 (by simpa using h45);rw [Ev.zz2 (by simp;omega)];exact l3 false (by rw [Qbu h0,zfp,this];rfl) (λ_=>rfl)
      ·have hne:(s[k]==45)=false:=by
        simp only [beq_eq_false_iff_ne];intro h;rw [h] at h45;exact h45 rfl
       rw [Ev.yz2 (by simp;omega)];by_cases c1:s[k].toNat<48
       ·rw [Ev.yz2 (by simp;omega)];refine l3 true ?_ (by simp);rw [Qbu h0,zfp,hl,hne,yin];simp;omega
       ·rw [Ev.zz2 (by simp;omega)];refine l3 _ ?_ (λ_=>rfl);rw [Qbu h0,zfp,hl,hne,yin];have e1:decide (48<=s[k].toNat)=true:=by rw [Qar];omega
        have e3:decide ((s[k].toNat:Int)>57) = !decide (s[k].toNat<=57):=by
         by_cases c2:s[k].toNat<=57
         ·rw [show decide (s[k].toNat<=57)=true by rw [Qar];exact c2];simp only [Bool.not_true,decide_eq_false_iff_not];omega
         ·rw [show decide (s[k].toNat<=57)=false by rw [decide_eq_false_iff_not];exact c2];simp only [Bool.not_false,Qar];omega
        rw [e1,e3];simp
    ·rw [Ev.zz2 (by rfl)];refine l3 false ?_ (λ_=>rfl);split
     ·exact hl
     ·rw [zfp,hl];rfl
   simp only;by_cases c1:97<=s[k].toNat
   ·rw [Ev.yz2 (by simp;omega)];exact l2 _ (by simp [isLet,c1];omega)
   ·rw [Ev.zz2 (by simp;omega)];exact l2 _ (by simp [isLet];omega)
  ·obtain ⟨h1,h2⟩:=yx9 hk (by omega);have nl:isLet s[k]=false:=by simp [isLet];omega
   have nm:zfp s[k]=false:=by
    rw [zfp,nl,yin];have:(s[k]==45)=false:=by simp only [beq_eq_false_iff_ne];intro h;rw [h] at hlow;exact hlow (by decide)
    rw [this];simp;omega
   have bad:(if k=0 then isLet s[k] else zfp s[k])=false:=by split <;> assumption
   rw [Ev.yz2 (by simp;omega),show decide (((zl9 s k).1:Int)<=122)=false by simp;omega,zra,Ev.yz2 (by rfl)];by_cases h0:k=0
   ·rw [Ev.yz2 (by simpa using h0)];exact (l3t _).to (hf bad).symm
   ·rw [Ev.zz2 (by simpa using h0),Ev.yz2 (by simp;omega),Ev.zz2 (by simp;omega),show decide (((zl9 s k).1:Int)>57)=true by simp;omega];exact (l3t _).to (hf bad).symm
 have rest:∀k,k<=s.length->1<=k->Ev (λn=>z0g n s k) ((s.drop k).all zfp) :=
  down (Q:=λk=>1<=k->Ev (λn=>z0g n s k) ((s.drop k).all zfp)) (λ_=>by
   rw [zpp,Ev.zz2 (by simp),Ev.yz0];simp) λk hk ih h1=>by
   rw [<-Qah (h:=hk),List.all_cons];refine step k hk _ (λh => ?_) λh => ?_
   ·rw [Qbu (by omega)] at h;rw [h];rfl
   ·rw [Qbu (by omega)] at h;rw [h];exact ih (by omega)
 rw [ygv]
 cases s with
 |nil=>rw [Ev.yz2 (by rfl),zpj,Ev.yz2 (by rfl),Ev.yz0];rfl
 |cons c t=>
  rw [Ev.zz2 (by simp;omega),zpj];by_cases h40:(c::t).length<=40
  · rw [Ev.zz2 (by simp at h40 ⊢;omega)];refine step 0 (by simp) _ (λh => ?_) λh => ?_
    · rw [Qbt rfl] at h;simp only [List.getElem_cons_zero] at h;simp [zki,h]
    · rw [Qbt rfl] at h;simp only [List.getElem_cons_zero] at h;refine (rest 1 (by simp) (Qbs _)).to ?_;simp [zki,h];intro _;simpa using h40
  · rw [Ev.yz2 (by simp at h40 ⊢;omega),Ev.yz0];simp [zki];intro _ _;simpa using h40
theorem ylb {c:UInt8}:Ev (λn=>z9e n (c.toNat:Int)) (isLet c):=by
 rw [y63];simp only [Ev.pif,Ev.yz0,isLet,Qar];split
 ·have:97<=c.toNat:=by omega
  simp [this];omega
 ·have:¬97<=c.toNat:=by omega
  simp [this]
theorem ype {c:UInt8}:Ev (λn=>zbe n (c.toNat:Int)) (yin c):=by
 rw [ybj];simp only [Ev.pif,Ev.yz0,yin,Qar];split
 ·have:48<=c.toNat:=by omega
  simp [this];omega
 ·have:¬48<=c.toNat:=by omega
  simp [this]
theorem z04f {c:UInt8}:(((c.toNat:Nat):Int) != 45) = !(c==45):=by
 cases h:c==45 with
 |true=>have:c=45:=by simpa using h
        subst this;rfl
 |false=>
  have:c.toNat≠45:=λhh=>by
   have:c=45:=UInt8.toNat_inj.1 (by simpa using hh);subst this;cases h
  simp;omega
theorem y8m {s:List UInt8} (hs:s.length<=8388608):Ev (λn=>zam n s) (zki s):=by
 have bad:∀k:Int,Ev (λn=>z0h n s k true) false:=λk=>by rw [zqd,Ev.yz2 (by rfl),Ev.yz0]
 have step:∀k (hk:k<s.length) (r:Bool),((if k=0 then isLet s[k] else zfp s[k])=false->r=false)->((if k=0 then isLet s[k] else zfp s[k])=true->Ev (λn=>z00 n ((k+1:Nat):Int) s) r)->Ev (λn=>z00 n (k:Int) s) r:=λk hk r hf ht=>by
  have l1:∀b,(if k=0 then isLet s[k] else zfp s[k]) = !b->Ev (λn=>z0h n s (k:Int) b) r:=λb hb=>by
   cases b
   ·rw [zqd,Ev.zz2 (by rfl),wrk (by omega)];exact ht hb
   ·exact (bad _).to (hf hb).symm
  rw [zqk,Ev.yz2 (by simpa using hk),Ev.zz1 (zz6 hk),Ev.kz0 ylb];cases hl:isLet s[k]
  ·rw [Ev.yz2 (by rfl)];by_cases h0:k=0
   ·rw [Ev.yz2 (by simpa using h0)];exact l1 true (by rw [Qbt h0,hl];rfl)
   ·rw [Ev.zz2 (by simpa using h0),Ev.zz1 (zz6 hk),z04f];cases h45:s[k]==45
    ·rw [Ev.yz2 (by rfl),Ev.zz1 (zz6 hk),Ev.kz0 ype];exact l1 _ (by rw [Qbu h0,zfp,hl,h45];simp)
    ·rw [Ev.zz2 (by rfl)];exact l1 false (by rw [Qbu h0,zfp,hl,h45];rfl)
  ·rw [Ev.zz2 (by rfl)];exact l1 false (by split;exact hl;rw [zfp,hl];rfl)
 have fin:∀r:Bool,r=(decide (1<=s.length)&&decide (s.length<=40))->Ev (λn=>z00 n (s.length:Int) s) r:=λr hr=>by
  rw [zqk,Ev.zz2 (by simp),hr];by_cases h1:1<=s.length
  ·rw [Ev.yz2 (by simp;omega),Ev.yz0];simp [h1];omega
  ·rw [Ev.zz2 (by simp;omega),Ev.yz0];simp [h1]
 have rest:∀k,k<=s.length->1<=k->Ev (λn=>z00 n (k:Int) s) ((s.drop k).all zfp&&decide (s.length<=40)) :=
  down (Q:=λk=>1<=k->Ev (λn=>z00 n (k:Int) s) ((s.drop k).all zfp&&decide (s.length<=40))) (λh1=>by
   refine fin _ ?_;simp [h1]) λk hk ih h1=>by
   rw [<-Qah (h:=hk),List.all_cons];refine step k hk _ (λh => ?_) λh => ?_
   ·rw [Qbu (by omega)] at h;rw [h];rfl
   ·rw [Qbu (by omega)] at h;rw [h];exact ih (by omega)
 rw [yhv]
 cases s with
 |nil=>exact fin _ rfl
 |cons c t=>
  refine step 0 (by simp) _ (λh => ?_) λh => ?_
  · rw [Qbt rfl] at h;simp only [List.getElem_cons_zero] at h;simp [zki,h]
  · rw [Qbt rfl] at h;simp only [List.getElem_cons_zero] at h;refine (rest 1 (by simp) (Qbs _)).to ?_;simp [zki,h]
def zsd (s:List UInt8):Bool:=zki s&&(!(s==[116,114,117,101]) && !(s==[102,97,108,115,101]))
theorem ysq {s:List UInt8} (hs:s.length<=8388608):Ev (λn=>zcw n s) (zsd s):=by
 rw [ydq,Ev.kz0 (yb1 hs)];unfold zsd;cases zki s <;> cases h:(s==[116,114,117,101]) <;> simp [Ev.pif,Ev.yz0]
theorem yqo {s:List UInt8} (hs:s.length<=8388608):Ev (λn=>zbi n s) (zsd s):=by
 rw [ybn,Ev.kz0 (y8m hs)];unfold zsd;cases zki s <;> cases h:(s==[116,114,117,101]) <;> simp [Ev.pif,Ev.yz0]
theorem zsx {P:yz1->Prop} (h:∀e:yz1,(∀x,x∈e.args->P x)->P e) (e:yz1):P e:=h e λx hx=>zsx h x
termination_by e
decreasing_by exact yz1.zxw hx
mutual
def z92:yz1->Nat
 |⟨_,_,_,l⟩=>1+zzq l
def zzq:List yz1->Nat
 |[]=>0
 |x::l=>z92 x+zzq l
end
mutual
def zgi:yz1->Nat
 |⟨_,_,_,l⟩=>max 1 (zkj l)
def zkj:List yz1->Nat
 |[]=>0
 |x::l=>max (1+zgi x) (zkj l)
end
theorem zcq (e:yz1):z92 e=1+zzq e.args:=by cases e;rw [z92]
theorem y6w (e:yz1):zgi e=max 1 (zkj e.args):=by cases e;rw [zgi]
theorem y1z {l:List yz1} {x:yz1} (h:x∈l):x.size<=(l.map yz1.size).sum:=by
 induction l with
 |nil=>cases h
 |cons y l ih=>
  rcases Qbi.1 h with rfl|h
  · simp
  · have:=ih h;simp;omega
theorem z5u (e:yz1):(e.args.map yz1.size).sum+e.name.length+e.value.size+4<=e.size:=by rw [yz1.size_eq];omega
theorem zgo {e x:yz1} (h:x∈e.args):x.size<=e.size:=by have:=y1z h;have:=z5u e;omega
theorem z8l (l:List yz1):l.length<=(l.map yz1.size).sum:=by
 induction l with
 |nil=>simp
 |cons x l ih=>have:=z5u x;simp;omega
theorem zph:∀e:yz1,z92 e<=e.size:=zsx λe ih=>by
 have:∀l:List yz1,(∀x,x∈l->x∈e.args)->zzq l<=(l.map yz1.size).sum:=λl=>by
  induction l with
  |nil=>intro _;simp [zzq]
  |cons x l ihl=>
   intro hl;have:=ih x (hl x Qak);have:=ihl λy hy=>hl y (Qai _ hy)
   simp [zzq];omega
 have:=this e.args λ_ h=>h
 have:=z5u e;rw [zcq];omega
theorem ypd:∀e:yz1,zgi e<=z92 e:=zsx λe ih=>by
 have:∀l:List yz1,(∀x,x∈l->x∈e.args)->zkj l<=1+zzq l:=λl=>by
  induction l with
  |nil=>intro _;simp [zzq,zkj]
  |cons x l ihl=>
   intro hl;have:=ih x (hl x Qak);have:=ihl λy hy=>hl y (Qai _ hy)
   simp [zzq,zkj];omega
 have:=this e.args λ_ h=>h
 rw [zcq,y6w];omega
theorem y8f (l:List yz1):zzq l<=(l.map yz1.size).sum:=by
 induction l with
 |nil=>simp [zzq]
 |cons x l ih=>have:=zph x;simp [zzq];omega
theorem yo9:∀e:yz1,e.size<=8388608->Ev (λn=>z7p n e) ((z92 e:Int),(zgi e:Int)):=zsx λe ih hs=>by
 have hsl:=z5u e;have hlen:=z8l e.args
 have loop:∀k,k<=e.args.length->∀d p:Nat,p+zzq (e.args.drop k)<=8388609->d<=8388609->Ev (λn=>z34 n (k:Int) (d:Int) (p:Int) e.args (e.args.length:Int)) (((p+zzq (e.args.drop k):Nat):Int),((max d (zkj (e.args.drop k)):Nat):Int)) :=
  down (λd p hp hd=>by
   rw [zmn,Ev.zz2 (by simp),Ev.yz0]
   simp [zzq,zkj]) λk hk ihk d p hp hd=>by
   have hx:=Qad hk;have hsx:=zgo hx;rw [<-Qah (h:=hk)] at hp ⊢;simp only [zzq,zkj] at hp ⊢;have hpl:=zph e.args[k];have hdl:=ypd e.args[k];rw [zmn,Ev.yz2 (by simpa using hk),Ev.zz1 (zz6 hk),yz1.zz4,Ev.kz0 (ih _ hx (by omega)),wI (x:=_+1) (by omega),wI (x:=(zgi _:Int)+1) (by omega),wI (x:=(p:Int)+_) (by omega)];have e1:(k:Int)+1=((k+1:Nat):Int):=by omega
   have e2:(zgi e.args[k]:Int)+1=((1+zgi e.args[k]:Nat):Int):=by omega
   have e3:(p:Int)+(z92 e.args[k]:Int)=((p+z92 e.args[k]:Nat):Int):=by omega
   rw [e1,e2,e3,y67];refine (ihk (max d (1+zgi e.args[k])) (p+z92 e.args[k]) (by omega) (by omega)).to ?_
   congr 2 <;> omega
 rw [y53];have hv:=y8f e.args;have:=loop 0 (Qbr _) 1 1 (by simp;omega) (by omega);refine this.to ?_;rw [zcq,y6w,List.drop_zero]
theorem y37:∀e:yz1,e.size<=8388608->Ev (λn=>z7d n e) (z92 e:Int):=zsx λe ih hs=>by
 have hsl:=z5u e;have hlen:=z8l e.args;rw [y84,yz1.zz4,zcq]
 have loop:∀k,k<=e.args.length->∀p:Nat,p+zzq (e.args.drop k)<=8388609->Ev (λn=>z4f n (k:Int) (p:Int) e) ((p+zzq (e.args.drop k):Nat):Int) :=
  down (λp hp=>by
   rw [zp1,Ev.zz2 (by simp),Ev.yz0]
   simp [zzq]) λk hk ihk p hp=>by
   have hx:=Qad hk;have hsx:=zgo hx;rw [<-Qah (h:=hk)] at hp ⊢;simp only [zzq] at hp ⊢;have hpl:=zph e.args[k];rw [zp1,Ev.yz2 (by simpa using hk),Ev.zz1 (zz6 hk),yz1.zz4,Ev.kz0 (ih _ hx (by omega)),wI (x:=_+1) (by omega),wI (x:=(p:Int)+_) (by omega)];have e1:(k:Int)+1=((k+1:Nat):Int):=by omega
   have e3:(p:Int)+(z92 e.args[k]:Int)=((p+z92 e.args[k]:Nat):Int):=by omega
   rw [e1,e3,yz1.zz4];refine (ihk (p+z92 e.args[k]) (by omega)).to ?_
   congr 1;omega
 have hv:=y8f e.args;exact loop 0 (Qbr _) 1 (by simp;omega)
theorem ytw:∀e:yz1,e.size<=8388608->Ev (λn=>zaq n e) (zgi e:Int):=zsx λe ih hs=>by
 have hsl:=z5u e;have hlen:=z8l e.args;rw [ydy,yz1.zz4,y6w]
 have loop:∀k,k<=e.args.length->∀p:Nat,p<=8388609->Ev (λn=>z6s n (k:Int) (p:Int) e) ((max p (zkj (e.args.drop k)):Nat):Int) :=
  down (λp hp=>by
   rw [zq8,Ev.zz2 (by simp),Ev.yz0]
   simp [zkj]) λk hk ihk p hp=>by
   have hx:=Qad hk;have hsx:=zgo hx;rw [<-Qah (h:=hk)];simp only [zkj];have hpl:=zph e.args[k];have hdl:=ypd e.args[k];rw [zq8,Ev.yz2 (by simpa using hk),Ev.zz1 (zz6 hk),yz1.zz4,Ev.kz0 (ih _ hx (by omega)),wI (x:=_+1) (by omega),wI (x:=1+_) (by omega)];have e1:(k:Int)+1=((k+1:Nat):Int):=by omega
   have e3:1+(zgi e.args[k]:Int)=((1+zgi e.args[k]:Nat):Int):=by omega
   rw [e1,e3,yz1.zz4,y67];refine (ihk (max p (1+zgi e.args[k])) (by omega)).to ?_
   congr 1;omega
 exact loop 0 (Qbr _) 1 (by omega)
def z94 (op:Int):Int :=
 if op=1∨op=2 then 0 else if (3<=op∧op<=10)∨op=13∨op=14∨op=17 then 2 else if op=11∨op=15∨op=16 then 1 else if op=12 then 3 else if op=18 then -1 else -2
theorem ops (op:Int):op=1∨op=2∨op=3∨op=4∨op=5∨op=6∨op=7∨op=8∨op=9∨op=10∨op=11∨op=12∨op=13∨op=14∨op=15∨op=16∨op=17∨op=18∨(op<1∨18<op):=by omega
theorem yta {op:Int}:Ev (λn=>zcz n op) (z94 op):=by
 rcases ops op with rfl|rfl|rfl|rfl|rfl|rfl|rfl|rfl|rfl|rfl|rfl|rfl|rfl|rfl|rfl|rfl|rfl|rfl|h
 case inr.inr.inr.inr.inr.inr.inr.inr.inr.inr.inr.inr.inr.inr.inr.inr.inr.inr=>
  have e:z94 op = -2:=by unfold z94;rw [Qbu (by omega),Qbu (by omega),Qbu (by omega),Qbu (by omega),Qbu (by omega)]
  rw [e];have n (j:Int) (h1:1<=j) (h2:j<=18):(op==j)=false:=by simp;omega
  simp [zvc,zqr,zr9,zqt,zpx,zr2,zqs,Ev.pif,Ev.yz0,n]
 all_goals simp [zvc,zqr,zr9,zqt,zpx,zr2,zqs,Ev.pif,Ev.yz0,z94]
theorem yuy {op:Int}:Ev (λn=>zct n op) (z94 op):=by
 rcases ops op with rfl|rfl|rfl|rfl|rfl|rfl|rfl|rfl|rfl|rfl|rfl|rfl|rfl|rfl|rfl|rfl|rfl|rfl|h
 case inr.inr.inr.inr.inr.inr.inr.inr.inr.inr.inr.inr.inr.inr.inr.inr.inr.inr=>
  have e:z94 op = -2:=by unfold z94;rw [Qbu (by omega),Qbu (by omega),Qbu (by omega),Qbu (by omega),Qbu (by omega)]
  rw [e];have n (j:Int) (h1:1<=j) (h2:j<=18):(op==j)=false:=by simp;omega
  rw [zvb,Ev.zz2 (n 1 (by omega) (by omega)),n 2 (by omega) (by omega),zro,Ev.zz2 (by rfl)];have l1:Ev (λm=>yzt m op false) (-2):=by simp [zqo,zqg,Ev.pif,Ev.yz0,n]
  by_cases h3:op>=3
  ·rw [Ev.yz2 (by simpa using h3),Ev.zz2 (by simp;omega),Ev.zz2 (n 13 (by omega) (by omega)),Ev.zz2 (n 14 (by omega) (by omega)),n 17 (by omega) (by omega)];exact l1
  ·rw [Ev.zz2 (by simpa using h3),Ev.zz2 (n 13 (by omega) (by omega)),Ev.zz2 (n 14 (by omega) (by omega)),n 17 (by omega) (by omega)];exact l1
 all_goals simp [zvb,zro,zqo,zqg,Ev.pif,Ev.yz0,z94]
noncomputable def yoh (op:Int) (v:kz1) (nm:List UInt8):Bool :=
 if op=1 then zxa v==0&&(v.kind != 4&&nm.isEmpty) else if op=2 then zsd nm&&eqB v v0 else nm.isEmpty&&eqB v v0
def ynf (op:Int) (k:Nat):Bool:=z94 op != -2&&(decide (z94 op<0)||(k:Int)==z94 op)
mutual
noncomputable def zod:yz1->Bool
 |⟨op,v,nm,l⟩=>ynf op l.length&&(yoh op v nm&&zd6 l)
noncomputable def zd6:List yz1->Bool
 |[]=>true
 |x::l=>zod x&&zd6 l
end
theorem yrx (e:yz1):zod e=(ynf e.op e.args.length&&(yoh e.op e.value e.name&&zd6 e.args)):=by cases e;rw [zod]
noncomputable def z96 (e:yz1):Int:=if 100<z92 e∨12<zgi e then 4 else if zod e then 0 else 8
theorem yw2 {e:yz1} (h:e.wf):e.value.wf:=by rw [yz1.z04] at h;exact h.2.1
theorem yyx {e:yz1} (h:e.wf):∀x∈e.args,x.wf:=by rw [yz1.z04] at h;exact h.2.2.2
theorem y36 (s:List UInt8):(!(s==[])) = !s.isEmpty:=by cases s <;> rfl
theorem yww:∀e:yz1,e.wf->e.size<=8388608->Ev (λn=>zc6 n e) (zod e):=zsx λe ih hw hs=>by
 have hsl:=z5u e;have hlen:=z8l e.args
 have idx:∀k,k<=e.args.length->∃i:Int,Ev (λn=>kz8 n (k:Int) e.args (e.args.length:Int)) i∧decide (i>=0) = !zd6 (e.args.drop k) :=
  down ⟨-1,by rw [z02,Ev.zz2 (by simp),Ev.yz0],by simp [zd6]⟩ λk hk ihk=>by
   have hx:=Qad hk;have hsx:=zgo hx
   have hf1:Ev (λn=>zbb n e.args[k]) (!zod e.args[k]):=by
    rw [ybp,yz1.zz4,Ev.kz0 (ih _ hx (yyx hw _ hx) (by omega)),Ev.yz0]
   obtain ⟨i,h1,h2⟩:=ihk;rw [<-Qah (h:=hk),zd6];cases hf:zod e.args[k]
   ·refine ⟨k,?_,by simp⟩;rw [z02,Ev.yz2 (by simpa using hk),Ev.zz1 (zz6 hk),yz1.zz4,Ev.kz0 hf1,Ev.yz2 (by rw [hf];rfl),Ev.yz0]
   ·refine ⟨i,?_,by rw [h2];rfl⟩;rw [z02,Ev.yz2 (by simpa using hk),Ev.zz1 (zz6 hk),yz1.zz4,Ev.kz0 hf1,Ev.zz2 (by rw [hf];rfl),wrk (by omega)];exact h1
 have l4:Ev (λn=>z5b n e) (zd6 e.args):=by
  obtain ⟨i,h1,h2⟩:=idx 0 (Qbr _);have hi:Ev (λn=>kzc n e.args) i:=by rw [zd9];exact h1
  have hc:Ev (λn=>kzb n e.args) (!zd6 e.args):=by
   rw [zbr,Ev.kz0 hi,Ev.yz0,h2];rfl
  rw [y4p,Ev.kz0 hc,Ev.yz0,Bool.not_not]
 have l1:∀b,Ev (λn=>z5d n b e) (!b&&zd6 e.args):=λb=>by
  rw [y4t];cases b
  ·rw [Ev.zz2 (by rfl),yz1.zz4];exact l4
  ·rw [Ev.yz2 (by rfl),Ev.yz0];rfl
 have l2:∀b,Ev (λn=>z7x n b e) (!b&&zd6 e.args):=λb=>by
  rw [y47];cases b
  ·rw [Ev.zz2 (by rfl),yz1.zz4];exact l4
  ·rw [Ev.yz2 (by rfl),Ev.yz0];rfl
 have l3:∀b,Ev (λn=>z7m n b e) (!b&&zd6 e.args):=λb=>by
  rw [y5q];cases b
  ·rw [Ev.zz2 (by rfl),yz1.zz4];exact l4
  ·rw [Ev.yz2 (by rfl),Ev.yz0];rfl
 have l0:∀b,Ev (λn=>z5c n b e) (!b&&(yoh e.op e.value e.name&&zd6 e.args)):=λb=>by
  rw [y5v];cases b
  case true=>rw [Ev.yz2 (by rfl),Ev.yz0];rfl
  rw [Ev.zz2 (by rfl)];have hsame:Ev (λn=>z2k n e.value (kz1.mk 0 (kz6.mk 0 0) false [] [])) (eqB e.value v0):=y86 e.value v0 (by omega);by_cases h1:e.op=1
  ·rw [Ev.yz2 (by simpa using h1),kz1.zz4,Ev.kz0 (ys5 (yw2 hw) (by omega)),yz1.zz4,y36];simp only [yoh,Qbt h1];by_cases hc:zxa e.value=0
   ·rw [Ev.zz2 (by simpa using hc)];by_cases hk:e.value.kind=4
    ·rw [Ev.yz2 (by simpa using hk)];refine (l1 true).to ?_;simp [hc,hk]
    ·rw [Ev.zz2 (by simpa using hk)];have hk':(e.value.kind != 4)=true:=by simpa using hk
     refine (l1 _).to ?_;simp [hc,hk']
   ·rw [Ev.yz2 (by simpa using hc)];refine (l1 true).to ?_;simp [hc]
  rw [Ev.zz2 (by simpa using h1)];by_cases h2:e.op=2
  ·rw [Ev.yz2 (by simpa using h2),Ev.kz0 (ysq (by omega)),kz1.zz4,yz1.zz4];simp only [yoh,Qbu h1,Qbt h2];cases hn:zsd e.name
   ·rw [Ev.yz2 (by rfl)];exact (l2 true).to (by simp)
   ·rw [Ev.zz2 (by rfl),Ev.kz0 hsame];exact (l2 _).to (by simp)
  ·rw [Ev.zz2 (by simpa using h2),y36,kz1.zz4,yz1.zz4];simp only [yoh,Qbu h1,Qbu h2];cases hn:e.name.isEmpty
   ·rw [Ev.yz2 (by rfl)];exact (l3 true).to (by simp)
   ·rw [Ev.zz2 (by rfl),Ev.kz0 hsame];exact (l3 _).to (by simp)
 rw [ylx,Ev.kz0 yta,yrx,yz1.zz4];unfold ynf;by_cases c1:z94 e.op = -2
 ·rw [Ev.yz2 (by simpa using c1)];exact (l0 true).to (by simp [c1])
 rw [Ev.zz2 (by simpa using c1)];by_cases c2:z94 e.op>=0
 ·rw [Ev.yz2 (by simpa using c2)];refine (l0 _).to ?_;rw [show decide (z94 e.op<0)=false by simpa using c2,show (z94 e.op != -2)=true by simpa using c1];simp only [bne,Bool.not_not,Bool.true_and,Bool.false_or]
 ·rw [Ev.zz2 (by simpa using c2)];refine (l0 _).to ?_;rw [show decide (z94 e.op<0)=true by simp;omega,show (z94 e.op != -2)=true by simpa using c1];simp
theorem ysw:∀e:yz1,e.size<=8388608->Ev (λn=>zai n e) (zod e):=zsx λe ih hs=>by
 have hsl:=z5u e;have hlen:=z8l e.args
 have loop:∀k,k<=e.args.length->Ev (λn=>z61 n (k:Int) e) (zd6 (e.args.drop k)) :=
  down (by rw [zq3,Ev.zz2 (by simp),Ev.yz0];simp [zd6]) λk hk ihk=>by
   have hx:=Qad hk;have hsx:=zgo hx;rw [<-Qah (h:=hk),zd6];rw [zq3,Ev.yz2 (by simpa using hk),Ev.zz1 (zz6 hk),yz1.zz4,Ev.kz0 (ih _ hx (by omega))];cases hf:zod e.args[k]
   ·rw [Ev.yz2 (by rfl),Ev.yz0];rfl
   ·rw [Ev.zz2 (by rfl),wrk (by omega),yz1.zz4,Bool.true_and];exact ihk
 have l2:∀b,Ev (λn=>z0b n b e) (!b&&zd6 e.args):=λb=>by
  rw [y31];cases b
  ·rw [Ev.zz2 (by rfl),yz1.zz4];exact loop 0 (Qbr _)
  ·rw [Ev.yz2 (by rfl),Ev.yz0];rfl
 have hgn:decide ((e.name.length:Int)>0) = !e.name.isEmpty:=by cases e.name <;> simp
 have l1:∀b,Ev (λn=>kzy n b e) (!b&&((if e.op=2 then zsd e.name else e.name.isEmpty)&&zd6 e.args)):=λb=>by
  rw [y2u];cases b
  case true=>rw [Ev.yz2 (by rfl),Ev.yz0];rfl
  rw [Ev.zz2 (by rfl),yz1.zz4,hgn];by_cases h2:e.op=2
  ·rw [Ev.yz2 (by simpa using h2),Qbt h2,Ev.kz0 (yqo (by omega))];cases hn:zsd e.name
   ·rw [Ev.yz2 (by rfl)];exact (l2 true).to (by simp)
   ·rw [Ev.zz2 (by rfl),Ev.zz2 (by simpa using h2)];exact (l2 false).to (by simp)
  ·rw [Ev.zz2 (by simpa using h2),Ev.yz2 (by simpa using h2),Qbu h2];exact (l2 _).to (by simp)
 have l0:∀b,Ev (λn=>z3g n b e) (!b&&(yoh e.op e.value e.name&&zd6 e.args)):=λb=>by
  rw [y1m];cases b
  case true=>rw [Ev.yz2 (by rfl),Ev.yz0];rfl
  rw [Ev.zz2 (by rfl),kz1.zz4,yz1.zz4];have hsame:Ev (λn=>z2l n e.value (kz1.mk 0 (kz6.mk 0 0) false [] [])) (eqB e.value v0):=yb4 e.value v0 (by omega);by_cases h1:e.op=1
  ·rw [Ev.yz2 (by simpa using h1),Ev.kz0 (ypb (by omega))];simp only [yoh,Qbt h1];by_cases hc:zxa e.value=0
   ·rw [Ev.zz2 (by simpa using hc)];by_cases hk:e.value.kind=4
    ·rw [Ev.yz2 (by simpa using hk)];refine (l1 true).to ?_;simp [hc,hk]
    ·rw [Ev.zz2 (by simpa using hk),Ev.zz2 (by simpa using h1)];have hk':(e.value.kind != 4)=true:=by simpa using hk
     refine (l1 _).to ?_;simp [hc,hk',h1]
   ·rw [Ev.yz2 (by simpa using hc)];refine (l1 true).to ?_;simp [hc]
  ·rw [Ev.zz2 (by simpa using h1),Ev.yz2 (by simpa using h1),Ev.kz0 hsame];refine (l1 _).to ?_;simp only [yoh,Qbu h1];split
   ·cases eqB e.value v0 <;> cases zsd e.name <;> simp
   ·cases eqB e.value v0 <;> cases e.name.isEmpty <;> simp
 rw [ydo,Ev.kz0 yuy,yrx,yz1.zz4];unfold ynf;by_cases c1:z94 e.op = -2
 ·rw [Ev.yz2 (by simpa using c1)];exact (l0 true).to (by simp [c1])
 rw [Ev.zz2 (by simpa using c1)];by_cases c2:z94 e.op>=0
 ·rw [Ev.yz2 (by simpa using c2)];refine (l0 _).to ?_;rw [show decide (z94 e.op<0)=false by simpa using c2,show (z94 e.op != -2)=true by simpa using c1];simp only [bne,Bool.not_not,Bool.true_and,Bool.false_or]
 ·rw [Ev.zz2 (by simpa using c2)];refine (l0 _).to ?_;rw [show decide (z94 e.op<0)=true by simp;omega,show (z94 e.op != -2)=true by simpa using c1];simp
theorem zrr {e:yz1} (hw:e.wf) (hs:e.size<=8388608):Ev (λn=>z2i n e) (z96 e):=by
 have l0:∀b,Ev (λn=>z5t n b e) (if b then 4 else if zod e then 0 else 8):=λb=>by
  rw [y0s];cases b
  ·rw [Ev.zz2 (by rfl),yz1.zz4,Ev.kz0 (yww e hw hs)];cases zod e
   ·rw [Ev.yz2 (by rfl),Ev.yz0];rfl
   ·rw [Ev.zz2 (by rfl),Ev.yz0];rfl
  ·rw [Ev.yz2 (by rfl),Ev.yz0];rfl
 rw [ydl,yz1.zz4,Ev.kz0 (yo9 e hs)];unfold z96;simp only [Ev.pif];by_cases h1:100<z92 e
 ·rw [Qbt (by simp;omega),Qbt (.inl h1)];exact l0 true
 ·rw [Qbu (by simp;omega)];by_cases h2:12<zgi e
  ·rw [Qbt (.inr h2),show decide ((zgi e:Int)>12)=true by simp;omega];exact l0 true
  ·rw [Qbu (by omega),show decide ((zgi e:Int)>12)=false by simp;omega];exact l0 false
theorem zhb {e:yz1} (hs:e.size<=8388608):Ev (λn=>z1h n e) (z96 e):=by
 have l0:∀b,Ev (λn=>z56 n b e) (if b then 4 else if zod e then 0 else 8):=λb=>by
  rw [zyv];cases b
  ·rw [Ev.zz2 (by rfl),yz1.zz4,Ev.kz0 (ysw e hs)];cases zod e
   ·rw [Ev.yz2 (by rfl),Ev.yz0];rfl
   ·rw [Ev.zz2 (by rfl),Ev.yz0];rfl
  ·rw [Ev.yz2 (by rfl),Ev.yz0];rfl
 rw [yaf,yz1.zz4,Ev.kz0 (y37 e hs)];unfold z96;by_cases h1:100<z92 e
 ·rw [Ev.yz2 (by simp;omega),Qbt (.inl h1)];exact l0 true
 ·rw [Ev.zz2 (by simp;omega),Ev.kz0 (ytw e hs)];by_cases h2:12<zgi e
  ·rw [Qbt (.inr h2),show decide ((zgi e:Int)>12)=true by simp;omega];exact l0 true
  ·rw [Qbu (by omega),show decide ((zgi e:Int)>12)=false by simp;omega];exact l0 false
theorem y3s {e:yz1} (h:z96 e=0):zod e=true∧z92 e<=100∧zgi e<=12:=by
 unfold z96 at h;split at h
 ·cases h
 ·split at h
  ·exact ⟨‹_›,by omega,by omega⟩
  ·cases h
theorem ypc:∀e:yz1,e.size<=8388608->∀d:Int,∃b,Ev (λn=>z98 n e d) b:=zsx λe ih hs d=>by
 have hsl:=z5u e;have hlen:=z8l e.args
 have loop:∀k,k<=e.args.length->∀d:Int,∃b,Ev (λn=>z4d n (k:Int) d e) b :=
  down (λd=>⟨false,by rw [zou,Ev.zz2 (by simp),Ev.yz0]⟩) λk hk ihk d=>by
   have hx:=Qad hk;have hsx:=zgo hx;obtain ⟨b,hb⟩:=ih _ hx (by omega) (IntKind.i64.wrap (d-1));obtain ⟨c,hc⟩:=ihk d;refine ⟨if b then true else c,?_⟩;rw [zou,Ev.yz2 (by simpa using hk),Ev.zz1 (zz6 hk),yz1.zz4,Ev.kz0 hb,yz1.zz4,wrk (by omega)];cases b
   ·rw [Ev.zz2 (by rfl)];exact hc
   ·rw [Ev.yz2 (by rfl),Ev.yz0];rfl
 have l0:∀d b,∃c,Ev (λn=>z0x n d b e) c:=λd b=>by
  cases b
  ·obtain ⟨c,hc⟩:=loop 0 (Qbr _) d;exact ⟨c,by rw [zox,Ev.zz2 (by rfl),yz1.zz4];exact hc⟩
  ·exact ⟨true,by rw [zox,Ev.yz2 (by rfl),Ev.yz0]⟩
 obtain ⟨g,hg⟩:=yrv (v:=e.value) (by omega);simp only [yal,yz1.zz4,kz1.zz4,Ev.pif,Ev.kz0 hg];split
 ·exact l0 _ _
 split
 ·exact l0 _ _
 split
 ·exact l0 _ _
 ·exact l0 _ _
theorem zo3 {e:yz1} (hs:e.size<=8388608):∃b,Ev (λn=>z41 n e) b:=by
 obtain ⟨b,hb⟩:=ypc e hs 16;cases b
 ·exact ⟨_,by rw [ztr,yz1.zz4,Ev.kz0 hb,Ev.zz2 (by rfl),Ev.kz0 (y37 e hs)];exact Ev.yz0.2 rfl⟩
 ·exact ⟨true,by rw [ztr,yz1.zz4,Ev.kz0 hb,Ev.yz2 (by rfl),Ev.yz0]⟩
theorem zu1 (l:List yz1):l.length<=zzq l:=by
 induction l with
 |nil=>simp
 |cons x l ih=>have:=zcq x;simp [zzq];omega
mutual
def zm9:yz1->List (List UInt8)->List (List UInt8)
 |⟨op,_,nm,l⟩,acc=>zcg l (if op=2∧nm∉acc then acc++[nm] else acc)
def zcg:List yz1->List (List UInt8)->List (List UInt8)
 |[],acc=>acc
 |x::l,acc=>zcg l (zm9 x acc)
end
theorem y2l (e:yz1) (acc:List (List UInt8)):zm9 e acc=zcg e.args (if e.op=2∧e.name∉acc then acc++[e.name] else acc):=by cases e;rw [zm9]
mutual
def zpg:yz1->List (List UInt8)->List (List UInt8)
 |⟨op,_,nm,l⟩,acc=>zca l (if op=2 then ins acc nm else acc)
def zca:List yz1->List (List UInt8)->List (List UInt8)
 |[],acc=>acc
 |x::l,acc=>zca l (zpg x acc)
end
theorem y96 (e:yz1) (acc:List (List UInt8)):zpg e acc=zca e.args (if e.op=2 then ins acc e.name else acc):=by cases e;rw [zpg]
theorem yor:∀(e:yz1) (a b:List (List UInt8)),a.Nodup->zkn b->(∀x,x∈a↔x∈b)->(zm9 e a).Nodup∧zkn (zpg e b)∧(∀x,x∈zm9 e a↔x∈zpg e b)∧(zm9 e a).length<=a.length+z92 e∧(zpg e b).length<=b.length+z92 e:=zsx λe ih a b ha hb hab=>by
 have hL:∀(l:List yz1),(∀x∈l,x∈e.args)->∀a b:List (List UInt8),a.Nodup->zkn b->(∀x,x∈a↔x∈b)->(zcg l a).Nodup∧zkn (zca l b)∧(∀x,x∈zcg l a↔x∈zca l b)∧(zcg l a).length<=a.length+zzq l∧(zca l b).length<=b.length+zzq l:=λl=>by
  induction l with
  |nil=>intro _ a b ha hb hab;simp only [zcg,zca,zzq];exact ⟨ha,hb,hab,Qbs _,Qbs _⟩
  |cons x l ihl=>
   intro hm a b ha hb hab;obtain ⟨h1,h2,h3,h4,h5⟩:=ih x (hm x Qak) a b ha hb hab;obtain ⟨k1,k2,k3,k4,k5⟩:=ihl (λy hy=>hm y (Qai _ hy)) _ _ h1 h2 h3;simp only [zcg,zca,zzq];exact ⟨k1,k2,k3,by omega,by omega⟩
 rw [y2l,y96,zcq];by_cases h2:e.op=2
 ·rw [Qbt h2];by_cases hn:e.name∈a
  ·rw [Qbu (by simp [hn])]
   obtain ⟨k1,k2,k3,k4,k5⟩:=hL e.args (λ_ h=>h) a (ins b e.name) ha (zw3 hb) (λx=>by
    rw [y6d,<-hab]
    exact ⟨.inl,λh=>h.elim id λh=>by rw [h];exact hn⟩)
   have:=zya e.name b;exact ⟨k1,k2,k3,by omega,by omega⟩
  ·rw [Qbt ⟨h2,hn⟩]
   obtain ⟨k1,k2,k3,k4,k5⟩:=hL e.args (λ_ h=>h) (a++[e.name]) (ins b e.name) (by
    rw [List.nodup_append];refine ⟨ha,by simp,λx hx y hy => ?_⟩
    rw [Qbc.1 hy];intro h;subst h;exact hn hx) (zw3 hb) (λx=>by
    rw [y6d,<-hab,Qbb,Qbc])
   have:=zya e.name b;rw [Qap,List.length_singleton] at k4;exact ⟨k1,k2,k3,by omega,by omega⟩
 ·rw [Qbu h2,Qbu (λh=>h2 h.1)];obtain ⟨k1,k2,k3,k4,k5⟩:=hL e.args (λ_ h=>h) a b ha hb hab;exact ⟨k1,k2,k3,by omega,by omega⟩
theorem yqf (e:yz1):z71 (zm9 e [])=zpg e []:=by
 obtain ⟨h1,h2,h3,_⟩:=yor e [] [] (by simp) (by simp [zkn]) (by simp);exact zve (yjl h1) h2 λx=>by rw [(zsj _).mem_iff,h3]
theorem y9k:∀(e:yz1) (a:List (List UInt8)),(zm9 e a).length<=a.length+z92 e:=zsx λe ih a=>by
 have hL:∀(l:List yz1),(∀x∈l,x∈e.args)->∀a:List (List UInt8),(zcg l a).length<=a.length+zzq l:=λl=>by
  induction l with
  |nil=>intro _ a;simp [zcg,zzq]
  |cons x l ihl=>
   intro hm a;have h1:=ih x (hm x Qak) a;have h2:=ihl (λy hy=>hm y (Qai _ hy)) (zm9 x a);simp only [zcg,zzq];omega
 rw [y2l,zcq];have:=hL e.args (λ_ h=>h) (if e.op=2∧e.name∉a then a++[e.name] else a);have h2:(if e.op=2∧e.name∉a then a++[e.name] else a).length<=a.length+1:=by split <;> simp
 omega
theorem yhx:∀(e:yz1) (a:List (List UInt8)),(zpg e a).length<=a.length+z92 e:=zsx λe ih a=>by
 have hL:∀(l:List yz1),(∀x∈l,x∈e.args)->∀a:List (List UInt8),(zca l a).length<=a.length+zzq l:=λl=>by
  induction l with
  |nil=>intro _ a;simp [zca,zzq]
  |cons x l ihl=>
   intro hm a;have h1:=ih x (hm x Qak) a;have h2:=ihl (λy hy=>hm y (Qai _ hy)) (zpg x a);simp only [zca,zzq];omega
 rw [y96,zcq];have hi:=zya e.name a;have:=hL e.args (λ_ h=>h) (if e.op=2 then ins a e.name else a);split at this
 ·rename_i h;rw [Qbt h];omega
 ·rename_i h;rw [Qbu h];omega
theorem yx0 {l:List (List UInt8)} (hl:l.length<=8388608) {s:List UInt8}:∃i:Int,Ev (λn=>yzl n s l) (i,l)∧decide (i>=0)=decide (s∈l):=by
 have loop:∀k,k<=l.length->∃i:Int,Ev (λn=>zze n (k:Int) s (l.length:Int) l) (i,l)∧decide (i>=0)=decide (s∈l.drop k) :=
  down ⟨-1,by rw [z2o,Ev.zz2 (by simp),Ev.yz0],by simp⟩ λk hk ih=>by
   obtain ⟨i,h1,h2⟩:=ih;by_cases he:s=l[k]
   ·refine ⟨k,?_,?_⟩
    ·rw [z2o,Ev.yz2 (by simpa using hk),Ev.zz1 (zz6 hk),Ev.yz2 (by simpa using he),Ev.yz0]
    ·have:s∈l.drop k:=by rw [<-Qah (h:=hk),he];exact Qak
     simp [this]
   ·refine ⟨i,?_,?_⟩
    ·rw [z2o,Ev.yz2 (by simpa using hk),Ev.zz1 (zz6 hk),Ev.zz2 (by simpa using he),wrk (by omega)];exact h1
    ·rw [h2]
     have:(s∈l.drop k)↔(s∈l.drop (k+1)):=by
      rw [<-Qah (h:=hk),Qbi];exact ⟨λh=>h.elim (λh=>(he h).elim) id,.inr⟩
     exact decide_eq_decide.2 this.symm
 obtain ⟨i,h1,h2⟩:=loop 0 (Qbr _);exact ⟨i,by rw [zi1];exact h1,by simpa using h2⟩
theorem yue:∀(e:yz1) (acc:List (List UInt8)),acc.length+z92 e<=8388608->Ev (λn=>zac n e acc) (zm9 e acc):=zsx λe ih acc hb=>by
 rw [zcq] at hb
 have loop:∀k,k<=e.args.length->∀acc:List (List UInt8),acc.length+zzq (e.args.drop k)<=8388608->Ev (λn=>z6x n (k:Int) e.args (e.args.length:Int) acc) (zcg (e.args.drop k) acc) :=
  down (λacc hb=>by rw [zpv,Ev.zz2 (by simp),Ev.yz0];simp [zcg]) λk hk ihk acc hb=>by
   have hx:=Qad hk;have hlen:=zu1 e.args;rw [<-Qah (h:=hk)] at hb ⊢;simp only [zcg,zzq] at hb ⊢;have:=y9k e.args[k] acc
   have hk2:k<=8388609:=by
    have:=zu1 e.args;omega
   rw [zpv,Ev.yz2 (by simpa using hk),Ev.zz1 (zz6 hk),yz1.zz4,Ev.kz0 (ih _ hx _ (by omega)),wrk (by omega)];exact ihk _ (by omega)
 have l1:∀acc:List (List UInt8),acc.length+zzq e.args<=8388608->Ev (λn=>z6d n acc e) (zcg e.args acc):=λacc hb=>by
  rw [y1q];simpa using loop 0 (Qbr _) acc (by simpa using hb)
 rw [yf5,y2l];by_cases h2:e.op=2
 ·obtain ⟨i,h3,h4⟩:=yx0 (l:=acc) (by omega) (s:=e.name)
  have hc:Ev (λn=>kzh n e.name acc) (decide (e.name∈acc),acc):=by
   rw [zfn,Ev.kz0 h3,Ev.yz0,h4]
  rw [Ev.yz2 (by simpa using h2),Ev.kz0 hc,yz1.zz4,zpq];by_cases hn:e.name∈acc
  ·rw [Ev.zz2 (by simpa using hn),Qbu (by simp [hn]),yz1.zz4];exact l1 acc (by omega)
  ·rw [Ev.yz2 (by simpa using hn),Qbt ⟨h2,hn⟩,Ev.zz1 (za5 (by simp;omega)),yz1.zz4];exact l1 _ (by simp;omega)
 ·rw [Ev.zz2 (by simpa using h2),Qbu (λh=>h2 h.1),yz1.zz4,zpq,Ev.zz2 (by rfl),yz1.zz4];exact l1 _ (by omega)
theorem ysj {α:Type} {p:α->Bool}:∀{l:List α},(∀x∈l,p x=true)->l.takeWhile p=l∧l.dropWhile p=[]
 |[],_=>⟨rfl,rfl⟩
 |x::l,h=>by
  have hx:=h x Qak;obtain ⟨h1,h2⟩:=ysj (l:=l) λy hy=>h y (Qai _ hy)
  rw [List.takeWhile_cons_of_pos hx,List.dropWhile_cons_of_pos hx,h1,h2];exact ⟨rfl,rfl⟩
theorem ywq {l:List (List UInt8)} {k:Nat} (hk:k<=l.length) (s:List UInt8) :
  zxi (l++[[]]) ((k+1:Nat):Int) (k:Int)=some (l.take k++[(l++[[]])[k]'(by simp;omega)]++l.drop k)∧((l.take k++[(l++[[]])[k]'(by simp;omega)]++l.drop k).set k s=l.take k++s::l.drop k):=by
 constructor
 ·unfold zxi;rw [Qbt (by simp;omega)]
  congr 1
  have e1:((k+1:Nat):Int).toNat=k+1:=by simp
  have e2:((k:Nat):Int).toNat=k:=by simp
  rw [e1,e2];have e3:min ((l++[[]]).length-k) ((l++[[]]).length-(k+1))=l.length-k:=by simp;omega
  rw [e3,show k+1+(l.length-k)=l.length+1 by omega];have e4:(l++[[]]).drop (l.length+1)=[]:=List.drop_of_length_le (by simp)
  have e5:((l++[[]]).drop k).take (l.length-k)=l.drop k:=by
   rw [List.drop_append_of_le_length hk,List.take_append_of_le_length (by simp),List.take_of_length_le (by simp)]
  have e6:(l++[[]]).take (k+1)=l.take k++[(l++[[]])[k]'(by simp;omega)]:=by
   have hlt:k<(l++[[]]).length:=by simp;omega
   rw [<-yzi hlt,List.take_append_of_le_length hk]
  rw [e4,e5,e6,List.append_nil]
 ·have hl:(l.take k).length=k:=by simp;omega
  rw [Qaz,List.set_append,Qbu (by omega),hl,Nat.sub_self];rfl
theorem yu4:∀(e:yz1) (acc:List (List UInt8)),acc.length+z92 e<=8388608->Ev (λn=>za6 n e acc) (zpg e acc):=zsx λe ih acc hb=>by
 rw [zcq] at hb
 have loop:∀k,k<=e.args.length->∀acc:List (List UInt8),acc.length+zzq (e.args.drop k)<=8388608->Ev (λn=>z6j n (k:Int) acc e) (zca (e.args.drop k) acc) :=
  down (λacc hb=>by rw [zpo,Ev.zz2 (by simp),Ev.yz0];simp [zca]) λk hk ihk acc hb=>by
   have hx:=Qad hk;have hlen:=zu1 e.args;rw [<-Qah (h:=hk)] at hb ⊢;simp only [zca,zzq] at hb ⊢;have:=yhx e.args[k] acc;rw [zpo,Ev.yz2 (by simpa using hk),Ev.zz1 (zz6 hk),yz1.zz4,Ev.kz0 (ih _ hx _ (by omega)),wrk (by omega),yz1.zz4];exact ihk _ (by omega)
 have l3:∀acc:List (List UInt8),acc.length+zzq e.args<=8388608->Ev (λn=>z3d n acc e) (zca e.args acc):=λacc hb=>by
  rw [y2f,yz1.zz4];simpa using loop 0 (Qbr _) acc (by simpa using hb)
 rw [yhe,yz1.zz4,y96];by_cases h2:e.op=2
 case neg=>rw [Ev.zz2 (by simpa using h2),Qbu h2];exact l3 _ (by omega)
 rw [Ev.yz2 (by simpa using h2),Qbt h2];have hil:=zya e.name acc
 have fin:∀k,k<=acc.length->acc.takeWhile (λx=>Op.bytesLess x e.name)=acc.take k->acc.dropWhile (λx=>Op.bytesLess x e.name)=acc.drop k->Ev (λn=>z6z n (k:Int) false e acc) (zca e.args (ins acc e.name)):=λk hk ht hd=>by
  have hins:=z02a e.name acc;rw [ht,hd] at hins
  have put:ins acc e.name=acc.take k++e.name::acc.drop k->Ev (λn=>z60 n (k:Int) true e acc) (zca e.args (ins acc e.name)):=λhi=>by
   obtain ⟨s1,s2⟩:=ywq hk e.name;have hx:ext acc [[]]=some (acc++[[]]):=za5 (by simp;omega);have hc1:yqr (acc++[[]]) ((k+1:Nat):Int)=some ():=by unfold yqr;rw [Qbt (by simp;omega)]
   have hc2:yqr (acc++[[]]) (k:Int)=some ():=by unfold yqr;rw [Qbt (by simp;omega)]
   have hg:ix (acc.take k++[(acc++[[]])[k]'(by simp;omega)]++acc.drop k) (k:Int)=some ((acc++[[]])[k]'(by simp;omega)):=by
    rw [yad,Qaz,Qav (by simp;omega)];simp [Nat.min_eq_left hk]
   rw [zpk,Ev.yz2 (by rfl),Ev.zz1 hx,wrk (by omega),Ev.zz1 hc1,Ev.zz1 hc2,Ev.zz1 s1,Ev.zz1 hg,yz1.zz4,Qbm,s2,<-hi];exact l3 _ (by omega)
  rw [zri,Ev.zz2 (by rfl),yz1.zz4];by_cases he:k=acc.length
  ·rw [Ev.yz2 (by simp;omega)];exact put (by rw [hins,Qbu (by rw [List.drop_of_length_le (by omega)];simp)])
  ·have hlt:k<acc.length:=by omega
   rw [Ev.zz2 (by simp;omega),Ev.zz1 (zz6 hlt)];have hhead:(acc.drop k).head?=some acc[k]:=by rw [<-Qah (h:=hlt)];rfl
   by_cases heq:acc[k]=e.name
   ·rw [show (!(acc[k]==e.name))=false by simpa using heq,zpk,Ev.zz2 (by rfl),yz1.zz4];have:ins acc e.name=acc:=by rw [hins,Qbt (by rw [hhead,heq])]
    rw [this];exact l3 _ (by omega)
   ·rw [show (!(acc[k]==e.name))=true by simpa using heq];exact put (by rw [hins,Qbu (by rw [hhead];simpa using heq)])
 have place:∀k,k<=acc.length->(acc.take k).all (λx=>Op.bytesLess x e.name)=true->Ev (λn=>z3i n (k:Int) e acc) (zca e.args (ins acc e.name)) :=
  down (Q:=λk=>(acc.take k).all (λx=>Op.bytesLess x e.name)=true->Ev (λn=>z3i n (k:Int) e acc) (zca e.args (ins acc e.name))) (λhall=>by
   rw [List.take_length] at hall;rw [Qat] at hall;rw [zr8,Ev.zz2 (by simp),yz1.zz4];refine fin _ (Qbs _) ?_ ?_
   ·rw [List.take_length];exact (ysj hall).1
   ·rw [List.drop_length];exact (ysj hall).2) λk hk ihk hall=>by
   have hsplit:acc=acc.take k++acc.drop k:=(List.take_append_drop k acc).symm;rw [zr8,Ev.yz2 (by simpa using hk),Ev.zz1 (zz6 hk),yz1.zz4];cases hb:Op.bytesLess acc[k] e.name
   ·rw [Qat] at hall;refine fin k (by omega) ?_ ?_
    ·conv=>lhs;rw [hsplit]
     rw [List.takeWhile_append_of_pos hall,<-Qah (h:=hk),List.takeWhile_cons_of_neg (by simp [hb]),List.append_nil]
    ·conv=>lhs;rw [hsplit]
     rw [List.dropWhile_append_of_pos hall,<-Qah (h:=hk),List.dropWhile_cons_of_neg (by simp [hb])]
   ·rw [zri,Ev.yz2 (by rfl),wrk (by omega),yz1.zz4];refine ihk ?_;rw [<-yzi hk,List.all_append,hall];simp [hb]
 exact place 0 (Qbr _) (by simp)
noncomputable def zgx (e:yz1):List (List UInt8)×Int:=if z96 e≠0 then ([],z96 e) else (zpg e [],0)
theorem yuh {e:yz1} (hw:e.wf) (hs:e.size<=8388608):Ev (λn=>zd2 n e) (zgx e):=by
 rw [ydv,yz1.zz4,Ev.kz0 (zrr hw hs)];unfold zgx;by_cases hc:z96 e=0
 case neg=>rw [Ev.yz2 (by simpa using hc),Ev.yz0,Qbt hc]
 obtain ⟨_,hp,_⟩:=y3s hc;have hl:=y9k e []
 have hsort:Ev (λn=>z2p n (zm9 e [])) (zpg e []):=by
  refine .same (λn => ?_) (.pure rfl);unfold z2p;rw [Qbt (by simp at hl;omega),yqf]
 rw [Ev.zz2 (by simpa using hc),Qbu (by simpa using hc),Ev.kz0 (yue e [] (by simp;omega)),Ev.kz0 hsort,Ev.yz0]
theorem ypw {e:yz1} (hs:e.size<=8388608):Ev (λn=>zbc n e) (zgx e):=by
 rw [y8d,yz1.zz4,Ev.kz0 (zhb hs)];unfold zgx;by_cases hc:z96 e=0
 case neg=>rw [Ev.yz2 (by simpa using hc),Ev.kz0 (zhb hs),Ev.yz0,Qbt hc]
 obtain ⟨_,hp,_⟩:=y3s hc;rw [Ev.zz2 (by simpa using hc),Qbu (by simpa using hc),Ev.kz0 (yu4 e [] (by simp;omega)),Ev.yz0]
end Go.Proofs.YtomdnlaakelghaaGreat
namespace Go.Ab
open Go
set_option linter.unusedVariables false
def y04 (s:List UInt8):Nat:=if s.length<=1048576 then 0 else s.length
theorem ym0 (s:List UInt8):s.length<=y04 s+1048576:=by unfold y04;split <;> omega
theorem y9u (s:List UInt8):y04 s<=s.length:=by unfold y04;split <;> omega
theorem yxt {s:List UInt8} (h:s.length<=1048576):y04 s=0:=by unfold y04;rw [Qbt h]
theorem zrt {α:Type} {f g:α->Nat}:∀{l:List α},(∀x∈l,f x<=g x)->(l.map f).sum<=(l.map g).sum
 |[],_=>Qbs _
 |x::l,h=>by
  simp only [List.map_cons,List.sum_cons];exact Nat.add_le_add (h x Qak) (zrt λy hy=>h y (Qai _ hy))
def yz7.sz (x:yz7):Nat:=1+(y04 x.name+1)+((x.args.map yz1.size).sum+1)+1
theorem yz7.zzr (x:yz7):x.sz=1+(y04 x.name+1)+((x.args.map yz1.size).sum+1)+1:=rfl
theorem yz7.zq4 (x:yz7):x.sz<=x.size:=by rw [yz7.zzr,yz7.size_eq];have:=y9u x.name;omega
def zz3.sz (x:zz3):Nat:=1+1+(y04 x.name+1)+((x.args.map yz1.size).sum+1)+((x.items.map yz7.sz).sum+1)+1
theorem zz3.zzr (x:zz3):x.sz=1+1+(y04 x.name+1)+((x.args.map yz1.size).sum+1)+((x.items.map yz7.sz).sum+1)+1:=rfl
theorem zz3.zq4 (x:zz3):x.sz<=x.size:=by rw [zz3.zzr,zz3.size_eq];have:=y9u x.name;have:=zrt (l:=x.items) λy _=>y.zq4;omega
def yz4.sz (x:yz4):Nat:=1+x.when_.size+((x.do_.map zz3.sz).sum+1)+1
theorem yz4.zzr (x:yz4):x.sz=1+x.when_.size+((x.do_.map zz3.sz).sum+1)+1:=rfl
theorem yz4.zq4 (x:yz4):x.sz<=x.size:=by rw [yz4.zzr,yz4.size_eq];have:=zrt (l:=x.do_) λy _=>y.zq4;omega
def yz3.sz (x:yz3):Nat:=(y04 x.name+1)+((x.params.map (λs=>s.length+1)).sum+1)+((x.cases.map yz4.sz).sum+1)+1
theorem yz3.zzr (x:yz3):x.sz=(y04 x.name+1)+((x.params.map (λs=>s.length+1)).sum+1)+((x.cases.map yz4.sz).sum+1)+1:=rfl
theorem yz3.zq4 (x:yz3):x.sz<=x.size:=by rw [yz3.zzr,yz3.size_eq];have:=y9u x.name;have:=zrt (l:=x.cases) λy _=>y.zq4;omega
def zz0.sz (x:zz0):Nat:=((x.attrs.map yz5.size).sum+1)+((x.rules.map yz3.sz).sum+1)+1
theorem zz0.zzr (x:zz0):x.sz=((x.attrs.map yz5.size).sum+1)+((x.rules.map yz3.sz).sum+1)+1:=rfl
theorem zz0.zq4 (x:zz0):x.sz<=x.size:=by rw [zz0.zzr,zz0.size_eq];have:=zrt (l:=x.rules) λy _=>y.zq4;omega
def rn (f t s:List UInt8):List UInt8:=if s=f then t else s
def zsw (f t:List UInt8) (x:yz7):yz7:=⟨x.kind,rn f t x.name,x.args⟩
def zrp (f t:List UInt8) (x:zz3):zz3:=⟨x.kind,x.axis,rn f t x.name,x.args,x.items.map (zsw f t)⟩
def zp8 (f t:List UInt8) (x:yz4):yz4:=⟨x.weight,x.when_,x.do_.map (zrp f t)⟩
def zla (f t:List UInt8) (x:yz3):yz3:=⟨rn f t x.name,x.params,x.cases.map (zp8 f t)⟩
def y5g (f t:List UInt8) (x:zz0):zz0:=⟨x.attrs,x.rules.map (zla f t)⟩
variable {f t : List UInt8}
theorem yuk (ht:t.length<=1048576) (s:List UInt8):y04 (rn f t s)<=y04 s:=by
 unfold rn;split
 ·rw [yxt ht];omega
 ·exact Qbs _
theorem z02r (ht:t.length<=1048576) (x:yz7):(zsw f t x).sz<=x.sz:=by
 rw [yz7.zzr,yz7.zzr];have:=yuk (f:=f) ht x.name;simp only [zsw];omega
theorem z035 (ht:t.length<=1048576) (x:zz3):(zrp f t x).sz<=x.sz:=by
 rw [zz3.zzr,zz3.zzr];have:=yuk (f:=f) ht x.name;simp only [zrp,List.map_map];have:=zrt (l:=x.items) (f:=yz7.sz∘zsw f t) (g:=yz7.sz) λy _=>z02r ht y
 omega
theorem z02w (ht:t.length<=1048576) (x:yz4):(zp8 f t x).sz<=x.sz:=by
 rw [yz4.zzr,yz4.zzr];simp only [zp8,List.map_map];have:=zrt (l:=x.do_) (f:=zz3.sz∘zrp f t) (g:=zz3.sz) λy _=>z035 ht y
 omega
theorem z03s (ht:t.length<=1048576) (x:yz3):(zla f t x).sz<=x.sz:=by
 rw [yz3.zzr,yz3.zzr];have:=yuk (f:=f) ht x.name;simp only [zla,List.map_map];have:=zrt (l:=x.cases) (f:=yz4.sz∘zp8 f t) (g:=yz4.sz) λy _=>z02w ht y
 omega
theorem z03k (ht:t.length<=1048576) (x:zz0):(y5g f t x).sz<=x.sz:=by
 rw [zz0.zzr,zz0.zzr];simp only [y5g,List.map_map];have:=zrt (l:=x.rules) (f:=yz3.sz∘zla f t) (g:=yz3.sz) λy _=>z03s ht y
 omega
theorem z03n {x:yz7} (h:x.wf):(zsw f t x).wf:=by rw [yz7.z04] at h ⊢;exact h
theorem z03m {x:zz3} (h:x.wf):(zrp f t x).wf:=by
 rw [zz3.z04] at h ⊢;refine ⟨h.1,h.2.1,h.2.2.1,h.2.2.2.1,λy hy => ?_⟩;obtain ⟨z,hz,rfl⟩:=Qbf.1 hy;exact z03n (h.2.2.2.2 z hz)
theorem z02x {x:yz4} (h:x.wf):(zp8 f t x).wf:=by
 rw [yz4.z04] at h ⊢;refine ⟨h.1,h.2.1,λy hy => ?_⟩;obtain ⟨z,hz,rfl⟩:=Qbf.1 hy;exact z03m (h.2.2 z hz)
theorem z033 {x:yz3} (h:x.wf):(zla f t x).wf:=by
 rw [yz3.z04] at h ⊢;refine ⟨h.1,h.2.1,λy hy => ?_⟩;obtain ⟨z,hz,rfl⟩:=Qbf.1 hy;exact z02x (h.2.2 z hz)
theorem z032 {x:zz0} (h:x.wf):(y5g f t x).wf:=by
 rw [zz0.z04] at h ⊢;refine ⟨h.1,λy hy => ?_⟩;obtain ⟨z,hz,rfl⟩:=Qbf.1 hy;exact z033 (h.2 z hz)
end Go.Ab
namespace Go.Proofs.YtomdnlaakelghaaGreat
open Go Go.Ab
set_option linter.unusedVariables false
set_option linter.unusedSimpArgs false
theorem znj {α:Type} {f:α->Nat}:∀{l:List α} {x:α},x∈l->f x<=(l.map f).sum
 |y::l,x,h=>by
  simp only [List.map_cons,List.sum_cons]
  rcases Qbi.1 h with h|h
  · subst h;omega
  · have:=znj (f:=f) h;omega
theorem zog {α:Type} {f:α->Nat} (hf:∀x,1<=f x):∀l:List α,l.length<=(l.map f).sum
 |[]=>by simp
 |x::l=>by have:=zog hf l;have:=hf x;simp only [List.length_cons,List.map_cons,List.sum_cons];omega
def z9z (l:List yz1):yz1:=⟨18,⟨0,⟨0,0⟩,false,[],[]⟩,[],l⟩
theorem zdq (l:List yz1):(z9z l).size=(l.map yz1.size).sum+12:=by
 rw [yz1.size_eq];show 1+kz1.size _+0+1+((l.map yz1.size).sum+1)+1=_;rw [kz1.size_eq];show 1+(1+(1+1+1)+1+(0+1)+(0+1)+1)+0+1+((l.map yz1.size).sum+1)+1=_;omega
theorem yqm {l:List yz1} (h:∀x∈l,x.wf):(z9z l).wf:=by
 rw [yz1.z04];refine ⟨by show (IntKind.u8.min<=18∧18<=IntKind.u8.max);decide,?_,trivial,h⟩;rw [kz1.z04];refine ⟨by show (IntKind.u8.min<=0∧0<=IntKind.u8.max);decide,?_,trivial,trivial,by simp [z9z]⟩;rw [kz6.z04];exact ⟨by show (IntKind.i64.min<=0∧0<=IntKind.i64.max);decide,by show (IntKind.i64.min<=0∧0<=IntKind.i64.max);decide⟩
theorem yy3 {a b:List yz1}:eqB (z9z a) (z9z b)=eqB a b:=by
 by_cases h:a=b
 ·rw [h,za4,za4]
 ·rw [yzh.2 h,yzh.2 (λe=>h (by injection e))]
section
variable {p : zz0} {t : yz5} {r : yz3} {c : yz4} {a : zz3} {x : yz7} {e : yz1}
theorem zye (h:t∈p.attrs):t.size+2<=p.sz:=by have:=znj (f:=yz5.size) h;rw [zz0.zzr];omega
theorem zl6 (h:r∈p.rules):r.sz+2<=p.sz:=by have:=znj (f:=yz3.sz) h;rw [zz0.zzr];omega
theorem zxv:t.value.size+t.name.length+2<=t.size:=by rw [yz5.size_eq];omega
theorem zlx (h:c∈r.cases):c.sz+2<=r.sz:=by have:=znj (f:=yz4.sz) h;rw [yz3.zzr];omega
theorem z046:r.name.length<=r.sz+1048576:=by have:=ym0 r.name;rw [yz3.zzr];omega
theorem z047 {s:List UInt8} (h:s∈r.params):s.length+2<=r.sz:=by have:=znj (f:=λs:List UInt8=>s.length+1) h;rw [yz3.zzr];omega
theorem y8l:c.when_.size+2<=c.sz:=by rw [yz4.zzr];omega
theorem zr3 (h:a∈c.do_):a.sz+2<=c.sz:=by have:=znj (f:=zz3.sz) h;rw [yz4.zzr];omega
theorem z03y:a.name.length<=a.sz+1048576:=by have:=ym0 a.name;rw [zz3.zzr];omega
theorem y3a:(a.args.map yz1.size).sum+5<=a.sz:=by rw [zz3.zzr];omega
theorem y0i (h:x∈a.items):x.sz+2<=a.sz:=by have:=znj (f:=yz7.sz) h;rw [zz3.zzr];omega
theorem z044:x.name.length<=x.sz+1048576:=by have:=ym0 x.name;rw [yz7.zzr];omega
theorem y3l:(x.args.map yz1.size).sum+4<=x.sz:=by rw [yz7.zzr];omega
theorem zl5:p.attrs.length<=p.sz:=by have:=zog (f:=yz5.size) (λx=>by rw [yz5.size_eq];omega) p.attrs;rw [zz0.zzr];omega
theorem zhq:p.rules.length<=p.sz:=by have:=zog (f:=yz3.sz) (λx=>by rw [yz3.zzr];omega) p.rules;rw [zz0.zzr];omega
theorem zsq:r.params.length<=r.sz:=by have:=zog (f:=λs:List UInt8=>s.length+1) (λx=>by omega) r.params;rw [yz3.zzr];omega
theorem zni:r.cases.length<=r.sz:=by have:=zog (f:=yz4.sz) (λx=>by rw [yz4.zzr];omega) r.cases;rw [yz3.zzr];omega
theorem zo4:c.do_.length<=c.sz:=by have:=zog (f:=zz3.sz) (λx=>by rw [zz3.zzr];omega) c.do_;rw [yz4.zzr];omega
theorem zsp:a.items.length<=a.sz:=by have:=zog (f:=yz7.sz) (λx=>by rw [yz7.zzr];omega) a.items;rw [zz3.zzr];omega
theorem z04b:a.args.length<=a.sz:=by have:=z8l a.args;have:=@y3a a;omega
theorem z00k:x.args.length<=x.sz:=by have:=z8l x.args;have:=@y3l x;omega
theorem z040 (h:p.wf) (ht:t∈p.attrs):t.value.wf:=by rw [zz0.z04] at h;have:=h.1 t ht;rw [yz5.z04] at this;exact this.2
theorem z00i (h:p.wf) (hr:r∈p.rules):r.wf:=by rw [zz0.z04] at h;exact h.2 r hr
theorem z00c (h:r.wf) (hc:c∈r.cases):c.wf:=by rw [yz3.z04] at h;exact h.2.2 c hc
theorem z03u (h:c.wf):c.when_.wf:=by rw [yz4.z04] at h;exact h.2.1
theorem z00s (h:c.wf) (ha:a∈c.do_):a.wf:=by rw [yz4.z04] at h;exact h.2.2 a ha
theorem z04c (h:a.wf):(0<=a.kind∧a.kind<=255)∧(0<=a.axis∧a.axis<=255):=by rw [zz3.z04] at h;exact ⟨h.1,h.2.1⟩
theorem wf_aa (h:a.wf):(z9z a.args).wf:=by rw [zz3.z04] at h;exact yqm h.2.2.2.1
theorem wf_ae (h:a.wf) (he:e∈a.args):e.wf:=by rw [zz3.z04] at h;exact h.2.2.2.1 e he
theorem z043 (h:a.wf) (hx:x∈a.items):x.wf:=by rw [zz3.z04] at h;exact h.2.2.2.2 x hx
theorem wf_xa (h:x.wf):(z9z x.args).wf:=by rw [yz7.z04] at h;exact yqm h.2.2
theorem wf_xe (h:x.wf) (he:e∈x.args):e.wf:=by rw [yz7.z04] at h;exact h.2.2 e he
end
theorem yyn {α:Type} {a b:List α} (h:¬a.length=b.length):((a.length:Int) != (b.length:Int))=true:=by simp;omega
theorem z01o {α:Type} {a b:List α} (h:a.length=b.length):((a.length:Int) != (b.length:Int))=false:=by simp;omega
theorem yxi {α:Type} {F:Nat->List α->List α->Option Bool} {L:Nat->Int->List α->List α->Int->Option Bool} {S:Nat->α->α->Option Bool} {a b:List α}
  (hF:∀n,F (n+1) a b=pIf ((a.length:Int) != (b.length:Int)) (some false) (L n 0 b a (a.length:Int)))
  (hL:∀n (k:Int),L (n+1) k b a (a.length:Int)=pIf (decide (k<(a.length:Int))) ((ix a k).bind λx0=>(ix b k).bind λx1=>(S n x0 x1).bind λy2=>pIf (!y2) (some false) (L n (IntKind.i64.wrap (k+1)) b a (a.length:Int))) (some true))
  (hb:a.length<=8388608) (hS:∀x∈a,∀y,Ev (λn=>S n x y) (eqB x y)):Ev (λn=>F n a b) (eqB a b):=by
 rw [Ev.zhz hF];by_cases hlen:a.length=b.length
 case neg=>rw [Ev.yz2 (yyn hlen),Ev.yz0,yzh.2 (λh=>hlen (by rw [h]))]
 rw [Ev.zz2 (z01o hlen)]
 have:=y1t (L:=λn k=>L n k b a (a.length:Int)) (fail:=false) (r:=true) hlen
  (by rw [Ev.zhz (λn=>hL n _),Ev.zz2 (by simp),Ev.yz0]) λk hk hk' v hv=>by
   rw [Ev.zhz (λn=>hL n _),Ev.yz2 (by simpa using hk),Ev.zz1 (zz6 hk),Ev.zz1 (zz6 hk'),Ev.kz0 (hS _ (Qad hk) _)];by_cases he:a[k]=b[k]
   ·rw [he,za4,Ev.zz2 (by rfl),wrk (by omega)];exact hv
   ·rw [yzh.2 he,Ev.yz2 (by rfl),Ev.yz0];rfl
 cases h:eqB a b <;> rw [h] at this <;> exact this
theorem y2t {α:Type} {L:Nat->Int->List α->Int->Option Int} {S:Nat->α->Option Bool} {l:List α} {p:α->Bool}
  (hL:∀n (k:Int),L (n+1) k l (l.length:Int)=pIf (decide (k<(l.length:Int))) ((ix l k).bind λx0=>(S n x0).bind λy1=>pIf y1 (some k) (L n (IntKind.i64.wrap (k+1)) l (l.length:Int))) (some (-1)))
  (hb:l.length<=8388608) (hS:∀x∈l,Ev (λn=>S n x) (p x)):∃i:Int,Ev (λn=>L n 0 l (l.length:Int)) i∧decide (i>=0)=l.any p:=by
 have:∀k,k<=l.length->∃i:Int,Ev (λn=>L n (k:Int) l (l.length:Int)) i∧decide (i>=0)=(l.drop k).any p :=
  down ⟨-1,by rw [Ev.zhz (λn=>hL n _),Ev.zz2 (by simp),Ev.yz0],by simp⟩ λk hk ⟨i,h1,h2⟩=>by
   cases hp:p l[k] with
   |true=>
    refine ⟨k,?_,?_⟩
    · rw [Ev.zhz (λn=>hL n _),Ev.yz2 (by simpa using hk),Ev.zz1 (zz6 hk),Ev.kz0 (hS _ (Qad hk)),hp,Ev.yz2 rfl,Ev.yz0]
    · rw [<-Qah (h:=hk),List.any_cons,hp];simp
   |false=>
    refine ⟨i,?_,?_⟩
    · rw [Ev.zhz (λn=>hL n _),Ev.yz2 (by simpa using hk),Ev.zz1 (zz6 hk),Ev.kz0 (hS _ (Qad hk)),hp,Ev.zz2 rfl,wrk (by omega)];exact h1
    · rw [<-Qah (h:=hk),List.any_cons,hp,h2];simp
 simpa using this 0 (Qbr _)
theorem ywc:∀a b:yz1,a.size<=8388608->Ev (λn=>z86 n a b) (eqB a b):=zsx (P:=λa=>∀b:yz1,a.size<=8388608->Ev (λn=>z86 n a b) (eqB a b)) λa ih b hs=>by
 have hsz:=z5u a;have hlen:=z8l a.args;rw [ylm];by_cases h1:a.op=b.op
 case neg=>rw [Ev.zz2 (by simpa using h1),Ev.yz0,yzh.2 (λh=>h1 (by rw [h]))]
 rw [Ev.yz2 (by simpa using h1)];by_cases h2:a.name=b.name
 case neg=>rw [Ev.zz2 (by simpa using h2),Ev.yz0,yzh.2 (λh=>h2 (by rw [h]))]
 rw [Ev.yz2 (by simpa using h2),kz1.zz4,kz1.zz4,Ev.kz0 (y86 _ _ (by omega))];by_cases h3:a.value=b.value
 case neg=>rw [yzh.2 h3,Ev.zz2 rfl,Ev.yz0,yzh.2 (λh=>h3 (by rw [h]))]
 rw [h3,za4,Ev.yz2 rfl,Ev.kz0 (yxi (S:=λn x y=>z86 n x.re y.re) (λn=>yzd.eq_2 _ _ n) (λn k=>zz8.eq_2 _ _ _ _ n) (by omega) λx hx y=>by rw [yz1.zz4,yz1.zz4];exact ih x hx y (by have:=zgo hx;omega)),Ev.yz0];obtain ⟨a1,a2,a3,a4⟩:=a;obtain ⟨b1,b2,b3,b4⟩:=b;cases h1;cases h2;cases h3;by_cases h:a4=b4
 ·cases h;rw [za4,za4]
 ·rw [yzh.2 h,yzh.2 (λe=>h (by injection e))]
theorem zs8:∀a b:yz1,a.size<=8388608->Ev (λn=>z2h n a b) (eqB a b):=zsx (P:=λa=>∀b:yz1,a.size<=8388608->Ev (λn=>z2h n a b) (eqB a b)) λa ih b hs=>by
 have hsz:=z5u a;have hlen:=z8l a.args;have bad:a≠b->Ev (λn=>z1q n true b a) (eqB a b):=λh=>by rw [zr6,Ev.yz2 rfl,Ev.yz0,yzh.2 h]
 rw [yhi,yz1.zz4,yz1.zz4];by_cases h1:a.op=b.op
 case neg=>rw [Ev.yz2 (by simpa using h1)];exact bad λh=>h1 (by rw [h])
 rw [Ev.zz2 (by simpa using h1)];by_cases h2:a.name=b.name
 case neg=>rw [Ev.yz2 (by simpa using h2)];exact bad λh=>h2 (by rw [h])
 rw [Ev.zz2 (by simpa using h2),kz1.zz4,kz1.zz4,Ev.kz0 (yb4 _ _ (by omega))];by_cases h3:a.value=b.value
 case neg=>rw [yzh.2 h3,Ev.yz2 (by rfl)];exact bad λh=>h3 (by rw [h])
 rw [h3,za4,Ev.zz2 (by rfl)];by_cases h4:a.args.length=b.args.length
 case neg=>rw [yyn h4];exact bad λh=>h4 (by rw [h])
 rw [z01o h4,zr6,Ev.zz2 rfl,yz1.zz4,yz1.zz4]
 have:=y1t (L:=λn k=>z6e n k b a) (fail:=false) (r:=true) h4
  (by rw [zqm,Ev.zz2 (by simp),Ev.yz0]) λk hk hk' v hv=>by
   rw [zqm,Ev.yz2 (by simpa using hk),Ev.zz1 (zz6 hk),Ev.zz1 (zz6 hk'),yz1.zz4,yz1.zz4,Ev.kz0 (ih _ (Qad hk) _ (by have:=zgo (Qad hk);omega))];by_cases he:a.args[k]=b.args[k]
   ·rw [he,za4,Ev.zz2 (by rfl),wrk (by omega),yz1.zz4,yz1.zz4];exact hv
   ·rw [yzh.2 he,Ev.yz2 (by rfl),Ev.yz0];rfl
 have e:(if eqB a.args b.args=true then true else false)=eqB a b:=by
  obtain ⟨a1,a2,a3,a4⟩:=a;obtain ⟨b1,b2,b3,b4⟩:=b;cases h1;cases h2;cases h3;by_cases h:a4=b4
  ·cases h;rw [za4,za4];rfl
  ·rw [yzh.2 h,yzh.2 (λe=>h (by injection e))];rfl
 rw [<-e];exact this
theorem andF {c d:Bool} {A:Nat->Option Bool} (h:c=true->Ev A d):Ev (λn=>pIf c (A n) (some false)) (c&&d):=by
 cases c
 ·exact Ev.pure rfl
 ·exact h rfl
theorem yu9 {c d:Bool} {A Z:Nat->Option Bool} (hz:Ev Z false) (h:c=true->Ev A d):Ev (λn=>pIf (!c) (Z n) (A n)) (c&&d):=by
 cases c
 ·exact hz
 ·exact h rfl
theorem beqB {α:Type} [BEq α] [LawfulBEq α] (a b:α):(a==b)=eqB a b:=by
 by_cases h:a=b
 ·subst h;simp
 ·rw [yzh.2 h];simpa using h
theorem yqg {α:Type} [BEq α] [LawfulBEq α] (a b:α):(a != b) = !eqB a b:=by rw [bne,beqB]
theorem y0e {α:Type} {a b:α} {c:Bool} (h:a=b↔c=true):eqB a b=c:=by
 cases c
 ·exact yzh.2 λe=>by simpa using h.1 e
 ·exact z8x.2 (h.2 rfl)
theorem eq_attr (a b:yz5):eqB a b=(eqB a.name b.name&&eqB a.value b.value):=y0e (by
 obtain ⟨a1,a2⟩:=a;obtain ⟨b1,b2⟩:=b;simp only [yz5.mk.injEq,Qag,z8x])
theorem z02q (a b:yz7):eqB a b=(eqB a.kind b.kind&&(eqB a.name b.name&&eqB a.args b.args)):=y0e (by
 obtain ⟨a1,a2,a3⟩:=a;obtain ⟨b1,b2,b3⟩:=b;simp only [yz7.mk.injEq,Qag,z8x])
theorem yxl (a b:zz3):eqB a b=(eqB a.kind b.kind&&(eqB a.axis b.axis&&(eqB a.name b.name&&(eqB a.args b.args&&eqB a.items b.items)))):=y0e (by
 obtain ⟨a1,a2,a3,a4,a5⟩:=a;obtain ⟨b1,b2,b3,b4,b5⟩:=b;simp only [zz3.mk.injEq,Qag,z8x])
theorem z02l (a b:yz4):eqB a b=(eqB a.weight b.weight&&(eqB a.when_ b.when_&&eqB a.do_ b.do_)):=y0e (by
 obtain ⟨a1,a2,a3⟩:=a;obtain ⟨b1,b2,b3⟩:=b;simp only [yz4.mk.injEq,Qag,z8x])
theorem z037 (a b:yz3):eqB a b=(eqB a.name b.name&&(eqB a.params b.params&&eqB a.cases b.cases)):=y0e (by
 obtain ⟨a1,a2,a3⟩:=a;obtain ⟨b1,b2,b3⟩:=b;simp only [yz3.mk.injEq,Qag,z8x])
theorem lenF {α:Type} {a b:List α} (h:¬a.length=b.length):eqB (a.length:Int) (b.length:Int)=false:=yzh.2 (by omega)
theorem lenT {α:Type} {a b:List α} (h:a.length=b.length):eqB (a.length:Int) (b.length:Int)=true:=z8x.2 (by omega)
theorem neqB {α:Type} {a b:List α} (h:¬a.length=b.length):eqB a b=false:=yzh.2 λe=>h (by rw [e])
theorem ifB (c:Bool):(if c=true then true else false)=c:=by cases c <;> rfl
theorem y9q {a b:List yz1} (hs:(a.map yz1.size).sum<=4000000):Ev (λn=>z2w n a b) (eqB a b):=by
 have e1:Ev (λn=>zzs n a) (z9z a):=by rw [zg3,Ev.yz0];rfl
 have e2:Ev (λn=>zzs n b) (z9z b):=by rw [zg3,Ev.yz0];rfl
 rw [zxh,Ev.kz0 e1,Ev.kz0 e2,yz1.zz4,yz1.zz4,Ev.kz0 (zs8 _ _ (by rw [zdq];omega)),Ev.yz0,yy3]
theorem yf4 {a b:zz3} (hs:a.sz<=4000000):Ev (λn=>z3l n a b) (eqB a b):=by
 have:=@y3a a;have:=@zsp a;have hz:Ev (λn=>zzi n true b a) false:=by rw [zh8,Ev.yz2 rfl,Ev.yz0]
 rw [zto,yxl,yqg,yqg,beqB,yqg];refine yu9 hz λ_=>yu9 hz λ_=>yu9 hz λ_ => ?_
 rw [Ev.kz0 (y9q (by omega))];refine yu9 hz λ_ => ?_
 by_cases hl:a.items.length=b.items.length
 case neg=>simp only [lenF hl,neqB hl,Bool.false_and];exact hz
 rw [lenT hl,zh8,Ev.zz2 (by rfl)];rw [<-ifB (eqB a.items b.items)];refine y1t (L:=λn k=>yzz n k b a) hl (by rw [zh6,Ev.zz2 (by simp),Ev.yz0]) λk hk hk' v hv => ?_
 have hx:=Qad hk;have:=y0i hx;have:=@y3l a.items[k]
 have l2:∀c,Ev (λn=>kzr n (k:Int) (!c) b a) (if c=true then v else false):=λc=>by
  cases c
  ·rw [zh7,Ev.yz2 (by rfl),Ev.yz0];rfl
  ·rw [zh7,Ev.zz2 (by rfl),wrk (by omega)];exact hv
 rw [zh6,Ev.yz2 (by simpa using hk),Ev.zz1 (zz6 hk),Ev.zz1 (zz6 hk'),z02q,yqg];cases h1:eqB a.items[k].kind b.items[k].kind
 ·exact l2 false
 rw [Ev.zz2 (by rfl),Ev.zz1 (zz6 hk),Ev.zz1 (zz6 hk'),beqB];cases h2:eqB a.items[k].name b.items[k].name
 ·exact l2 false
 rw [Ev.zz2 (by rfl),Ev.zz1 (zz6 hk),Ev.zz1 (zz6 hk'),Ev.kz0 (y9q (by omega))];exact l2 _
theorem yoz {a b:yz4} (hs:a.sz<=4000000):Ev (λn=>z5l n a b) (eqB a b):=by
 have:=@y8l a;have:=@zo4 a;have hz:Ev (λn=>yzx n true b a) false:=by rw [zj7,Ev.yz2 rfl,Ev.yz0]
 rw [zwa,z02l,yqg,yz1.zz4,yz1.zz4,yz4.zz4,yz4.zz4,yqg];refine yu9 hz λ_ => ?_
 rw [Ev.kz0 (zs8 _ _ (by omega))];refine yu9 hz λ_ => ?_
 by_cases hl:a.do_.length=b.do_.length
 case neg=>simp only [lenF hl,neqB hl,Bool.false_and];exact hz
 rw [lenT hl,zj7,Ev.zz2 (by rfl),yz4.zz4,yz4.zz4];rw [<-ifB (eqB a.do_ b.do_)];refine y1t (L:=λn k=>z0p n k b a) hl (by rw [zj8,Ev.zz2 (by simp),Ev.yz0]) λk hk hk' v hv => ?_
 have hx:=Qad hk;have:=zr3 hx;rw [zj8,Ev.yz2 (by simpa using hk),Ev.zz1 (zz6 hk),Ev.zz1 (zz6 hk'),Ev.kz0 (yf4 (by omega))];cases h1:eqB a.do_[k] b.do_[k]
 ·rw [Ev.yz2 (by rfl),Ev.yz0];rfl
 ·rw [Ev.zz2 (by rfl),wrk (by omega),yz4.zz4,yz4.zz4];exact hv
theorem yqz {a b:yz3} (hs:a.sz<=4000000):Ev (λn=>z6m n a b) (eqB a b):=by
 have:=@zsq a;have:=@zni a;have hz:Ev (λn=>kzw n true b a) false:=by rw [zj2,Ev.yz2 rfl,Ev.yz0]
 rw [zw2,z037,beqB,yqg,yqg];refine yu9 hz λ_ => ?_
 by_cases hl:a.params.length=b.params.length
 case neg=>simp only [lenF hl,neqB hl,Bool.false_and];exact hz
 rw [lenT hl,Ev.zz2 (by rfl)];by_cases hm:a.cases.length=b.cases.length
 case neg=>rw [lenF hm,neqB hm,Bool.and_false];exact hz
 rw [lenT hm,zj2,Ev.zz2 (by rfl)]
 have e:(eqB a.params b.params&&eqB a.cases b.cases)=if eqB a.params b.params=true then eqB a.cases b.cases else false:=by cases eqB a.params b.params <;> rfl
 rw [e];refine y1t (L:=λn k=>z0t n k b a) hl ?_ λk hk hk' v hv => ?_
 ·rw [zj5,Ev.zz2 (by simp),<-ifB (eqB a.cases b.cases)];refine y1t (L:=λn k=>z0r n k b a) hm (by rw [ziz,Ev.zz2 (by simp),Ev.yz0]) λk hk hk' v hv => ?_
  have:=zlx (Qad hk);rw [ziz,Ev.yz2 (by simpa using hk),Ev.zz1 (zz6 hk),Ev.zz1 (zz6 hk'),yz4.zz4,yz4.zz4,Ev.kz0 (yoz (by omega))];cases h1:eqB a.cases[k] b.cases[k]
  ·rw [Ev.yz2 (by rfl),Ev.yz0];rfl
  ·rw [Ev.zz2 (by rfl),wrk (by omega)];exact hv
 ·rw [zj5,Ev.yz2 (by simpa using hk),Ev.zz1 (zz6 hk),Ev.zz1 (zz6 hk'),beqB];cases h1:eqB a.params[k] b.params[k]
  ·rw [Ev.yz2 (by rfl),Ev.yz0];rfl
  ·rw [Ev.zz2 (by rfl),wrk (by omega)];exact hv
end Go.Proofs.YtomdnlaakelghaaGreat
