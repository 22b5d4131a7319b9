/-
  What each function comes to, by its body, by a program of this repo.
-/
import Derived.Test.YtfhpamcehnfhoaaGreatDoorLib6
import Derived.Test.YtfhpamcehnfhoaaGreatDoorOwn2
import Derived.Lib.ItoaLen
namespace Go.Proofs.YtfhpamcehnfhoaaGreatDoor
open Go Go.Ab
set_option linter.unusedVariables false
theorem zmg {r} (a0 a1) : type_of% (evS (fun n => zzv n a0 a1) r fun n => zzv.eq_2 a0 a1 n) := evS _ _ fun _ => rfl
theorem zbk {r} (a0 a1 a2) : type_of% (evS (fun n => kzl n a0 a1 a2) r fun n => kzl.eq_2 a0 a1 a2 n) := evS _ _ fun _ => rfl
theorem zma {r} (a0) : type_of% (evS (fun n => z5t n a0) r fun n => z5t.eq_2 a0 n) := evS _ _ fun _ => rfl
theorem zq4 {r} (a0) : type_of% (evS (fun n => z6p n a0) r fun n => z6p.eq_2 a0 n) := evS _ _ fun _ => rfl
theorem y9u {r} (a0) : type_of% (evS (fun n => zbu n a0) r fun n => zbu.eq_2 a0 n) := evS _ _ fun _ => rfl
theorem z8j {r} (a0) : type_of% (evS (fun n => z07 n a0) r fun n => z07.eq_2 a0 n) := evS _ _ fun _ => rfl
theorem zai {r} (a0 a1 a2) : type_of% (evS (fun n => kzj n a0 a1 a2) r fun n => kzj.eq_2 a0 a1 a2 n) := evS _ _ fun _ => rfl
theorem zm9 {r} (a0) : type_of% (evS (fun n => z90 n a0) r fun n => z90.eq_2 a0 n) := evS _ _ fun _ => rfl
theorem zn7 {r} (a0 a1 a2) : type_of% (evS (fun n => z2e n a0 a1 a2) r fun n => z2e.eq_2 a0 a1 a2 n) := evS _ _ fun _ => rfl
theorem y9s {r} (a0 a1) : type_of% (evS (fun n => z6t n a0 a1) r fun n => z6t.eq_2 a0 a1 n) := evS _ _ fun _ => rfl
theorem y1g {r} (a0 a1 a2) : type_of% (evS (fun n => kzz n a0 a1 a2) r fun n => kzz.eq_2 a0 a1 a2 n) := evS _ _ fun _ => rfl
theorem zof {r} (a0 a1 a2) : type_of% (evS (fun n => z1y n a0 a1 a2) r fun n => z1y.eq_2 a0 a1 a2 n) := evS _ _ fun _ => rfl
theorem zsh {r} (a0 a1) : type_of% (evS (fun n => z5y n a0 a1) r fun n => z5y.eq_2 a0 a1 n) := evS _ _ fun _ => rfl
theorem zgm {r} (a0 a1 a2) : type_of% (evS (fun n => z0k n a0 a1 a2) r fun n => z0k.eq_2 a0 a1 a2 n) := evS _ _ fun _ => rfl
theorem zfv {r} (a0 a1 a2) : type_of% (evS (fun n => z2c n a0 a1 a2) r fun n => z2c.eq_2 a0 a1 a2 n) := evS _ _ fun _ => rfl
theorem zsd {r} (a0) : type_of% (evS (fun n => z4g n a0) r fun n => z4g.eq_2 a0 n) := evS _ _ fun _ => rfl
theorem zg5 {r} (a0 a1 a2) : type_of% (evS (fun n => z2i n a0 a1 a2) r fun n => z2i.eq_2 a0 a1 a2 n) := evS _ _ fun _ => rfl
theorem zvo {r} (a0) : type_of% (evS (fun n => z2z n a0) r fun n => z2z.eq_2 a0 n) := evS _ _ fun _ => rfl
theorem zow {r} (a0 a1) : type_of% (evS (fun n => z3p n a0 a1) r fun n => z3p.eq_2 a0 a1 n) := evS _ _ fun _ => rfl
theorem zo0 {r} (a0 a1) : type_of% (evS (fun n => z5h n a0 a1) r fun n => z5h.eq_2 a0 a1 n) := evS _ _ fun _ => rfl
theorem zh3 {r} (a0 a1 a2 a3 a4) : type_of% (evS (fun n => z10 n a0 a1 a2 a3 a4) r fun n => z10.eq_2 a0 a1 a2 a3 a4 n) := evS _ _ fun _ => rfl
theorem zag {r} (a0 a1 a2 a3 a4 a5) : type_of% (evS (fun n => z1x n a0 a1 a2 a3 a4 a5) r fun n => z1x.eq_2 a0 a1 a2 a3 a4 a5 n) := evS _ _ fun _ => rfl
theorem zi5 {r} (a0 a1 a2 a3 a4 a5 a6) : type_of% (evS (fun n => z1w n a0 a1 a2 a3 a4 a5 a6) r fun n => z1w.eq_2 a0 a1 a2 a3 a4 a5 a6 n) := evS _ _ fun _ => rfl
theorem zba {r} (a0) : type_of% (evS (fun n => yzn n a0) r fun n => yzn.eq_2 a0 n) := evS _ _ fun _ => rfl
theorem zry {r} (a0) : type_of% (evS (fun n => z1n n a0) r fun n => z1n.eq_2 a0 n) := evS _ _ fun _ => rfl
theorem zmr {r} (a0 a1) : type_of% (evS (fun n => z2j n a0 a1) r fun n => z2j.eq_2 a0 a1 n) := evS _ _ fun _ => rfl
theorem y1c {r} (a0) : type_of% (evS (fun n => z23 n a0) r fun n => z23.eq_2 a0 n) := evS _ _ fun _ => rfl
theorem zun {r} (a0 a1) : type_of% (evS (fun n => z42 n a0 a1) r fun n => z42.eq_2 a0 a1 n) := evS _ _ fun _ => rfl
theorem zjz {r} (a0 a1 a2) : type_of% (evS (fun n => z4a n a0 a1 a2) r fun n => z4a.eq_2 a0 a1 a2 n) := evS _ _ fun _ => rfl
theorem zv2 {r} (a0 a1 a2) : type_of% (evS (fun n => z44 n a0 a1 a2) r fun n => z44.eq_2 a0 a1 a2 n) := evS _ _ fun _ => rfl
theorem zbg {r} (a0) : type_of% (evS (fun n => z2a n a0) r fun n => z2a.eq_2 a0 n) := evS _ _ fun _ => rfl
theorem zvg {r} (a0 a1 a2) : type_of% (evS (fun n => yzs n a0 a1 a2) r fun n => yzs.eq_2 a0 a1 a2 n) := evS _ _ fun _ => rfl
theorem zat {r} (a0 a1 a2 a3 a4) : type_of% (evS (fun n => z6g n a0 a1 a2 a3 a4) r fun n => z6g.eq_2 a0 a1 a2 a3 a4 n) := evS _ _ fun _ => rfl
theorem zox {r} (a0 a1 a2 a3 a4) : type_of% (evS (fun n => z3a n a0 a1 a2 a3 a4) r fun n => z3a.eq_2 a0 a1 a2 a3 a4 n) := evS _ _ fun _ => rfl
theorem zds {r} (a0 a1 a2 a3 a4 a5) : type_of% (evS (fun n => zzf n a0 a1 a2 a3 a4 a5) r fun n => zzf.eq_2 a0 a1 a2 a3 a4 a5 n) := evS _ _ fun _ => rfl
theorem zah {r} (a0 a1 a2 a3 a4 a5 a6) : type_of% (evS (fun n => z5b n a0 a1 a2 a3 a4 a5 a6) r fun n => z5b.eq_2 a0 a1 a2 a3 a4 a5 a6 n) := evS _ _ fun _ => rfl
theorem zhb {r} (a0 a1 a2 a3 a4 a5) : type_of% (evS (fun n => z0x n a0 a1 a2 a3 a4 a5) r fun n => z0x.eq_2 a0 a1 a2 a3 a4 a5 n) := evS _ _ fun _ => rfl
theorem zvi {r} (a0 a1) : type_of% (evS (fun n => z1c n a0 a1) r fun n => z1c.eq_2 a0 a1 n) := evS _ _ fun _ => rfl
theorem zho {r} (a0 a1 a2) : type_of% (evS (fun n => z0g n a0 a1 a2) r fun n => z0g.eq_2 a0 a1 a2 n) := evS _ _ fun _ => rfl
theorem zi3 {r} (a0 a1 a2) : type_of% (evS (fun n => z38 n a0 a1 a2) r fun n => z38.eq_2 a0 a1 a2 n) := evS _ _ fun _ => rfl
theorem zvk {r} (a0 a1) : type_of% (evS (fun n => z1v n a0 a1) r fun n => z1v.eq_2 a0 a1 n) := evS _ _ fun _ => rfl
theorem zhr {r} (a0 a1 a2) : type_of% (evS (fun n => z0c n a0 a1 a2) r fun n => z0c.eq_2 a0 a1 a2 n) := evS _ _ fun _ => rfl
theorem zhm {r} (a0 a1 a2 a3) : type_of% (evS (fun n => z36 n a0 a1 a2 a3) r fun n => z36.eq_2 a0 a1 a2 a3 n) := evS _ _ fun _ => rfl
theorem zlu {r} (a0) : type_of% (evS (fun n => z7f n a0) r fun n => z7f.eq_2 a0 n) := evS _ _ fun _ => rfl
theorem zqp {r} (a0) : type_of% (evS (fun n => z4v n a0) r fun n => z4v.eq_2 a0 n) := evS _ _ fun _ => rfl
theorem zes {r} (a0 a1 a2 a3 a4) : type_of% (evS (fun n => z1f n a0 a1 a2 a3 a4) r fun n => z1f.eq_2 a0 a1 a2 a3 a4 n) := evS _ _ fun _ => rfl
theorem zxh {r} (a0) : type_of% (evS (fun n => z8a n a0) r fun n => z8a.eq_2 a0 n) := evS _ _ fun _ => rfl
theorem zqm {r} (a0 a1) : type_of% (evS (fun n => z2w n a0 a1) r fun n => z2w.eq_2 a0 a1 n) := evS _ _ fun _ => rfl
theorem zqq {r} (a0 a1) : type_of% (evS (fun n => z2v n a0 a1) r fun n => z2v.eq_2 a0 a1 n) := evS _ _ fun _ => rfl
theorem zqw {r} (a0 a1) : type_of% (evS (fun n => z4q n a0 a1) r fun n => z4q.eq_2 a0 a1 n) := evS _ _ fun _ => rfl
theorem zqu {r} (a0 a1) : type_of% (evS (fun n => z4n n a0 a1) r fun n => z4n.eq_2 a0 a1 n) := evS _ _ fun _ => rfl
theorem zqx {r} (a0) : type_of% (evS (fun n => z2x n a0) r fun n => z2x.eq_2 a0 n) := evS _ _ fun _ => rfl
theorem znt {r} (a0) : type_of% (evS (fun n => z6o n a0) r fun n => z6o.eq_2 a0 n) := evS _ _ fun _ => rfl
theorem z6h {r} (a0 a1) : type_of% (evS (fun n => kz4 n a0 a1) r fun n => kz4.eq_2 a0 a1 n) := evS _ _ fun _ => rfl
theorem zpz {r} (a0) : type_of% (evS (fun n => z61 n a0) r fun n => z61.eq_2 a0 n) := evS _ _ fun _ => rfl
theorem zjl {r} (a0 a1) : type_of% (evS (fun n => z32 n a0 a1) r fun n => z32.eq_2 a0 a1 n) := evS _ _ fun _ => rfl
theorem zvb {r} (a0) : type_of% (evS (fun n => z7a n a0) r fun n => z7a.eq_2 a0 n) := evS _ _ fun _ => rfl
theorem zh9 {r} (a0 a1 a2) : type_of% (evS (fun n => z3l n a0 a1 a2) r fun n => z3l.eq_2 a0 a1 a2 n) := evS _ _ fun _ => rfl
theorem zvn {r} (a0) : type_of% (evS (fun n => z73 n a0) r fun n => z73.eq_2 a0 n) := evS _ _ fun _ => rfl
theorem zp8 {r} (a0 a1) : type_of% (evS (fun n => z22 n a0 a1) r fun n => z22.eq_2 a0 a1 n) := evS _ _ fun _ => rfl
theorem zp1 {r} (a0 a1) : type_of% (evS (fun n => z01 n a0 a1) r fun n => z01.eq_2 a0 a1 n) := evS _ _ fun _ => rfl
theorem zoz {r} (a0 a1) : type_of% (evS (fun n => z0e n a0 a1) r fun n => z0e.eq_2 a0 a1 n) := evS _ _ fun _ => rfl
theorem zi1 {r} (a0 a1) : type_of% (evS (fun n => z3c n a0 a1) r fun n => z3c.eq_2 a0 a1 n) := evS _ _ fun _ => rfl
theorem y0r {r} (a0) : type_of% (evS (fun n => z6k n a0) r fun n => z6k.eq_2 a0 n) := evS _ _ fun _ => rfl
theorem zjy {r} (a0 a1 a2) : type_of% (evS (fun n => z47 n a0 a1 a2) r fun n => z47.eq_2 a0 a1 a2 n) := evS _ _ fun _ => rfl
theorem zub {r} (a0 a1 a2 a3) : type_of% (evS (fun n => z45 n a0 a1 a2 a3) r fun n => z45.eq_2 a0 a1 a2 a3 n) := evS _ _ fun _ => rfl
theorem zut {r} (a0 a1 a2) : type_of% (evS (fun n => z41 n a0 a1 a2) r fun n => z41.eq_2 a0 a1 a2 n) := evS _ _ fun _ => rfl
theorem yad {r} (a0) : type_of% (evS (fun n => z6q n a0) r fun n => z6q.eq_2 a0 n) := evS _ _ fun _ => rfl
theorem zhv {r} (a0 a1 a2) : type_of% (evS (fun n => z8t n a0 a1 a2) r fun n => z8t.eq_2 a0 a1 a2 n) := evS _ _ fun _ => rfl
theorem y33 {r} (a0) : type_of% (evS (fun n => z83 n a0) r fun n => z83.eq_2 a0 n) := evS _ _ fun _ => rfl
theorem zeo {r} (a0 a1 a2) : type_of% (evS (fun n => z6l n a0 a1 a2) r fun n => z6l.eq_2 a0 a1 a2 n) := evS _ _ fun _ => rfl
theorem za8 {r} (a0 a1) : type_of% (evS (fun n => yzd n a0 a1) r fun n => yzd.eq_2 a0 a1 n) := evS _ _ fun _ => rfl
theorem z0m {r} (a0 a1 a2) : type_of% (evS (fun n => yz6 n a0 a1 a2) r fun n => yz6.eq_2 a0 a1 a2 n) := evS _ _ fun _ => rfl
theorem z3k {r} (a0 a1 a2 a3 a4) : type_of% (evS (fun n => zz7 n a0 a1 a2 a3 a4) r fun n => zz7.eq_2 a0 a1 a2 a3 a4 n) := evS _ _ fun _ => rfl
theorem z5l {r} (a0 a1 a2) : type_of% (evS (fun n => z0h n a0 a1 a2) r fun n => z0h.eq_2 a0 a1 a2 n) := evS _ _ fun _ => rfl
theorem z1e {r} (a0 a1 a2 a3) : type_of% (evS (fun n => kzc n a0 a1 a2 a3) r fun n => kzc.eq_2 a0 a1 a2 a3 n) := evS _ _ fun _ => rfl
theorem kzw {r} (a0 a1 a2 a3 a4) : type_of% (evS (fun n => zz5 n a0 a1 a2 a3 a4) r fun n => zz5.eq_2 a0 a1 a2 a3 a4 n) := evS _ _ fun _ => rfl
theorem zzx {r} (a0 a1 a2 a3 a4 a5) : type_of% (evS (fun n => kzn n a0 a1 a2 a3 a4 a5) r fun n => kzn.eq_2 a0 a1 a2 a3 a4 a5 n) := evS _ _ fun _ => rfl
theorem zbd {r} (a0 a1 a2 a3) : type_of% (evS (fun n => zzo n a0 a1 a2 a3) r fun n => zzo.eq_2 a0 a1 a2 a3 n) := evS _ _ fun _ => rfl
theorem zgn {r} (a0) : type_of% (evS (fun n => zzq n a0) r fun n => zzq.eq_2 a0 n) := evS _ _ fun _ => rfl
theorem y6v {r} (a0 a1 a2) : type_of% (evS (fun n => zan n a0 a1 a2) r fun n => zan.eq_2 a0 a1 a2 n) := evS _ _ fun _ => rfl
theorem z9o {r} (a0 a1 a2 a3 a4 a5) : type_of% (evS (fun n => z1b n a0 a1 a2 a3 a4 a5) r fun n => z1b.eq_2 a0 a1 a2 a3 a4 a5 n) := evS _ _ fun _ => rfl
theorem zmt {r} (a0 a1 a2 a3 a4 a5) : type_of% (evS (fun n => z2f n a0 a1 a2 a3 a4 a5) r fun n => z2f.eq_2 a0 a1 a2 a3 a4 a5 n) := evS _ _ fun _ => rfl
theorem zqk {r} (a0 a1 a2 a3) : type_of% (evS (fun n => z63 n a0 a1 a2 a3) r fun n => z63.eq_2 a0 a1 a2 a3 n) := evS _ _ fun _ => rfl
theorem zlc {r} (a0 a1 a2 a3 a4) : type_of% (evS (fun n => z0r n a0 a1 a2 a3 a4) r fun n => z0r.eq_2 a0 a1 a2 a3 a4 n) := evS _ _ fun _ => rfl
theorem znu {r} (a0 a1 a2) : type_of% (evS (fun n => z30 n a0 a1 a2) r fun n => z30.eq_2 a0 a1 a2 n) := evS _ _ fun _ => rfl
theorem zic {r} (a0 a1 a2 a3 a4 a5 a6 a7 a8 a9) : type_of% (evS (fun n => z8s n a0 a1 a2 a3 a4 a5 a6 a7 a8 a9) r fun n => z8s.eq_2 a0 a1 a2 a3 a4 a5 a6 a7 a8 a9 n) := evS _ _ fun _ => rfl
theorem y3y {r} (a0 a1 a2) : type_of% (evS (fun n => zzg n a0 a1 a2) r fun n => zzg.eq_2 a0 a1 a2 n) := evS _ _ fun _ => rfl
theorem zst {r} (a0 a1) : type_of% (evS (fun n => z5k n a0 a1) r fun n => z5k.eq_2 a0 a1 n) := evS _ _ fun _ => rfl
theorem zg0 {r} (a0 a1 a2) : type_of% (evS (fun n => z1d n a0 a1 a2) r fun n => z1d.eq_2 a0 a1 a2 n) := evS _ _ fun _ => rfl
theorem zgu {r} (a0 a1 a2) : type_of% (evS (fun n => z2m n a0 a1 a2) r fun n => z2m.eq_2 a0 a1 a2 n) := evS _ _ fun _ => rfl
theorem zs4 {r} (a0) : type_of% (evS (fun n => z4l n a0) r fun n => z4l.eq_2 a0 n) := evS _ _ fun _ => rfl
theorem zc2 {r} (a0 a1 a2) : type_of% (evS (fun n => z2d n a0 a1 a2) r fun n => z2d.eq_2 a0 a1 a2 n) := evS _ _ fun _ => rfl
theorem zby {r} (a0 a1 a2 a3) : type_of% (evS (fun n => z2b n a0 a1 a2 a3) r fun n => z2b.eq_2 a0 a1 a2 a3 n) := evS _ _ fun _ => rfl
theorem zni {r} (a0) : type_of% (evS (fun n => z8q n a0) r fun n => z8q.eq_2 a0 n) := evS _ _ fun _ => rfl
theorem zhy {r} (a0 a1 a2) : type_of% (evS (fun n => kzr n a0 a1 a2) r fun n => kzr.eq_2 a0 a1 a2 n) := evS _ _ fun _ => rfl
theorem zi9 {r} (a0 a1 a2) : type_of% (evS (fun n => z3n n a0 a1 a2) r fun n => z3n.eq_2 a0 a1 a2 n) := evS _ _ fun _ => rfl
theorem zgx {r} (a0 a1 a2) : type_of% (evS (fun n => z3b n a0 a1 a2) r fun n => z3b.eq_2 a0 a1 a2 n) := evS _ _ fun _ => rfl
theorem zhs {r} (a0 a1 a2) : type_of% (evS (fun n => z5a n a0 a1 a2) r fun n => z5a.eq_2 a0 a1 a2 n) := evS _ _ fun _ => rfl
theorem zhh {r} : type_of% (evS (fun n => z56 n) r fun n => z56.eq_2 n) := evS _ _ fun _ => rfl
theorem zgw {r} (a0) : type_of% (evS (fun n => z0a n a0) r fun n => z0a.eq_2 a0 n) := evS _ _ fun _ => rfl
theorem zsj {r} (a0) : type_of% (evS (fun n => z4j n a0) r fun n => z4j.eq_2 a0 n) := evS _ _ fun _ => rfl
theorem zmy {r} (a0 a1) : type_of% (evS (fun n => z2g n a0 a1) r fun n => z2g.eq_2 a0 a1 n) := evS _ _ fun _ => rfl
theorem zvd {r} (a0) : type_of% (evS (fun n => z8i n a0) r fun n => z8i.eq_2 a0 n) := evS _ _ fun _ => rfl
theorem z6e {r} (a0) : type_of% (evS (fun n => kza n a0) r fun n => kza.eq_2 a0 n) := evS _ _ fun _ => rfl
theorem zls {r} (a0 a1) : type_of% (evS (fun n => z4h n a0 a1) r fun n => z4h.eq_2 a0 a1 n) := evS _ _ fun _ => rfl
theorem z9r {r} (a0 a1 a2) : type_of% (evS (fun n => z18 n a0 a1 a2) r fun n => z18.eq_2 a0 a1 a2 n) := evS _ _ fun _ => rfl
theorem zfq {r} (a0 a1 a2 a3) : type_of% (evS (fun n => z14 n a0 a1 a2 a3) r fun n => z14.eq_2 a0 a1 a2 a3 n) := evS _ _ fun _ => rfl
theorem zgg {r} (a0 a1 a2 a3) : type_of% (evS (fun n => z15 n a0 a1 a2 a3) r fun n => z15.eq_2 a0 a1 a2 a3 n) := evS _ _ fun _ => rfl
theorem znk {r} (a0) : type_of% (evS (fun n => z8p n a0) r fun n => z8p.eq_2 a0 n) := evS _ _ fun _ => rfl
theorem zhk {r} (a0 a1) : type_of% (evS (fun n => z57 n a0 a1) r fun n => z57.eq_2 a0 a1 n) := evS _ _ fun _ => rfl
theorem zh6 {r} (a0 a1) : type_of% (evS (fun n => zzr n a0 a1) r fun n => zzr.eq_2 a0 a1 n) := evS _ _ fun _ => rfl
theorem zh7 {r} (a0 a1) : type_of% (evS (fun n => z3j n a0 a1) r fun n => z3j.eq_2 a0 a1 n) := evS _ _ fun _ => rfl
theorem zrw {r} (a0) : type_of% (evS (fun n => z7b n a0) r fun n => z7b.eq_2 a0 n) := evS _ _ fun _ => rfl
theorem zn3 {r} (a0 a1) : type_of% (evS (fun n => z2h n a0 a1) r fun n => z2h.eq_2 a0 a1 n) := evS _ _ fun _ => rfl
theorem zsi {r} (a0) : type_of% (evS (fun n => z7i n a0) r fun n => z7i.eq_2 a0 n) := evS _ _ fun _ => rfl
theorem y8o {r} (a0) : type_of% (evS (fun n => zbq n a0) r fun n => zbq.eq_2 a0 n) := evS _ _ fun _ => rfl
theorem zdz {r} (a0 a1) : type_of% (evS (fun n => kz7 n a0 a1) r fun n => kz7.eq_2 a0 a1 n) := evS _ _ fun _ => rfl
theorem zad {r} (a0 a1) : type_of% (evS (fun n => yzc n a0 a1) r fun n => yzc.eq_2 a0 a1 n) := evS _ _ fun _ => rfl
theorem z69 {r} (a0 a1 a2) : type_of% (evS (fun n => zzb n a0 a1 a2) r fun n => zzb.eq_2 a0 a1 a2 n) := evS _ _ fun _ => rfl
theorem z4i {r} (a0 a1 a2 a3) : type_of% (evS (fun n => yzf n a0 a1 a2 a3) r fun n => yzf.eq_2 a0 a1 a2 a3 n) := evS _ _ fun _ => rfl
theorem zb6 {r} (a0) : type_of% (evS (fun n => yzx n a0) r fun n => yzx.eq_2 a0 n) := evS _ _ fun _ => rfl
theorem yzm {r} (a0 a1 a2) : type_of% (evS (fun n => zzi n a0 a1 a2) r fun n => zzi.eq_2 a0 a1 a2 n) := evS _ _ fun _ => rfl
theorem z3y {r} (a0 a1 a2 a3) : type_of% (evS (fun n => yzi n a0 a1 a2 a3) r fun n => yzi.eq_2 a0 a1 a2 a3 n) := evS _ _ fun _ => rfl
theorem z3t {r} (a0 a1 a2) : type_of% (evS (fun n => yzt n a0 a1 a2) r fun n => yzt.eq_2 a0 a1 a2 n) := evS _ _ fun _ => rfl
theorem z3s {r} (a0 a1 a2) : type_of% (evS (fun n => kzi n a0 a1 a2) r fun n => kzi.eq_2 a0 a1 a2 n) := evS _ _ fun _ => rfl
theorem z3z {r} (a0 a1 a2 a3) : type_of% (evS (fun n => kzu n a0 a1 a2 a3) r fun n => kzu.eq_2 a0 a1 a2 a3 n) := evS _ _ fun _ => rfl
theorem z9e {r} (a0 a1 a2) : type_of% (evS (fun n => yz7 n a0 a1 a2) r fun n => yz7.eq_2 a0 a1 a2 n) := evS _ _ fun _ => rfl
theorem znh {r} (a0) : type_of% (evS (fun n => z74 n a0) r fun n => z74.eq_2 a0 n) := evS _ _ fun _ => rfl
theorem z7h {r} (a0 a1) : type_of% (evS (fun n => kze n a0 a1) r fun n => kze.eq_2 a0 a1 n) := evS _ _ fun _ => rfl
theorem yzq {r} (a0 a1 a2 a3) : type_of% (evS (fun n => kz5 n a0 a1 a2 a3) r fun n => kz5.eq_2 a0 a1 a2 a3 n) := evS _ _ fun _ => rfl
theorem yiz {r} (a0) : type_of% (evS (fun n => zd3 n a0) r fun n => zd3.eq_2 a0 n) := evS _ _ fun _ => rfl
theorem zqo {r} (a0 a1) : type_of% (evS (fun n => z4r n a0 a1) r fun n => z4r.eq_2 a0 a1 n) := evS _ _ fun _ => rfl
theorem z96 {r} (a0 a1 a2 a3) : type_of% (evS (fun n => kzh n a0 a1 a2 a3) r fun n => kzh.eq_2 a0 a1 a2 a3 n) := evS _ _ fun _ => rfl
theorem zet {r} (a0 a1 a2 a3 a4) : type_of% (evS (fun n => z0s n a0 a1 a2 a3 a4) r fun n => z0s.eq_2 a0 a1 a2 a3 a4 n) := evS _ _ fun _ => rfl
theorem zw0 {r} (a0 a1 a2 a3) : type_of% (evS (fun n => z4y n a0 a1 a2 a3) r fun n => z4y.eq_2 a0 a1 a2 a3 n) := evS _ _ fun _ => rfl
theorem y3i {r} (a0 a1) : type_of% (evS (fun n => z65 n a0 a1) r fun n => z65.eq_2 a0 a1 n) := evS _ _ fun _ => rfl
theorem zmb {r} (a0 a1 a2 a3) : type_of% (evS (fun n => z2q n a0 a1 a2 a3) r fun n => z2q.eq_2 a0 a1 a2 a3 n) := evS _ _ fun _ => rfl
theorem zbe {r} (a0 a1 a2 a3 a4) : type_of% (evS (fun n => yzh n a0 a1 a2 a3 a4) r fun n => yzh.eq_2 a0 a1 a2 a3 a4 n) := evS _ _ fun _ => rfl
theorem zoo {r} (a0) : type_of% (evS (fun n => z3h n a0) r fun n => z3h.eq_2 a0 n) := evS _ _ fun _ => rfl
theorem ze5 {r} (a0 a1 a2 a3 a4) : type_of% (evS (fun n => z0v n a0 a1 a2 a3 a4) r fun n => z0v.eq_2 a0 a1 a2 a3 a4 n) := evS _ _ fun _ => rfl
theorem zjw {r} (a0 a1) : type_of% (evS (fun n => z0u n a0 a1) r fun n => z0u.eq_2 a0 a1 n) := evS _ _ fun _ => rfl
theorem zv7 {r} (a0) : type_of% (evS (fun n => z6w n a0) r fun n => z6w.eq_2 a0 n) := evS _ _ fun _ => rfl
theorem zh5 {r} (a0 a1 a2) : type_of% (evS (fun n => z3d n a0 a1 a2) r fun n => z3d.eq_2 a0 a1 a2 n) := evS _ _ fun _ => rfl
theorem zhz {r} (a0 a1 a2 a3) : type_of% (evS (fun n => z3e n a0 a1 a2 a3) r fun n => z3e.eq_2 a0 a1 a2 a3 n) := evS _ _ fun _ => rfl
theorem zhx {r} (a0 a1 a2 a3) : type_of% (evS (fun n => z3o n a0 a1 a2 a3) r fun n => z3o.eq_2 a0 a1 a2 a3 n) := evS _ _ fun _ => rfl
theorem zob {r} (a0) : type_of% (evS (fun n => z0z n a0) r fun n => z0z.eq_2 a0 n) := evS _ _ fun _ => rfl
theorem zv9 {r} (a0) : type_of% (evS (fun n => z8k n a0) r fun n => z8k.eq_2 a0 n) := evS _ _ fun _ => rfl
theorem zi8 {r} (a0 a1) : type_of% (evS (fun n => z5c n a0 a1) r fun n => z5c.eq_2 a0 a1 n) := evS _ _ fun _ => rfl
theorem zhj {r} (a0 a1) : type_of% (evS (fun n => z0f n a0 a1) r fun n => z0f.eq_2 a0 a1 n) := evS _ _ fun _ => rfl
theorem zhw {r} (a0 a1 a2 a3 a4) : type_of% (evS (fun n => z3f n a0 a1 a2 a3 a4) r fun n => z3f.eq_2 a0 a1 a2 a3 a4 n) := evS _ _ fun _ => rfl
theorem zhf {r} (a0 a1 a2) : type_of% (evS (fun n => z03 n a0 a1 a2) r fun n => z03.eq_2 a0 a1 a2 n) := evS _ _ fun _ => rfl
theorem z7v {r} (a0) : type_of% (evS (fun n => kzb n a0) r fun n => kzb.eq_2 a0 n) := evS _ _ fun _ => rfl
theorem z06 {r} (a0 a1 a2) : type_of% (evS (fun n => yz8 n a0 a1 a2) r fun n => yz8.eq_2 a0 a1 a2 n) := evS _ _ fun _ => rfl
theorem znj {r} (a0) : type_of% (evS (fun n => z4k n a0) r fun n => z4k.eq_2 a0 n) := evS _ _ fun _ => rfl
theorem zam {r} (a0) : type_of% (evS (fun n => z5d n a0) r fun n => z5d.eq_2 a0 n) := evS _ _ fun _ => rfl
theorem z7x {r} (a0 a1) : type_of% (evS (fun n => zz8 n a0 a1) r fun n => zz8.eq_2 a0 a1 n) := evS _ _ fun _ => rfl
theorem z7w {r} (a0 a1) : type_of% (evS (fun n => yzg n a0 a1) r fun n => yzg.eq_2 a0 a1 n) := evS _ _ fun _ => rfl
theorem zvr {r} (a0) : type_of% (evS (fun n => z6y n a0) r fun n => z6y.eq_2 a0 n) := evS _ _ fun _ => rfl
theorem zdd {r} (a0 a1 a2) : type_of% (evS (fun n => z39 n a0 a1 a2) r fun n => z39.eq_2 a0 a1 a2 n) := evS _ _ fun _ => rfl
theorem zdc {r} (a0 a1 a2 a3) : type_of% (evS (fun n => z35 n a0 a1 a2 a3) r fun n => z35.eq_2 a0 a1 a2 a3 n) := evS _ _ fun _ => rfl
theorem zvh {r} (a0) : type_of% (evS (fun n => z6u n a0) r fun n => z6u.eq_2 a0 n) := evS _ _ fun _ => rfl
theorem zhn {r} (a0 a1) : type_of% (evS (fun n => z0d n a0 a1) r fun n => z0d.eq_2 a0 a1 n) := evS _ _ fun _ => rfl
theorem zgy {r} (a0 a1) : type_of% (evS (fun n => z3i n a0 a1) r fun n => z3i.eq_2 a0 a1 n) := evS _ _ fun _ => rfl
theorem zha {r} (a0 a1 a2) : type_of% (evS (fun n => z3m n a0 a1 a2) r fun n => z3m.eq_2 a0 a1 a2 n) := evS _ _ fun _ => rfl
theorem zid {r} (a0 a1) : type_of% (evS (fun n => z11 n a0 a1) r fun n => z11.eq_2 a0 a1 n) := evS _ _ fun _ => rfl
theorem zhl {r} (a0 a1) : type_of% (evS (fun n => z34 n a0 a1) r fun n => z34.eq_2 a0 a1 n) := evS _ _ fun _ => rfl
theorem zvt {r} (a0) : type_of% (evS (fun n => z8g n a0) r fun n => z8g.eq_2 a0 n) := evS _ _ fun _ => rfl
theorem zhi {r} (a0 a1) : type_of% (evS (fun n => z00 n a0 a1) r fun n => z00.eq_2 a0 a1 n) := evS _ _ fun _ => rfl
theorem zhq {r} (a0 a1 a2) : type_of% (evS (fun n => z0b n a0 a1 a2) r fun n => z0b.eq_2 a0 a1 a2 n) := evS _ _ fun _ => rfl
theorem zm1 {r} (a0) : type_of% (evS (fun n => z1m n a0) r fun n => z1m.eq_2 a0 n) := evS _ _ fun _ => rfl
theorem zg6 {r} (a0) : type_of% (evS (fun n => yzr n a0) r fun n => yzr.eq_2 a0 n) := evS _ _ fun _ => rfl
theorem zol {r} (a0) : type_of% (evS (fun n => z02 n a0) r fun n => z02.eq_2 a0 n) := evS _ _ fun _ => rfl
theorem zus {r} (a0 a1) : type_of% (evS (fun n => z08 n a0 a1) r fun n => z08.eq_2 a0 a1 n) := evS _ _ fun _ => rfl
theorem zj5 {r} (a0 a1) : type_of% (evS (fun n => yzy n a0 a1) r fun n => yzy.eq_2 a0 a1 n) := evS _ _ fun _ => rfl
theorem zix {r} (a0 a1) : type_of% (evS (fun n => z0j n a0 a1) r fun n => z0j.eq_2 a0 a1 n) := evS _ _ fun _ => rfl
theorem zd1 {r} (a0 a1) : type_of% (evS (fun n => kzx n a0 a1) r fun n => kzx.eq_2 a0 a1 n) := evS _ _ fun _ => rfl
theorem zd2 {r} (a0) : type_of% (evS (fun n => z0y n a0) r fun n => z0y.eq_2 a0 n) := evS _ _ fun _ => rfl
theorem z2k {r} (a0 a1 a2) : type_of% (evS (fun n => z0o n a0 a1 a2) r fun n => z0o.eq_2 a0 a1 a2 n) := evS _ _ fun _ => rfl
theorem ycr {r} (a0) : type_of% (evS (fun n => zd8 n a0) r fun n => zd8.eq_2 a0 n) := evS _ _ fun _ => rfl
theorem y69 {r} (a0) : type_of% (evS (fun n => zal n a0) r fun n => zal.eq_2 a0 n) := evS _ _ fun _ => rfl
theorem zn8 {r} (a0 a1 a2) : type_of% (evS (fun n => z60 n a0 a1 a2) r fun n => z60.eq_2 a0 a1 a2 n) := evS _ _ fun _ => rfl
theorem zmv {r} (a0 a1 a2 a3) : type_of% (evS (fun n => z5q n a0 a1 a2 a3) r fun n => z5q.eq_2 a0 a1 a2 a3 n) := evS _ _ fun _ => rfl
theorem zxe {r} (a0 a1 a2) : type_of% (evS (fun n => z5u n a0 a1 a2) r fun n => z5u.eq_2 a0 a1 a2 n) := evS _ _ fun _ => rfl
theorem zxn {r} (a0 a1) : type_of% (evS (fun n => z5r n a0 a1) r fun n => z5r.eq_2 a0 a1 n) := evS _ _ fun _ => rfl
theorem yjk {r} (a0) : type_of% (evS (fun n => zfc n a0) r fun n => zfc.eq_2 a0 n) := evS _ _ fun _ => rfl
theorem zl0 {r} (a0) : type_of% (evS (fun n => z1r n a0) r fun n => z1r.eq_2 a0 n) := evS _ _ fun _ => rfl
theorem zfx {r} (a0) : type_of% (evS (fun n => z04 n a0) r fun n => z04.eq_2 a0 n) := evS _ _ fun _ => rfl
theorem zt9 {r} (a0) : type_of% (evS (fun n => z7d n a0) r fun n => z7d.eq_2 a0 n) := evS _ _ fun _ => rfl
theorem z8u {r} (a0 a1) : type_of% (evS (fun n => kzk n a0 a1) r fun n => kzk.eq_2 a0 a1 n) := evS _ _ fun _ => rfl
theorem zqr {r} (a0) : type_of% (evS (fun n => z64 n a0) r fun n => z64.eq_2 a0 n) := evS _ _ fun _ => rfl
theorem zs7 {r} (a0) : type_of% (evS (fun n => z7k n a0) r fun n => z7k.eq_2 a0 n) := evS _ _ fun _ => rfl
theorem zjq {r} (a0 a1) : type_of% (evS (fun n => z4o n a0 a1) r fun n => z4o.eq_2 a0 a1 n) := evS _ _ fun _ => rfl
theorem zex {r} (a0 a1) : type_of% (evS (fun n => z0q n a0 a1) r fun n => z0q.eq_2 a0 a1 n) := evS _ _ fun _ => rfl
theorem z9b {r} (a0 a1) : type_of% (evS (fun n => zze n a0 a1) r fun n => zze.eq_2 a0 a1 n) := evS _ _ fun _ => rfl
theorem z9a {r} (a0 a1) : type_of% (evS (fun n => kz6 n a0 a1) r fun n => kz6.eq_2 a0 a1 n) := evS _ _ fun _ => rfl
theorem z6c {r} (a0 a1) : type_of% (evS (fun n => zzk n a0 a1) r fun n => zzk.eq_2 a0 a1 n) := evS _ _ fun _ => rfl
theorem za0 {r} (a0 a1 a2 a3 a4 a5 a6) : type_of% (evS (fun n => kzy n a0 a1 a2 a3 a4 a5 a6) r fun n => kzy.eq_2 a0 a1 a2 a3 a4 a5 a6 n) := evS _ _ fun _ => rfl
theorem z4f {r} (a0 a1 a2 a3 a4 a5 a6 a7) : type_of% (evS (fun n => yzk n a0 a1 a2 a3 a4 a5 a6 a7) r fun n => yzk.eq_2 a0 a1 a2 a3 a4 a5 a6 a7 n) := evS _ _ fun _ => rfl
theorem z4m {r} (a0 a1 a2 a3 a4 a5 a6 a7 a8) : type_of% (evS (fun n => zzy n a0 a1 a2 a3 a4 a5 a6 a7 a8) r fun n => zzy.eq_2 a0 a1 a2 a3 a4 a5 a6 a7 a8 n) := evS _ _ fun _ => rfl
theorem z9v {r} (a0 a1 a2 a3 a4 a5 a6 a7 a8) : type_of% (evS (fun n => zzz n a0 a1 a2 a3 a4 a5 a6 a7 a8) r fun n => zzz.eq_2 a0 a1 a2 a3 a4 a5 a6 a7 a8 n) := evS _ _ fun _ => rfl
theorem y3u {r} (a0) : type_of% (evS (fun n => z81 n a0) r fun n => z81.eq_2 a0 n) := evS _ _ fun _ => rfl
theorem zwi {r} (a0 a1 a2 a3) : type_of% (evS (fun n => z52 n a0 a1 a2 a3) r fun n => z52.eq_2 a0 a1 a2 a3 n) := evS _ _ fun _ => rfl
theorem zlo {r} (a0 a1 a2) : type_of% (evS (fun n => z6i n a0 a1 a2) r fun n => z6i.eq_2 a0 a1 a2 n) := evS _ _ fun _ => rfl
theorem zlz {r} (a0 a1 a2 a3) : type_of% (evS (fun n => z54 n a0 a1 a2 a3) r fun n => z54.eq_2 a0 a1 a2 a3 n) := evS _ _ fun _ => rfl
theorem zl9 {r} (a0 a1 a2 a3 a4) : type_of% (evS (fun n => z2s n a0 a1 a2 a3 a4) r fun n => z2s.eq_2 a0 a1 a2 a3 a4 n) := evS _ _ fun _ => rfl
theorem zws {r} (a0 a1 a2) : type_of% (evS (fun n => z1i n a0 a1 a2) r fun n => z1i.eq_2 a0 a1 a2 n) := evS _ _ fun _ => rfl
theorem zne {r} (a0) : type_of% (evS (fun n => z5i n a0) r fun n => z5i.eq_2 a0 n) := evS _ _ fun _ => rfl
theorem zpn {r} (a0 a1) : type_of% (evS (fun n => z8d n a0 a1) r fun n => z8d.eq_2 a0 a1 n) := evS _ _ fun _ => rfl
theorem zjo {r} (a0 a1) : type_of% (evS (fun n => z2y n a0 a1) r fun n => z2y.eq_2 a0 a1 n) := evS _ _ fun _ => rfl
theorem zce {r} (a0 a1) : type_of% (evS (fun n => kz9 n a0 a1) r fun n => kz9.eq_2 a0 a1 n) := evS _ _ fun _ => rfl
theorem zb8 {r} (a0) : type_of% (evS (fun n => zzl n a0) r fun n => zzl.eq_2 a0 n) := evS _ _ fun _ => rfl
theorem yzu {r} (a0 a1) : type_of% (evS (fun n => yz9 n a0 a1) r fun n => yz9.eq_2 a0 a1 n) := evS _ _ fun _ => rfl
theorem z67 {r} (a0 a1 a2) : type_of% (evS (fun n => zzj n a0 a1 a2) r fun n => zzj.eq_2 a0 a1 a2 n) := evS _ _ fun _ => rfl
theorem zdw {r} (a0 a1 a2) : type_of% (evS (fun n => zzm n a0 a1 a2) r fun n => zzm.eq_2 a0 a1 a2 n) := evS _ _ fun _ => rfl
theorem z3x {r} (a0) : type_of% (evS (fun n => zzt n a0) r fun n => zzt.eq_2 a0 n) := evS _ _ fun _ => rfl
theorem zgc {r} (a0) : type_of% (evS (fun n => z1o n a0) r fun n => z1o.eq_2 a0 n) := evS _ _ fun _ => rfl
theorem zbz {r} (a0 a1 a2 a3 a4) : type_of% (evS (fun n => z1a n a0 a1 a2 a3 a4) r fun n => z1a.eq_2 a0 a1 a2 a3 a4 n) := evS _ _ fun _ => rfl
theorem z9k {r} (a0 a1 a2 a3 a4 a5) : type_of% (evS (fun n => z17 n a0 a1 a2 a3 a4 a5) r fun n => z17.eq_2 a0 a1 a2 a3 a4 a5 n) := evS _ _ fun _ => rfl
theorem z9s {r} (a0 a1 a2 a3) : type_of% (evS (fun n => z19 n a0 a1 a2 a3) r fun n => z19.eq_2 a0 a1 a2 a3 n) := evS _ _ fun _ => rfl
theorem zsz {r} (a0 a1) : type_of% (evS (fun n => z7n n a0 a1) r fun n => z7n.eq_2 a0 a1 n) := evS _ _ fun _ => rfl
theorem zqv {r} (a0) : type_of% (evS (fun n => z4u n a0) r fun n => z4u.eq_2 a0 n) := evS _ _ fun _ => rfl
theorem zle {r} (a0 a1) : type_of% (evS (fun n => z05 n a0 a1) r fun n => z05.eq_2 a0 a1 n) := evS _ _ fun _ => rfl
theorem zev {r} (a0 a1 a2) : type_of% (evS (fun n => z1h n a0 a1 a2) r fun n => z1h.eq_2 a0 a1 a2 n) := evS _ _ fun _ => rfl
theorem zeu {r} (a0 a1 a2 a3 a4) : type_of% (evS (fun n => z1g n a0 a1 a2 a3 a4) r fun n => z1g.eq_2 a0 a1 a2 a3 a4 n) := evS _ _ fun _ => rfl
theorem zc1 {r} (a0 a1) : type_of% (evS (fun n => kzm n a0 a1) r fun n => kzm.eq_2 a0 a1 n) := evS _ _ fun _ => rfl
end Go.Proofs.YtfhpamcehnfhoaaGreatDoor


namespace Go.Proofs.YtfhpamcehnfhoaaGreatDoor
open Go Go.Ab
set_option linter.unusedVariables false
theorem zpe {α : Type} {x y : List α} (h : x.length + y.length ≤ 268435456) : ext x y = some (x ++ y) := by unfold ext; rw [if_pos (by simpa [zc3] using h)]
set_option linter.unusedSimpArgs false
def I64 (x : Int) : Prop := -9223372036854775808 ≤ x ∧ x ≤ 9223372036854775807
theorem zll {x : Int} (h : I64 x) : Ev (fun n => z5i n x) (x.natAbs : Int) := by
 unfold I64 at h
 rw [zne]
 simp only [Ev.pif, Ev.zz1, decide_eq_true_eq]
 split
 ·rw [wUn (x := x) (by omega), wUn (by omega)]; omega
 ·rw [wU (by omega)]; omega
theorem zx6 : ∀ (b a : Nat), Ev (fun n => z2y n (b : Int) (a : Int)) (Nat.gcd a b : Int) := by
 intro b
 induction b using Nat.strongRecOn with
 | ind b ih =>
   intro a
   rw [zjo]
   by_cases hb : b = 0
   · subst hb
     simp [Ev.pif, Ev.zz1]
   · have hm : rem .u64 (a : Int) (b : Int) = some ((a % b : Nat) : Int) := by
       unfold rem; rw [if_neg (by omega), Int.tmod_eq_emod_of_nonneg (by omega)]; simp
     rw [Ev.kz1 (by simpa using hb), Ev.yz2 hm]
     have := ih (a % b) (Nat.mod_lt _ (by omega)) b
     rw [Nat.gcd_comm a b, Nat.gcd_rec b a, Nat.gcd_comm]
     exact this
theorem y03 {a b : Nat} : Ev (fun n => z8d n (a : Int) (b : Int)) (Nat.gcd a b : Int) := by
 rw [zpn]; exact zx6 b a
def rok (r : zz2) : Bool := decide (1 ≤ r.den) && decide (r.den ≤ 1000000000) && decide (r.num.natAbs ≤ 1000000000) && (Nat.gcd r.num.natAbs r.den.natAbs == 1)
theorem z68 {r : zz2} : rok r = true ↔ 1 ≤ r.den ∧ r.den ≤ 1000000000 ∧ r.num.natAbs ≤ 1000000000 ∧ Nat.gcd r.num.natAbs r.den.natAbs = 1 := by
 simp [rok, and_assoc]
theorem zf8 {r : zz2} (h : I64 r.num) : Ev (fun n => z1r n r) (if rok r then 0 else 8) := by
 have l0 : ∀ b, Ev (fun n => z04 n b) (if b then 8 else 0) := fun b => by
  rw [zfx]; cases b <;> simp [Ev.pif, Ev.zz1]
 rw [zl0]
 simp only [Ev.pif, decide_eq_true_eq]
 split
 ·refine (l0 _).to ?_; rw [if_pos rfl, if_neg]; rw [z68]; omega
 split
 ·refine (l0 _).to ?_; rw [if_pos rfl, if_neg]; rw [z68]; omega
 rw [Ev.zz0 (zll h)]
 simp only [Ev.pif, decide_eq_true_eq]
 split
 ·refine (l0 _).to ?_; rw [if_pos rfl, if_neg]; rw [z68]; omega
 rw [Ev.zz0 (zll h), wU (by omega)]
 have hd : r.den = (r.den.natAbs : Int) := by omega
 rw [hd, Ev.zz0 y03]
 refine (l0 _).to ?_
 have : ((((Nat.gcd r.num.natAbs r.den.natAbs : Nat) : Int) != 1) = true) ↔ ¬ rok r = true := by
  rw [z68]
  simp only [bne_iff_ne, ne_eq]
  omega
 by_cases hr : rok r = true
 ·rw [if_neg (by rw [this]; simpa using hr), if_pos hr]
 ·rw [if_pos (by rw [this]; exact hr), if_neg hr]
theorem y4t (a b : Int) : Nat.gcd a.natAbs b.natAbs = Nat.gcd b.natAbs (a.tmod b).natAbs := by
 rw [Int.natAbs_tmod, Nat.gcd_comm a.natAbs, Nat.gcd_rec b.natAbs a.natAbs, Nat.gcd_comm]
theorem znl : ∀ (m : Nat) (b a : Int), b.natAbs = m → I64 a → I64 b → ¬ a = -9223372036854775808 → ¬ b = -9223372036854775808 → Ev (fun n => z0q n b a) (Nat.gcd a.natAbs b.natAbs : Int) := by
 intro m
 induction m using Nat.strongRecOn with
 | ind m ih =>
   intro b a hm ha hb ha0 hb0
   unfold I64 at ha hb
   rw [zex]
   by_cases h0 : b = 0
   · subst h0
     simp only [Ev.pif, Ev.zz1, decide_eq_true_eq]
     rw [if_neg (by simp)]
     split
     · rw [wI (by omega)]; simp; omega
     · simp; omega
   · have hr : rem .i64 a b = some (a.tmod b) := by unfold rem; rw [if_neg h0]
     have h1 : (a.tmod b).natAbs < b.natAbs := by rw [Int.natAbs_tmod]; exact Nat.mod_lt _ (by omega)
     rw [Ev.kz1 (by simpa using h0), Ev.yz2 hr]
     have := ih _ (by rw [← hm]; exact h1) (a.tmod b) b rfl hb (by unfold I64; omega) hb0 (by omega)
     rw [y4t a b]
     exact this
theorem zpf {a b : Int} (ha : I64 a) (hb : I64 b) (ha0 : ¬ a = -9223372036854775808) (hb0 : ¬ b = -9223372036854775808) : Ev (fun n => z4o n a b) (Nat.gcd a.natAbs b.natAbs : Int) := by
 rw [zjq]; exact znl _ b a rfl ha hb ha0 hb0
theorem zml {r : zz2} : Ev (fun n => z1m n r) (if rok r then 0 else 8) := by
 have l0 : ∀ b, Ev (fun n => yzr n b) (if b then 8 else 0) := fun b => by
  rw [zg6]; cases b <;> simp [Ev.pif, Ev.zz1]
 rw [zm1]
 simp only [Ev.pif, decide_eq_true_eq]
 split
 ·refine (l0 _).to ?_; rw [if_pos rfl, if_neg]; rw [z68]; omega
 split
 ·refine (l0 _).to ?_; rw [if_pos rfl, if_neg]; rw [z68]; omega
 split
 ·refine (l0 _).to ?_; rw [if_pos rfl, if_neg]; rw [z68]; omega
 split
 ·refine (l0 _).to ?_; rw [if_pos rfl, if_neg]; rw [z68]; omega
 rw [Ev.zz0 (zpf (by unfold I64; omega) (by unfold I64; omega) (by omega) (by omega))]
 refine (l0 _).to ?_
 have : ((((Nat.gcd r.num.natAbs r.den.natAbs : Nat) : Int) != 1) = true) ↔ ¬ rok r = true := by
  rw [z68]
  simp only [bne_iff_ne, ne_eq]
  omega
 by_cases hr : rok r = true
 ·rw [if_neg (by rw [this]; simpa using hr), if_pos hr]
 ·rw [if_pos (by rw [this]; exact hr), if_neg hr]
theorem yty {k : IntKind} {a b : Nat} (hk : ∀ c : Nat, c ≤ a → k.wrap (c : Int) = c) (hb : b ≠ 0) : quo k (a : Int) (b : Int) = some ((a / b : Nat) : Int) := by
 unfold quo
 rw [if_neg (by omega), Int.tdiv_eq_ediv_of_nonneg (by omega), ← Int.natCast_ediv, hk _ (Nat.div_le_self _ _)]
end Go.Proofs.YtfhpamcehnfhoaaGreatDoor


namespace Go.Proofs.YtfhpamcehnfhoaaGreatDoor
open Go Go.Ab
set_option linter.unusedVariables false
set_option linter.unusedSimpArgs false
def wfR (r : zz2) : Prop := I64 r.num ∧ I64 r.den
theorem zxv {r : zz2} (h : rok r = true) : (-1000000000 ≤ r.num ∧ r.num ≤ 1000000000) ∧ (-1000000000 ≤ r.den ∧ r.den ≤ 1000000000) ∧ 1 ≤ r.den := by
 rw [z68] at h; omega
end Go.Proofs.YtfhpamcehnfhoaaGreatDoor


namespace Go.Proofs.YtfhpamcehnfhoaaGreatDoor
open Go Go.Ab
set_option linter.unusedVariables false
set_option linter.unusedSimpArgs false
theorem zx5 {P : yz0 → Prop} (h : ∀ v : yz0, (∀ x, x ∈ v.list → P x) → P v) (v : yz0) : P v := h v fun x hx => zx5 h x
termination_by v
decreasing_by exact yz0.zy8 hx
mutual
def zb4 : yz0 → Nat
 | ⟨k, _, _, _, l⟩ => if k = 4 then 1 + z5e l else 1
def z5e : List yz0 → Nat
 | [] => 0
 | x :: l => zb4 x + z5e l
end
mutual
def zeg : yz0 → Nat
 | ⟨k, _, _, _, l⟩ => if k = 4 then max 1 (zjk l) else 1
def zjk : List yz0 → Nat
 | [] => 0
 | x :: l => max (1 + zeg x) (zjk l)
end
theorem zd6 (v : yz0) : zb4 v = if v.kind = 4 then 1 + z5e v.list else 1 := by cases v; rw [zb4]
theorem zp2 (v : yz0) : zeg v = if v.kind = 4 then max 1 (zjk v.list) else 1 := by cases v; rw [zeg]
theorem yse {l : List yz0} {x : yz0} (h : x ∈ l) : x.size ≤ (l.map yz0.size).sum := by
 induction l with
 | nil => cases h
 | cons y l ih =>
   rcases List.mem_cons.1 h with rfl | h
   · simp
   · have := ih h; simp; omega
theorem zas (v : yz0) : (v.list.map yz0.size).sum + v.str.length + 4 ≤ v.size := by rw [yz0.size_eq]; omega
theorem zn1 {v x : yz0} (h : x ∈ v.list) : x.size ≤ v.size := by have := yse h; have := zas v; omega
theorem ziq (l : List yz0) : l.length ≤ (l.map yz0.size).sum := by
 induction l with
 | nil => simp
 | cons x l ih => have := zas x; simp; omega
theorem ztu : ∀ v : yz0, zb4 v ≤ v.size := zx5 fun v ih => by
 have : ∀ l : List yz0, (∀ x, x ∈ l → x ∈ v.list) → z5e l ≤ (l.map yz0.size).sum := fun l => by
  induction l with
  | nil => intro _; simp [z5e]
  | cons x l ihl =>
    intro hl
    have := ih x (hl x List.mem_cons_self)
    have := ihl fun y hy => hl y (List.mem_cons_of_mem _ hy)
    simp [z5e]; omega
 have := this v.list fun _ h => h
 have := zas v
 rw [zd6]; split <;> omega
theorem yja : ∀ v : yz0, zeg v ≤ zb4 v := zx5 fun v ih => by
 have : ∀ l : List yz0, (∀ x, x ∈ l → x ∈ v.list) → zjk l ≤ 1 + z5e l := fun l => by
  induction l with
  | nil => intro _; simp [z5e, zjk]
  | cons x l ihl =>
    intro hl
    have := ih x (hl x List.mem_cons_self)
    have := ihl fun y hy => hl y (List.mem_cons_of_mem _ hy)
    simp [z5e, zjk]; omega
 have := this v.list fun _ h => h
 rw [zd6, zp2]; split <;> omega
theorem y6b (l : List yz0) : z5e l ≤ (l.map yz0.size).sum := by
 induction l with
 | nil => simp [z5e]
 | cons x l ih => have := ztu x; simp [z5e]; omega
theorem y9x : ∀ v : yz0, v.size ≤ 8388608 → Ev (fun n => z3h n v) ((zb4 v : Int), (zeg v : Int)) := zx5 fun v ih hs => by
 have l1 : ∀ d p, Ev (fun n => z0u n d p) (p, d) := fun d p => by rw [zjw, Ev.zz1]
 have hsl := zas v
 have hlen := ziq v.list
 have loop : ∀ k, k ≤ v.list.length → ∀ d p : Nat, p + z5e (v.list.drop k) ≤ 8388609 → d ≤ 8388609 → Ev (fun n => z0v n (k : Int) (d : Int) (p : Int) v.list (v.list.length : Int)) (((p + z5e (v.list.drop k) : Nat) : Int), ((max d (zjk (v.list.drop k)) : Nat) : Int)) :=
  down (fun d p hp hd => by
   rw [ze5, Ev.yz1 (by simp)]
   refine (l1 _ _).to ?_
   simp [z5e, zjk]) fun k hk ihk d p hp hd => by
   have hx := List.getElem_mem hk
   have hsx := zn1 hx
   rw [← List.getElem_cons_drop (h := hk)] at hp ⊢
   simp only [z5e, zjk] at hp ⊢
   have hpl := ztu v.list[k]
   have hdl := yja v.list[k]
   rw [ze5, Ev.kz1 (by simpa using hk), Ev.yz2 (yzb hk), yz0.kz2, Ev.zz0 (ih _ hx (by omega)), wI (x := _ + 1) (by omega), wI (x := (zeg _ : Int) + 1) (by omega), wI (x := (p : Int) + _) (by omega)]
   have e1 : (k : Int) + 1 = ((k + 1 : Nat) : Int) := by omega
   have e2 : (zeg v.list[k] : Int) + 1 = ((1 + zeg v.list[k] : Nat) : Int) := by omega
   have e3 : (p : Int) + (zb4 v.list[k] : Int) = ((p + zb4 v.list[k] : Nat) : Int) := by omega
   rw [e1, e2, e3, y4d]
   refine (ihk (max d (1 + zeg v.list[k])) (p + zb4 v.list[k]) (by omega) (by omega)).to ?_
   congr 2 <;> omega
 rw [zoo]
 by_cases hk : v.kind = 4
 ·rw [Ev.kz1 (by simpa using hk)]
  have hv := y6b v.list
  have := loop 0 (Nat.zero_le _) 1 1 (by simp; omega) (by omega)
  refine this.to ?_
  rw [zd6, zp2, if_pos hk, if_pos hk, List.drop_zero]
 ·rw [Ev.yz1 (by simpa using hk)]
  refine (l1 1 1).to ?_
  rw [zd6, zp2, if_neg hk, if_neg hk]; rfl
theorem y2d : ∀ v : yz0, v.size ≤ 8388608 → Ev (fun n => z4l n v) (zb4 v : Int) := zx5 fun v ih hs => by
 have hsl := zas v
 have hlen := ziq v.list
 rw [zs4, yz0.kz2, zd6]
 by_cases hk : v.kind = 4
 ·rw [if_pos hk]
  have hkk : (v.kind == 4) = true := by simpa using hk
  have loop : ∀ k, k ≤ v.list.length → ∀ p : Nat, p + z5e (v.list.drop k) ≤ 8388609 → Ev (fun n => z2d n (k : Int) (p : Int) v) ((p + z5e (v.list.drop k) : Nat) : Int) :=
   down (fun p hp => by
    rw [zc2, Ev.yz1 (by simp), zby, Ev.yz1 (by rfl), Ev.zz1]
    simp [z5e]) fun k hk ihk p hp => by
    have hx := List.getElem_mem hk
    have hsx := zn1 hx
    rw [← List.getElem_cons_drop (h := hk)] at hp ⊢
    simp only [z5e] at hp ⊢
    have hpl := ztu v.list[k]
    rw [zc2, Ev.kz1 (by simpa using hk), hkk, yz0.kz2, zby, Ev.kz1 (by rfl), Ev.yz2 (yzb hk), yz0.kz2, Ev.zz0 (ih _ hx (by omega)), wI (x := _ + 1) (by omega), wI (x := (p : Int) + _) (by omega)]
    have e1 : (k : Int) + 1 = ((k + 1 : Nat) : Int) := by omega
    have e3 : (p : Int) + (zb4 v.list[k] : Int) = ((p + zb4 v.list[k] : Nat) : Int) := by omega
    rw [e1, e3, yz0.kz2]
    refine (ihk (p + zb4 v.list[k]) (by omega)).to ?_
    congr 1; omega
  have hv := y6b v.list
  exact loop 0 (Nat.zero_le _) 1 (by simp; omega)
 ·rw [if_neg hk]
  have hkk : (v.kind == 4) = false := by simpa using hk
  have l1 : Ev (fun n => z2b n 0 1 false v) 1 := by rw [zby, Ev.yz1 (by rfl), Ev.zz1]
  rw [zc2, hkk, yz0.kz2, Ev.pif]
  split <;> exact l1
theorem yla : ∀ v : yz0, v.size ≤ 8388608 → Ev (fun n => z6y n v) (zeg v : Int) := zx5 fun v ih hs => by
 have hsl := zas v
 have hlen := ziq v.list
 rw [zvr, yz0.kz2, zp2]
 by_cases hk : v.kind = 4
 ·rw [if_pos hk]
  have hkk : (v.kind == 4) = true := by simpa using hk
  have loop : ∀ k, k ≤ v.list.length → ∀ p : Nat, p ≤ 8388609 → Ev (fun n => z39 n (k : Int) (p : Int) v) ((max p (zjk (v.list.drop k)) : Nat) : Int) :=
   down (fun p hp => by
    rw [zdd, Ev.yz1 (by simp), zdc, Ev.yz1 (by rfl), Ev.zz1]
    simp [zjk]) fun k hk ihk p hp => by
    have hx := List.getElem_mem hk
    have hsx := zn1 hx
    rw [← List.getElem_cons_drop (h := hk)]
    simp only [zjk]
    have hpl := ztu v.list[k]
    have hdl := yja v.list[k]
    rw [zdd, Ev.kz1 (by simpa using hk), hkk, yz0.kz2, zdc, Ev.kz1 (by rfl), Ev.yz2 (yzb hk), yz0.kz2, Ev.zz0 (ih _ hx (by omega)), wI (x := _ + 1) (by omega), wI (x := 1 + _) (by omega)]
    have e1 : (k : Int) + 1 = ((k + 1 : Nat) : Int) := by omega
    have e3 : 1 + (zeg v.list[k] : Int) = ((1 + zeg v.list[k] : Nat) : Int) := by omega
    rw [e1, e3, yz0.kz2, y4d]
    refine (ihk (max p (1 + zeg v.list[k])) (by omega)).to ?_
    congr 1; omega
  exact loop 0 (Nat.zero_le _) 1 (by omega)
 ·rw [if_neg hk]
  have hkk : (v.kind == 4) = false := by simpa using hk
  have l1 : Ev (fun n => z35 n 0 1 false v) 1 := by rw [zdc, Ev.yz1 (by rfl), Ev.zz1]
  rw [zdd, hkk, yz0.kz2, Ev.pif]
  split <;> exact l1
end Go.Proofs.YtfhpamcehnfhoaaGreatDoor


namespace Go.Proofs.YtfhpamcehnfhoaaGreatDoor
open Go Go.Ab
set_option linter.unusedVariables false
set_option linter.unusedSimpArgs false
def r0 : zz2 := ⟨0, 0⟩
def v0 : yz0 := ⟨0, ⟨0, 0⟩, false, [], []⟩
def zj0 (c : UInt8) : Bool := decide (32 ≤ c.toNat) && decide (c.toNat ≤ 126)
def nul (v : zz2) : Bool := v.num == 0 && v.den == 0
mutual
def z8m : yz0 → Bool
 | ⟨k, q, t, s, l⟩ =>
   if k = 1 then rok q && (!t && (s.isEmpty && l.isEmpty))
   else if k = 2 then nul q && (s.isEmpty && l.isEmpty)
   else if k = 3 then nul q && (!t && (l.isEmpty && (decide (s.length ≤ 60) && s.all zj0)))
   else if k = 4 then nul q && (!t && (s.isEmpty && zhe l))
   else false
def zhe : List yz0 → Bool
 | [] => true
 | x :: l => z8m x && zhe l
end
theorem z7m (v : yz0) : z8m v =
  if v.kind = 1 then rok v.num && (!v.truth && (v.str.isEmpty && v.list.isEmpty))
  else if v.kind = 2 then nul v.num && (v.str.isEmpty && v.list.isEmpty)
  else if v.kind = 3 then nul v.num && (!v.truth && (v.list.isEmpty && (decide (v.str.length ≤ 60) && v.str.all zj0)))
  else if v.kind = 4 then nul v.num && (!v.truth && (v.str.isEmpty && zhe v.list))
  else false := by cases v; rw [z8m]
theorem yld (l : List yz0) : zhe l = l.all z8m := by
 induction l with
 | nil => rfl
 | cons x l ih => simp [zhe, ih]
def z1s (v : yz0) : Int := if 100 < zb4 v ∨ 6 < zeg v then 4 else if z8m v then 0 else 8
theorem yv9 {v : yz0} (h : v.wf) : wfR v.num := by
 rw [yz0.z9d] at h
 have := h.2.1
 rw [zz2.z9d] at this
 simpa [wfR, I64, IntKind.min, IntKind.max, IntKind.signed, IntKind.bits] using this
theorem yuc {v : yz0} (h : v.wf) : ∀ x ∈ v.list, x.wf := by
 rw [yz0.z9d] at h; exact h.2.2.2.2
theorem zij {v : yz0} : Ev (fun n => z0z n v) (nul v.num && (!v.truth && (v.str.isEmpty && v.list.isEmpty))) := by
 rw [zob]
 obtain ⟨k, ⟨p, q⟩, t, s, l⟩ := v
 simp only [Ev.pif, Ev.zz1, nul, Bool.and_true]
 cases p == 0 <;> cases q == 0 <;> cases t <;> cases s <;> cases l <;> simp <;> omega
theorem ym3 : ∀ v : yz0, v.wf → v.size ≤ 8388608 → Ev (fun n => z6w n v) (z8m v) := zx5 fun v ih hw hs => by
 have hsl := zas v
 have hlen := ziq v.list
 rw [zv7, z7m]
 by_cases h1 : v.kind = 1
 ·rw [if_pos h1, Ev.kz1 (by simpa using h1), Ev.zz0 (zf8 (yv9 hw).1)]
  cases hr : rok v.num
  ·rw [Ev.kz1 (by rfl), Ev.zz1]; rfl
  ·rw [Ev.yz1 (by rfl)]
   exact zij
 rw [if_neg h1, Ev.yz1 (by simpa using h1)]
 by_cases h2 : v.kind = 2
 ·rw [if_pos h2, Ev.kz1 (by simpa using h2)]
  exact zij
 rw [if_neg h2, Ev.yz1 (by simpa using h2)]
 by_cases h3 : v.kind = 3
 ·rw [if_pos h3, Ev.kz1 (by simpa using h3)]
  by_cases hl : v.str.length ≤ 60
  ·rw [Ev.yz1 (by simp; omega), yz0.kz2]
   have loop : ∀ w : yz0, ∀ k, k ≤ v.str.length → Ev (fun n => z3d n (k : Int) v w) ((v.str.drop k).all zj0 && (nul w.num && (!w.truth && (w.str.isEmpty && w.list.isEmpty)))) := fun w =>
    down (by
     rw [zh5, Ev.yz1 (by simp), yz0.kz2]
     simpa using zij) fun k hk ihk => by
     have bad : Ev (fun n => z3e n (k : Int) true v w) false := by rw [zhz, Ev.kz1 (by rfl), Ev.zz1]
     rw [← List.getElem_cons_drop (h := hk), List.all_cons]
     rw [zh5, Ev.kz1 (by simpa using hk), Ev.yz2 (yzb hk), yz0.kz2, yz0.kz2]
     by_cases c1 : v.str[k].toNat < 32
     ·rw [Ev.kz1 (by simp; omega)]
      refine bad.to ?_
      have : zj0 v.str[k] = false := by simp [zj0]; omega
      rw [this]; rfl
     ·rw [Ev.yz1 (by simp; omega), Ev.yz2 (yzb hk)]
      by_cases c2 : v.str[k].toNat > 126
      ·rw [show decide ((v.str[k].toNat : Int) > 126) = true by simp; omega]
       refine bad.to ?_
       have : zj0 v.str[k] = false := by simp [zj0]; omega
       rw [this]; rfl
      ·rw [show decide ((v.str[k].toNat : Int) > 126) = false by simp; omega, zhz, Ev.yz1 (by rfl), wrk (by omega), yz0.kz2, yz0.kz2]
       have : zj0 v.str[k] = true := by simp [zj0]; omega
       rw [this, Bool.true_and]
       exact ihk
   refine (loop ⟨v.kind, v.num, v.truth, [], v.list⟩ 0 (Nat.zero_le _)).to ?_
   simp only [List.drop_zero, hl, decide_true, Bool.true_and, List.isEmpty_nil]
   cases nul v.num <;> cases v.truth <;> cases v.list.isEmpty <;> cases v.str.all zj0 <;> rfl
  ·rw [Ev.kz1 (by simp; omega), Ev.zz1]
   simp [hl]
 rw [if_neg h3, Ev.yz1 (by simpa using h3)]
 by_cases h4 : v.kind = 4
 ·rw [if_pos h4, Ev.kz1 (by simpa using h4)]
  have loop : ∀ w : yz0, ∀ k, k ≤ v.list.length → Ev (fun n => z3o n (k : Int) v.list (v.list.length : Int) w) (zhe (v.list.drop k) && (nul w.num && (!w.truth && (w.str.isEmpty && w.list.isEmpty)))) := fun w =>
   down (by
    rw [zhx, Ev.yz1 (by simp), yz0.kz2]
    simpa [zhe] using zij) fun k hk ihk => by
    have hx := List.getElem_mem hk
    have hsx := zn1 hx
    rw [← List.getElem_cons_drop (h := hk), zhe]
    rw [zhx, Ev.kz1 (by simpa using hk), Ev.yz2 (yzb hk), yz0.kz2, Ev.zz0 (ih _ hx (yuc hw _ hx) (by omega))]
    cases hf : z8m v.list[k]
    ·rw [Ev.kz1 (by rfl), Ev.zz1]; rfl
    ·rw [Ev.yz1 (by rfl), wrk (by omega), yz0.kz2, Bool.true_and]
     exact ihk
  refine (loop ⟨v.kind, v.num, v.truth, v.str, []⟩ 0 (Nat.zero_le _)).to ?_
  simp only [List.drop_zero, List.isEmpty_nil, Bool.and_true]
  cases nul v.num <;> cases v.truth <;> cases v.str.isEmpty <;> cases zhe v.list <;> rfl
 ·rw [if_neg h4, Ev.yz1 (by simpa using h4), Ev.zz1]
theorem zd4 {v : yz0} (hw : v.wf) (hs : v.size ≤ 8388608) : Ev (fun n => z4j n v) (z1s v) := by
 have l0 : ∀ b, Ev (fun n => z2g n b v) (if b then 4 else if z8m v then 0 else 8) := fun b => by
  rw [zmy]
  cases b
  ·rw [Ev.yz1 (by rfl), yz0.kz2, Ev.zz0 (ym3 v hw hs)]
   cases z8m v
   ·rw [Ev.kz1 (by rfl), Ev.zz1]; rfl
   ·rw [Ev.yz1 (by rfl), Ev.zz1]; rfl
  ·rw [Ev.kz1 (by rfl), Ev.zz1]; rfl
 rw [zsj, yz0.kz2, Ev.zz0 (y9x v hs)]
 unfold z1s
 simp only [Ev.pif]
 by_cases h1 : 100 < zb4 v
 ·rw [if_pos (by simp; omega), if_pos (.inl h1)]; exact l0 true
 ·rw [if_neg (by simp; omega)]
  by_cases h2 : 6 < zeg v
  ·rw [if_pos (.inr h2), show decide ((zeg v : Int) > 6) = true by simp; omega]; exact l0 true
  ·rw [if_neg (by omega), show decide ((zeg v : Int) > 6) = false by simp; omega]; exact l0 false
theorem ymt : ∀ v : yz0, v.size ≤ 8388608 → Ev (fun n => z6u n v) (z8m v) := zx5 fun v ih hs => by
 have hsl := zas v
 have hlen := ziq v.list
 rw [zvh, z7m]
 have hnul : ((v.num.num == 0) && ((v.num.den == 0) && true)) = nul v.num := by simp [nul]
 have hstr : ((v.str.length : Int) == 0) = v.str.isEmpty := by cases v.str <;> simp; omega
 have hlst : ((v.list.length : Int) == 0) = v.list.isEmpty := by cases v.list <;> simp; omega
 have hgt : decide ((v.list.length : Int) > 0) = !v.list.isEmpty := by cases v.list <;> simp
 have hgs : decide ((v.str.length : Int) > 0) = !v.str.isEmpty := by cases v.str <;> simp
 simp only [hnul, hstr, hlst, hgt, hgs]
 by_cases h1 : v.kind = 1
 ·rw [if_pos h1, Ev.kz1 (by simpa using h1), Ev.zz0 zml]
  cases hr : rok v.num <;> cases ht : v.truth <;> cases hss : v.str.isEmpty <;> simp [Ev.pif, Ev.zz1]
 rw [if_neg h1, Ev.yz1 (by simpa using h1)]
 by_cases h2 : v.kind = 2
 ·rw [if_pos h2, Ev.kz1 (by simpa using h2)]
  cases hr : nul v.num <;> cases hss : v.str.isEmpty <;> simp [Ev.pif, Ev.zz1]
 rw [if_neg h2, Ev.yz1 (by simpa using h2)]
 by_cases h3 : v.kind = 3
 ·rw [if_pos h3, Ev.kz1 (by simpa using h3)]
  have bad : Ev (fun n => z0d n true v) false := by rw [zhn, Ev.kz1 (by rfl), Ev.zz1]
  have loop : ∀ k, k ≤ v.str.length → Ev (fun n => z3i n (k : Int) v) ((v.str.drop k).all zj0) :=
   down (by
    rw [zgy, Ev.yz1 (by simp), Ev.zz1]
    simp) fun k hk ihk => by
    have bad : Ev (fun n => z3m n (k : Int) true v) false := by rw [zha, Ev.kz1 (by rfl), Ev.zz1]
    rw [← List.getElem_cons_drop (h := hk), List.all_cons]
    rw [zgy, Ev.kz1 (by simpa using hk), Ev.yz2 (yzb hk), yz0.kz2]
    by_cases c1 : v.str[k].toNat < 32
    ·rw [Ev.kz1 (by simp; omega)]
     refine bad.to ?_
     have : zj0 v.str[k] = false := by simp [zj0]; omega
     rw [this]; rfl
    ·rw [Ev.yz1 (by simp; omega), Ev.yz2 (yzb hk)]
     by_cases c2 : v.str[k].toNat > 126
     ·rw [show decide ((v.str[k].toNat : Int) > 126) = true by simp; omega]
      refine bad.to ?_
      have : zj0 v.str[k] = false := by simp [zj0]; omega
      rw [this]; rfl
     ·rw [show decide ((v.str[k].toNat : Int) > 126) = false by simp; omega, zha, Ev.yz1 (by rfl), wrk (by omega), yz0.kz2]
      have : zj0 v.str[k] = true := by simp [zj0]; omega
      rw [this, Bool.true_and]
      exact ihk
  have good : Ev (fun n => z0d n false v) (v.str.all zj0) := by
   rw [zhn, Ev.yz1 (by rfl), yz0.kz2]; simpa using loop 0 (Nat.zero_le _)
  rw [yz0.kz2]
  cases hr : nul v.num
  ·rw [Ev.kz1 (by rfl)]; exact bad
  rw [Ev.yz1 (by rfl)]
  cases ht : v.truth
  ·rw [Ev.yz1 (by rfl)]
   cases hl : v.list.isEmpty
   ·rw [Ev.kz1 (by rfl)]; exact bad
   ·rw [Ev.yz1 (by rfl)]
    by_cases h60 : v.str.length ≤ 60
    ·rw [show decide ((v.str.length : Int) > 60) = false by simp; omega]
     simpa [h60] using good
    ·rw [show decide ((v.str.length : Int) > 60) = true by simp; omega]
     simpa [h60] using bad
  ·rw [Ev.kz1 (by rfl)]; exact bad
 rw [if_neg h3, Ev.yz1 (by simpa using h3)]
 by_cases h4 : v.kind = 4
 ·rw [if_pos h4, Ev.kz1 (by simpa using h4)]
  have bad : Ev (fun n => z11 n true v) false := by rw [zid, Ev.kz1 (by rfl), Ev.zz1]
  have loop : ∀ k, k ≤ v.list.length → Ev (fun n => z34 n (k : Int) v) (zhe (v.list.drop k)) :=
   down (by
    rw [zhl, Ev.yz1 (by simp), Ev.zz1]
    simp [zhe]) fun k hk ihk => by
    have hx := List.getElem_mem hk
    have hsx := zn1 hx
    rw [← List.getElem_cons_drop (h := hk), zhe]
    rw [zhl, Ev.kz1 (by simpa using hk), Ev.yz2 (yzb hk), yz0.kz2, Ev.zz0 (ih _ hx (by omega))]
    cases hf : z8m v.list[k]
    ·rw [Ev.kz1 (by rfl), Ev.zz1]; rfl
    ·rw [Ev.yz1 (by rfl), wrk (by omega), yz0.kz2, Bool.true_and]
     exact ihk
  have good : Ev (fun n => z11 n false v) (zhe v.list) := by
   rw [zid, Ev.yz1 (by rfl), yz0.kz2]; simpa using loop 0 (Nat.zero_le _)
  rw [yz0.kz2]
  cases hr : nul v.num
  ·rw [Ev.kz1 (by rfl)]; exact bad
  rw [Ev.yz1 (by rfl)]
  cases ht : v.truth
  ·rw [Ev.yz1 (by rfl)]
   cases hl : v.str.isEmpty
   ·exact bad
   ·simpa using good
  ·rw [Ev.kz1 (by rfl)]; exact bad
 ·rw [if_neg h4, Ev.yz1 (by simpa using h4), Ev.zz1]
theorem yhi {v : yz0} (hs : v.size ≤ 8388608) : Ev (fun n => z7b n v) (z1s v) := by
 have l0 : ∀ b, Ev (fun n => z2h n b v) (if b then 4 else if z8m v then 0 else 8) := fun b => by
  rw [zn3]
  cases b
  ·rw [Ev.yz1 (by rfl), yz0.kz2, Ev.zz0 (ymt v hs)]
   cases z8m v
   ·rw [Ev.kz1 (by rfl), Ev.zz1]; rfl
   ·rw [Ev.yz1 (by rfl), Ev.zz1]; rfl
  ·rw [Ev.kz1 (by rfl), Ev.zz1]; rfl
 rw [zrw, yz0.kz2, Ev.zz0 (y2d v hs)]
 unfold z1s
 by_cases h1 : 100 < zb4 v
 ·rw [Ev.kz1 (by simp; omega), if_pos (.inl h1)]; exact l0 true
 ·rw [Ev.yz1 (by simp; omega), Ev.zz0 (yla v hs)]
  by_cases h2 : 6 < zeg v
  ·rw [if_pos (.inr h2), show decide ((zeg v : Int) > 6) = true by simp; omega]; exact l0 true
  ·rw [if_neg (by omega), show decide ((zeg v : Int) > 6) = false by simp; omega]; exact l0 false
end Go.Proofs.YtfhpamcehnfhoaaGreatDoor


namespace Go.Proofs.YtfhpamcehnfhoaaGreatDoor
open Go Go.Ab
set_option linter.unusedVariables false
set_option linter.unusedSimpArgs false
theorem vext {a b : yz0} (h1 : a.kind = b.kind) (h2 : a.num.num = b.num.num) (h3 : a.num.den = b.num.den) (h4 : a.truth = b.truth) (h5 : a.str = b.str) (h6 : a.list = b.list) : a = b := by
 obtain ⟨k, ⟨p, q⟩, t, s, l⟩ := a
 obtain ⟨k', ⟨p', q'⟩, t', s', l'⟩ := b
 simp_all
theorem yhj {α : Type} {x y : α} {l m : List α} : eqB (x :: l) (y :: m) = (eqB x y && eqB l m) := by
 cases h : (eqB x y && eqB l m)
 ·rw [zda]; intro hh; injection hh with h1 h2
  rw [Bool.and_eq_false_iff, zda, zda] at h
  exact h.elim (fun h => h h1) (fun h => h h2)
 ·rw [zbj]
  rw [Bool.and_eq_true, zbj, zbj] at h
  rw [h.1, h.2]
theorem y5z : ∀ a b : yz0, a.size ≤ 8388608 → Ev (fun n => z1v n a b) (eqB a b) := zx5 (P := fun a => ∀ b : yz0, a.size ≤ 8388608 → Ev (fun n => z1v n a b) (eqB a b)) fun a ih b hs => by
 have hsl := zas a
 have hlen := ziq a.list
 have bad : a ≠ b → Ev (fun n => z0c n true b a) (eqB a b) := fun h => by rw [zhr, Ev.kz1 (by rfl), Ev.zz1, zda.2 h]
 rw [zvk, yz0.kz2, yz0.kz2]
 by_cases h1 : a.kind = b.kind
 case neg => rw [Ev.kz1 (by simpa using h1)]; exact bad fun h => h1 (by rw [h])
 rw [Ev.yz1 (by simpa using h1)]
 by_cases h2 : a.num.num = b.num.num ∧ a.num.den = b.num.den
 case neg => rw [Ev.kz1 (by simp; omega)]; exact bad fun h => h2 (by rw [h]; exact ⟨rfl, rfl⟩)
 rw [Ev.yz1 (by simp [h2])]
 by_cases h3 : a.truth = b.truth
 case neg => rw [Ev.kz1 (by simpa using h3)]; exact bad fun h => h3 (by rw [h])
 rw [Ev.yz1 (by simp [h3])]
 by_cases h4 : a.str = b.str
 case neg => rw [Ev.kz1 (by simpa using h4)]; exact bad fun h => h4 (by rw [h])
 rw [Ev.yz1 (by simp [h4])]
 by_cases h5 : a.list.length = b.list.length
 case neg => rw [show ((a.list.length : Int) != (b.list.length : Int)) = true by simp; omega]; exact bad fun h => h5 (by rw [h])
 rw [show ((a.list.length : Int) != (b.list.length : Int)) = false by simp; omega, zhr, Ev.yz1 (by rfl), yz0.kz2, yz0.kz2]
 have loop : ∀ k, k ≤ a.list.length → Ev (fun n => z36 n (k : Int) (a.list.length : Int) b a) (eqB (a.list.drop k) (b.list.drop k)) :=
  down (by
   rw [zhm, Ev.yz1 (by simp), Ev.zz1, List.drop_length, h5, List.drop_length, ynp]) fun k hk ihk => by
   have hk2 : k < b.list.length := by omega
   have hx := List.getElem_mem hk
   have hsx := zn1 hx
   rw [← List.getElem_cons_drop (h := hk), ← List.getElem_cons_drop (h := hk2), yhj]
   rw [zhm, Ev.kz1 (by simpa using hk), Ev.yz2 (yzb hk), Ev.yz2 (yzb hk2), yz0.kz2, yz0.kz2, Ev.zz0 (ih _ hx _ (by omega))]
   cases hf : eqB a.list[k] b.list[k]
   ·rw [Ev.kz1 (by rfl), Ev.zz1]; rfl
   ·rw [Ev.yz1 (by rfl), wrk (by omega), yz0.kz2, yz0.kz2, Bool.true_and]
    exact ihk
 refine (loop 0 (Nat.zero_le _)).to ?_
 rw [List.drop_zero, List.drop_zero]
 by_cases h6 : a.list = b.list
 ·rw [zbj.2 h6, zbj.2 (vext h1 h2.1 h2.2 h3 h4 h6)]
 ·rw [zda.2 h6, zda.2 fun h => h6 (by rw [h])]
theorem y6p : ∀ a b : yz0, a.size ≤ 8388608 → Ev (fun n => z1c n a b) (eqB a b) := zx5 (P := fun a => ∀ b : yz0, a.size ≤ 8388608 → Ev (fun n => z1c n a b) (eqB a b)) fun a ih b hs => by
 have hsl := zas a
 have hlen := ziq a.list
 have bad : a ≠ b → Ev (fun n => z0g n true b a) (eqB a b) := fun h => by rw [zho, Ev.kz1 (by rfl), Ev.zz1, zda.2 h]
 rw [zvi, yz0.kz2, yz0.kz2]
 by_cases h1 : a.kind = b.kind
 case neg => rw [Ev.kz1 (by simpa using h1)]; exact bad fun h => h1 (by rw [h])
 rw [Ev.yz1 (by simpa using h1)]
 by_cases h2 : a.num.num = b.num.num ∧ a.num.den = b.num.den
 case neg => rw [Ev.kz1 (by simp; omega)]; exact bad fun h => h2 (by rw [h]; exact ⟨rfl, rfl⟩)
 rw [Ev.yz1 (by simp [h2])]
 by_cases h3 : a.truth = b.truth
 case neg => rw [Ev.kz1 (by simpa using h3)]; exact bad fun h => h3 (by rw [h])
 rw [Ev.yz1 (by simp [h3])]
 by_cases h4 : a.str = b.str
 case neg => rw [Ev.kz1 (by simpa using h4)]; exact bad fun h => h4 (by rw [h])
 rw [Ev.yz1 (by simp [h4])]
 by_cases h5 : a.list.length = b.list.length
 case neg => rw [show ((a.list.length : Int) != (b.list.length : Int)) = true by simp; omega]; exact bad fun h => h5 (by rw [h])
 rw [show ((a.list.length : Int) != (b.list.length : Int)) = false by simp; omega, zho, Ev.yz1 (by rfl), yz0.kz2, yz0.kz2]
 have loop : ∀ k, k ≤ a.list.length → Ev (fun n => z38 n (k : Int) b a) (eqB (a.list.drop k) (b.list.drop k)) :=
  down (by
   rw [zi3, Ev.yz1 (by simp), Ev.zz1, List.drop_length, h5, List.drop_length, ynp]) fun k hk ihk => by
   have hk2 : k < b.list.length := by omega
   have hx := List.getElem_mem hk
   have hsx := zn1 hx
   rw [← List.getElem_cons_drop (h := hk), ← List.getElem_cons_drop (h := hk2), yhj]
   rw [zi3, Ev.kz1 (by simpa using hk), Ev.yz2 (yzb hk), Ev.yz2 (yzb hk2), yz0.kz2, yz0.kz2, Ev.zz0 (ih _ hx _ (by omega))]
   cases hf : eqB a.list[k] b.list[k]
   ·rw [Ev.kz1 (by rfl), Ev.zz1]; rfl
   ·rw [Ev.yz1 (by rfl), wrk (by omega), yz0.kz2, yz0.kz2, Bool.true_and]
    exact ihk
 refine (loop 0 (Nat.zero_le _)).to ?_
 rw [List.drop_zero, List.drop_zero]
 by_cases h6 : a.list = b.list
 ·rw [zbj.2 h6, zbj.2 (vext h1 h2.1 h2.2 h3 h4 h6)]
 ·rw [zda.2 h6, zda.2 fun h => h6 (by rw [h])]
theorem ykf : ∀ v : yz0, v.size ≤ 8388608 → ∀ d : Int, ∃ b, Ev (fun n => z5k n v d) b := zx5 fun v ih hs d => by
 have hsl := zas v
 have hlen := ziq v.list
 have loop : ∀ k, k ≤ v.list.length → ∀ d : Int, ∃ b, Ev (fun n => z2m n (k : Int) d v) b :=
  down (fun d => ⟨false, by rw [zgu, Ev.yz1 (by simp), Ev.zz1]⟩) fun k hk ihk d => by
   have hx := List.getElem_mem hk
   have hsx := zn1 hx
   obtain ⟨b, hb⟩ := ih _ hx (by omega) (IntKind.i64.wrap (d - 1))
   obtain ⟨c, hc⟩ := ihk d
   refine ⟨if b then true else c, ?_⟩
   rw [zgu, Ev.kz1 (by simpa using hk), Ev.yz2 (yzb hk), yz0.kz2, Ev.zz0 hb, yz0.kz2, wrk (by omega)]
   cases b
   ·rw [Ev.yz1 (by rfl)]; exact hc
   ·rw [Ev.kz1 (by rfl), Ev.zz1]; rfl
 have l0 : ∀ d b, ∃ c, Ev (fun n => z1d n d b v) c := fun d b => by
  cases b
  ·obtain ⟨c, hc⟩ := loop 0 (Nat.zero_le _) d
   exact ⟨c, by rw [zg0, Ev.yz1 (by rfl), yz0.kz2]; exact hc⟩
  ·exact ⟨true, by rw [zg0, Ev.kz1 (by rfl), Ev.zz1]⟩
 simp only [zst, yz0.kz2, Ev.pif]
 split
 ·exact l0 _ _
 split
 ·exact l0 _ _
 ·exact l0 _ _
theorem yjt {v : yz0} (hs : v.size ≤ 8388608) : ∃ b, Ev (fun n => z7f n v) b := by
 obtain ⟨b, hb⟩ := ykf v hs 10
 cases b
 ·exact ⟨_, by rw [zlu, yz0.kz2, Ev.zz0 hb, Ev.yz1 (by rfl), Ev.zz0 (y2d v hs)]; exact Ev.zz1.2 rfl⟩
 ·exact ⟨true, by rw [zlu, yz0.kz2, Ev.zz0 hb, Ev.kz1 (by rfl), Ev.zz1]⟩
end Go.Proofs.YtfhpamcehnfhoaaGreatDoor


namespace Go.Proofs.YtfhpamcehnfhoaaGreatDoor
open Go Go.Ab
set_option linter.unusedVariables false
set_option linter.unusedSimpArgs false
theorem zh4 {v : yz0} (h : z8m v = true) (hk : v.kind = 1) : rok v.num = true := by
 rw [z7m, if_pos hk] at h; simp only [Bool.and_eq_true] at h; exact h.1
theorem zpj {v : yz0} (h : z8m v = true) : ∀ x ∈ v.list, z8m x = true := by
 rw [z7m] at h
 split at h
 ·simp only [Bool.and_eq_true, List.isEmpty_iff] at h; rw [h.2.2.2]; intro x hx; cases hx
 split at h
 ·simp only [Bool.and_eq_true, List.isEmpty_iff] at h; rw [h.2.2]; intro x hx; cases hx
 split at h
 ·simp only [Bool.and_eq_true, List.isEmpty_iff] at h; rw [h.2.2.1]; intro x hx; cases hx
 split at h
 ·simp only [Bool.and_eq_true, yld, List.all_eq_true] at h; exact h.2.2.2
 ·cases h
theorem z9l {v : yz0} (h : z1s v = 0) : z8m v = true ∧ zb4 v ≤ 100 ∧ zeg v ≤ 6 := by
 unfold z1s at h
 split at h
 ·cases h
 ·split at h
  ·exact ⟨‹_›, by omega, by omega⟩
  ·cases h
theorem zcp {v : yz0} (h : z8m v = true) : v.kind = 1 ∨ v.kind = 2 ∨ v.kind = 3 ∨ v.kind = 4 := by
 rw [z7m] at h
 by_cases h1 : v.kind = 1; · exact .inl h1
 by_cases h2 : v.kind = 2; · exact .inr (.inl h2)
 by_cases h3 : v.kind = 3; · exact .inr (.inr (.inl h3))
 by_cases h4 : v.kind = 4; · exact .inr (.inr (.inr h4))
 rw [if_neg h1, if_neg h2, if_neg h3, if_neg h4] at h; cases h
theorem yqj {v : yz0} (h : z8m v = true) (hk : v.kind = 4) : v.num.num = 0 ∧ v.num.den = 0 ∧ v.truth = false ∧ v.str = [] := by
 rw [z7m, if_neg (by omega), if_neg (by omega), if_neg (by omega), if_pos hk] at h
 simp only [Bool.and_eq_true, nul, beq_iff_eq, Bool.not_eq_true', List.isEmpty_iff] at h
 exact ⟨h.1.1, h.1.2, h.2.1, h.2.2.1⟩
end Go.Proofs.YtfhpamcehnfhoaaGreatDoor


namespace Go.Proofs.YtfhpamcehnfhoaaGreatDoor
open Go Go.Ab
set_option linter.unusedVariables false
set_option linter.unusedSimpArgs false
theorem yn9 {s : List UInt8} (hs : s.length ≤ 8388608) : Ev (fun n => z8k n s) (z9y s) := by
 have l3t : ∀ q, Ev (fun n => z03 n true s q) false := fun q => by rw [zhf, Ev.kz1 (by rfl), Ev.zz1]
 have step : ∀ k (hk : k < s.length) (r : Bool), ((if k = 0 then isLet s[k] else z1k s[k]) = false → r = false) → ((if k = 0 then isLet s[k] else z1k s[k]) = true → Ev (fun n => z0f n s (k + 1)) r) → Ev (fun n => z0f n s k) r := fun k hk r hf ht => by
  have l3 : ∀ b, (if k = 0 then isLet s[k] else z1k s[k]) = !b → (b = false → (zav s k).2 = 1) → Ev (fun n => z03 n b s (k + (zav s k).2)) r := fun b hb h1 => by
   cases b
   ·rw [zhf, Ev.yz1 (by rfl), h1 rfl]; exact ht hb
   ·exact (l3t _).to (hf hb).symm
  rw [zhj, Ev.kz1 (by simpa using hk)]
  by_cases hlow : s[k].toNat < 128
  ·have hd := zyg hk hlow
   rw [hd] at l3
   rw [hd]
   have l2 : ∀ b, b = isLet s[k] → Ev (fun n => z3f n (s[k].toNat : Int) (k : Int) b s (k + 1)) r := fun b hb => by
    subst hb
    rw [zhw]
    cases hl : isLet s[k]
    ·rw [Ev.kz1 (by rfl)]
     by_cases h0 : k = 0
     ·rw [Ev.kz1 (by simpa using h0)]
      exact l3 true (by rw [if_pos h0, hl]; rfl) (by simp)
     ·rw [Ev.yz1 (by simpa using h0)]
      by_cases h45 : s[k].toNat = 45
      ·have : s[k] = 45 := UInt8.toNat_inj.1 (by simpa using h45)
       rw [Ev.yz1 (by simp; omega)]
       exact l3 false (by rw [if_neg h0, z1k, this]; rfl) (fun _ => rfl)
      ·have hne : (s[k] == 45) = false := by
        simp only [beq_eq_false_iff_ne]; intro h; rw [h] at h45; exact h45 rfl
       rw [Ev.kz1 (by simp; omega)]
       by_cases c1 : s[k].toNat < 48
       ·rw [Ev.kz1 (by simp; omega)]
        refine l3 true ?_ (by simp)
        rw [if_neg h0, z1k, hl, hne, z7t]; simp; omega
       ·rw [Ev.yz1 (by simp; omega)]
        refine l3 _ ?_ (fun _ => rfl)
        rw [if_neg h0, z1k, hl, hne, z7t]
        have e1 : decide (48 ≤ s[k].toNat) = true := by rw [decide_eq_true_eq]; omega
        have e3 : decide ((s[k].toNat : Int) > 57) = !decide (s[k].toNat ≤ 57) := by
         by_cases c2 : s[k].toNat ≤ 57
         ·rw [show decide (s[k].toNat ≤ 57) = true by rw [decide_eq_true_eq]; exact c2]
          simp only [Bool.not_true, decide_eq_false_iff_not]; omega
         ·rw [show decide (s[k].toNat ≤ 57) = false by rw [decide_eq_false_iff_not]; exact c2]
          simp only [Bool.not_false, decide_eq_true_eq]; omega
        rw [e1, e3]; simp
    ·rw [Ev.yz1 (by rfl)]
     refine l3 false ?_ (fun _ => rfl)
     split
     ·exact hl
     ·rw [z1k, hl]; rfl
   simp only
   by_cases c1 : 97 ≤ s[k].toNat
   ·rw [Ev.kz1 (by simp; omega)]
    exact l2 _ (by simp [isLet, c1]; omega)
   ·rw [Ev.yz1 (by simp; omega)]
    exact l2 _ (by simp [isLet]; omega)
  ·obtain ⟨h1, h2⟩ := yc0 hk (by omega)
   have nl : isLet s[k] = false := by simp [isLet]; omega
   have nm : z1k s[k] = false := by
    rw [z1k, nl, z7t]
    have : (s[k] == 45) = false := by simp only [beq_eq_false_iff_ne]; intro h; rw [h] at hlow; exact hlow (by decide)
    rw [this]; simp; omega
   have bad : (if k = 0 then isLet s[k] else z1k s[k]) = false := by split <;> assumption
   rw [Ev.kz1 (by simp; omega), show decide (((zav s k).1 : Int) ≤ 122) = false by simp; omega, zhw, Ev.kz1 (by rfl)]
   by_cases h0 : k = 0
   ·rw [Ev.kz1 (by simpa using h0)]; exact (l3t _).to (hf bad).symm
   ·rw [Ev.yz1 (by simpa using h0), Ev.kz1 (by simp; omega), Ev.yz1 (by simp; omega), show decide (((zav s k).1 : Int) > 57) = true by simp; omega]
    exact (l3t _).to (hf bad).symm
 have rest : ∀ k, k ≤ s.length → 1 ≤ k → Ev (fun n => z0f n s k) ((s.drop k).all z1k) :=
  down (Q := fun k => 1 ≤ k → Ev (fun n => z0f n s k) ((s.drop k).all z1k)) (fun _ => by
   rw [zhj, Ev.yz1 (by simp), Ev.zz1]; simp) fun k hk ih h1 => by
   rw [← List.getElem_cons_drop (h := hk), List.all_cons]
   refine step k hk _ (fun h => ?_) fun h => ?_
   ·rw [if_neg (by omega)] at h; rw [h]; rfl
   ·rw [if_neg (by omega)] at h; rw [h]; exact ih (by omega)
 rw [zv9]
 cases s with
 | nil => rw [Ev.kz1 (by rfl), zi8, Ev.kz1 (by rfl), Ev.zz1]; rfl
 | cons c t =>
   rw [Ev.yz1 (by simp; omega), zi8]
   by_cases h40 : (c :: t).length ≤ 40
   · rw [Ev.yz1 (by simp at h40 ⊢; omega)]
     refine step 0 (by simp) _ (fun h => ?_) fun h => ?_
     · rw [if_pos rfl] at h; simp only [List.getElem_cons_zero] at h; simp [z9y, h]
     · rw [if_pos rfl] at h; simp only [List.getElem_cons_zero] at h
       refine (rest 1 (by simp) (Nat.le_refl _)).to ?_
       simp [z9y, h]; intro _; simpa using h40
   · rw [Ev.kz1 (by simp at h40 ⊢; omega), Ev.zz1]
     simp [z9y]; intro _ _; simpa using h40
theorem yh0 {c : UInt8} : Ev (fun n => z64 n (c.toNat : Int)) (isLet c) := by
 rw [zqr]
 simp only [Ev.pif, Ev.zz1, isLet, decide_eq_true_eq]
 split
 ·have : 97 ≤ c.toNat := by omega
  simp [this]; omega
 ·have : ¬ 97 ≤ c.toNat := by omega
  simp [this]
theorem yh9 {c : UInt8} : Ev (fun n => z7k n (c.toNat : Int)) (z7t c) := by
 rw [zs7]
 simp only [Ev.pif, Ev.zz1, z7t, decide_eq_true_eq]
 split
 ·have : 48 ≤ c.toNat := by omega
  simp [this]; omega
 ·have : ¬ 48 ≤ c.toNat := by omega
  simp [this]
theorem yv0 {c : UInt8} : (((c.toNat : Nat) : Int) != 45) = !(c == 45) := by
 cases h : c == 45 with
 | true => have : c = 45 := by simpa using h
           subst this; rfl
 | false =>
   have : c.toNat ≠ 45 := fun hh => by
     have : c = 45 := UInt8.toNat_inj.1 (by simpa using hh)
     subst this; cases h
   simp; omega
theorem ym6 {s : List UInt8} (hs : s.length ≤ 8388608) : Ev (fun n => z8g n s) (z9y s) := by
 have bad : ∀ k : Int, Ev (fun n => z0b n s k true) false := fun k => by rw [zhq, Ev.kz1 (by rfl), Ev.zz1]
 have step : ∀ k (hk : k < s.length) (r : Bool), ((if k = 0 then isLet s[k] else z1k s[k]) = false → r = false) → ((if k = 0 then isLet s[k] else z1k s[k]) = true → Ev (fun n => z00 n ((k + 1 : Nat) : Int) s) r) → Ev (fun n => z00 n (k : Int) s) r := fun k hk r hf ht => by
  have l1 : ∀ b, (if k = 0 then isLet s[k] else z1k s[k]) = !b → Ev (fun n => z0b n s (k : Int) b) r := fun b hb => by
   cases b
   ·rw [zhq, Ev.yz1 (by rfl), wrk (by omega)]; exact ht hb
   ·exact (bad _).to (hf hb).symm
  rw [zhi, Ev.kz1 (by simpa using hk), Ev.yz2 (yzb hk), Ev.zz0 yh0]
  cases hl : isLet s[k]
  ·rw [Ev.kz1 (by rfl)]
   by_cases h0 : k = 0
   ·rw [Ev.kz1 (by simpa using h0)]; exact l1 true (by rw [if_pos h0, hl]; rfl)
   ·rw [Ev.yz1 (by simpa using h0), Ev.yz2 (yzb hk), yv0]
    cases h45 : s[k] == 45
    ·rw [Ev.kz1 (by rfl), Ev.yz2 (yzb hk), Ev.zz0 yh9]
     exact l1 _ (by rw [if_neg h0, z1k, hl, h45]; simp)
    ·rw [Ev.yz1 (by rfl)]; exact l1 false (by rw [if_neg h0, z1k, hl, h45]; rfl)
  ·rw [Ev.yz1 (by rfl)]
   exact l1 false (by split; exact hl; rw [z1k, hl]; rfl)
 have fin : ∀ r : Bool, r = (decide (1 ≤ s.length) && decide (s.length ≤ 40)) → Ev (fun n => z00 n (s.length : Int) s) r := fun r hr => by
  rw [zhi, Ev.yz1 (by simp), hr]
  by_cases h1 : 1 ≤ s.length
  ·rw [Ev.kz1 (by simp; omega), Ev.zz1]; simp [h1]; omega
  ·rw [Ev.yz1 (by simp; omega), Ev.zz1]; simp [h1]
 have rest : ∀ k, k ≤ s.length → 1 ≤ k → Ev (fun n => z00 n (k : Int) s) ((s.drop k).all z1k && decide (s.length ≤ 40)) :=
  down (Q := fun k => 1 ≤ k → Ev (fun n => z00 n (k : Int) s) ((s.drop k).all z1k && decide (s.length ≤ 40))) (fun h1 => by
   refine fin _ ?_; simp [h1]) fun k hk ih h1 => by
   rw [← List.getElem_cons_drop (h := hk), List.all_cons]
   refine step k hk _ (fun h => ?_) fun h => ?_
   ·rw [if_neg (by omega)] at h; rw [h]; rfl
   ·rw [if_neg (by omega)] at h; rw [h]; exact ih (by omega)
 rw [zvt]
 cases s with
 | nil => exact fin _ rfl
 | cons c t =>
   refine step 0 (by simp) _ (fun h => ?_) fun h => ?_
   · rw [if_pos rfl] at h; simp only [List.getElem_cons_zero] at h; simp [z9y, h]
   · rw [if_pos rfl] at h; simp only [List.getElem_cons_zero] at h
     refine (rest 1 (by simp) (Nat.le_refl _)).to ?_
     simp [z9y, h]
def zcv (s : List UInt8) : Bool := z9y s && (!(s == [116, 114, 117, 101]) && !(s == [102, 97, 108, 115, 101]))
theorem ylq {s : List UInt8} (hs : s.length ≤ 8388608) : Ev (fun n => z8i n s) (zcv s) := by
 rw [zvd, Ev.zz0 (yn9 hs)]
 unfold zcv
 cases z9y s <;> cases h : (s == [116, 114, 117, 101]) <;> simp [Ev.pif, Ev.zz1]
theorem yj2 {s : List UInt8} (hs : s.length ≤ 8388608) : Ev (fun n => z7i n s) (zcv s) := by
 rw [zsi, Ev.zz0 (ym6 hs)]
 unfold zcv
 cases z9y s <;> cases h : (s == [116, 114, 117, 101]) <;> simp [Ev.pif, Ev.zz1]
end Go.Proofs.YtfhpamcehnfhoaaGreatDoor


namespace Go.Proofs.YtfhpamcehnfhoaaGreatDoor
open Go Go.Ab
set_option linter.unusedVariables false
set_option linter.unusedSimpArgs false
theorem zsy {P : kz0 → Prop} (h : ∀ e : kz0, (∀ x, x ∈ e.args → P x) → P e) (e : kz0) : P e := h e fun x hx => zsy h x
termination_by e
decreasing_by exact kz0.zxu hx
mutual
def z4d : kz0 → Nat
 | ⟨_, _, _, l⟩ => 1 + kzp l
def kzp : List kz0 → Nat
 | [] => 0
 | x :: l => z4d x + kzp l
end
mutual
def zcr : kz0 → Nat
 | ⟨_, _, _, l⟩ => max 1 (zg9 l)
def zg9 : List kz0 → Nat
 | [] => 0
 | x :: l => max (1 + zcr x) (zg9 l)
end
theorem z9h (e : kz0) : z4d e = 1 + kzp e.args := by cases e; rw [z4d]
theorem zy3 (e : kz0) : zcr e = max 1 (zg9 e.args) := by cases e; rw [zcr]
theorem ype {l : List kz0} {x : kz0} (h : x ∈ l) : x.size ≤ (l.map kz0.size).sum := by
 induction l with
 | nil => cases h
 | cons y l ih =>
   rcases List.mem_cons.1 h with rfl | h
   · simp
   · have := ih h; simp; omega
theorem z5w (e : kz0) : (e.args.map kz0.size).sum + e.name.length + e.value.size + 4 ≤ e.size := by rw [kz0.size_eq]; omega
theorem zcs {e x : kz0} (h : x ∈ e.args) : x.size ≤ e.size := by have := ype h; have := z5w e; omega
theorem zak (l : List kz0) : l.length ≤ (l.map kz0.size).sum := by
 induction l with
 | nil => simp
 | cons x l ih => have := z5w x; simp; omega
theorem zu0 : ∀ e : kz0, z4d e ≤ e.size := zsy fun e ih => by
 have : ∀ l : List kz0, (∀ x, x ∈ l → x ∈ e.args) → kzp l ≤ (l.map kz0.size).sum := fun l => by
  induction l with
  | nil => intro _; simp [kzp]
  | cons x l ihl =>
    intro hl
    have := ih x (hl x List.mem_cons_self)
    have := ihl fun y hy => hl y (List.mem_cons_of_mem _ hy)
    simp [kzp]; omega
 have := this e.args fun _ h => h
 have := z5w e
 rw [z9h]; omega
theorem ykg : ∀ e : kz0, zcr e ≤ z4d e := zsy fun e ih => by
 have : ∀ l : List kz0, (∀ x, x ∈ l → x ∈ e.args) → zg9 l ≤ 1 + kzp l := fun l => by
  induction l with
  | nil => intro _; simp [kzp, zg9]
  | cons x l ihl =>
    intro hl
    have := ih x (hl x List.mem_cons_self)
    have := ihl fun y hy => hl y (List.mem_cons_of_mem _ hy)
    simp [kzp, zg9]; omega
 have := this e.args fun _ h => h
 rw [z9h, zy3]; omega
theorem y57 (l : List kz0) : kzp l ≤ (l.map kz0.size).sum := by
 induction l with
 | nil => simp [kzp]
 | cons x l ih => have := zu0 x; simp [kzp]; omega
theorem ydv : ∀ e : kz0, e.size ≤ 8388608 → Ev (fun n => z4v n e) ((z4d e : Int), (zcr e : Int)) := zsy fun e ih hs => by
 have hsl := z5w e
 have hlen := zak e.args
 have loop : ∀ k, k ≤ e.args.length → ∀ d p : Nat, p + kzp (e.args.drop k) ≤ 8388609 → d ≤ 8388609 → Ev (fun n => z1f n (k : Int) (d : Int) (p : Int) e.args (e.args.length : Int)) (((p + kzp (e.args.drop k) : Nat) : Int), ((max d (zg9 (e.args.drop k)) : Nat) : Int)) :=
  down (fun d p hp hd => by
   rw [zes, Ev.yz1 (by simp), Ev.zz1]
   simp [kzp, zg9]) fun k hk ihk d p hp hd => by
   have hx := List.getElem_mem hk
   have hsx := zcs hx
   rw [← List.getElem_cons_drop (h := hk)] at hp ⊢
   simp only [kzp, zg9] at hp ⊢
   have hpl := zu0 e.args[k]
   have hdl := ykg e.args[k]
   rw [zes, Ev.kz1 (by simpa using hk), Ev.yz2 (yzb hk), kz0.kz2, Ev.zz0 (ih _ hx (by omega)), wI (x := _ + 1) (by omega), wI (x := (zcr _ : Int) + 1) (by omega), wI (x := (p : Int) + _) (by omega)]
   have e1 : (k : Int) + 1 = ((k + 1 : Nat) : Int) := by omega
   have e2 : (zcr e.args[k] : Int) + 1 = ((1 + zcr e.args[k] : Nat) : Int) := by omega
   have e3 : (p : Int) + (z4d e.args[k] : Int) = ((p + z4d e.args[k] : Nat) : Int) := by omega
   rw [e1, e2, e3, y4d]
   refine (ihk (max d (1 + zcr e.args[k])) (p + z4d e.args[k]) (by omega) (by omega)).to ?_
   congr 2 <;> omega
 rw [zqp]
 have hv := y57 e.args
 have := loop 0 (Nat.zero_le _) 1 1 (by simp; omega) (by omega)
 refine this.to ?_
 rw [z9h, zy3, List.drop_zero]
theorem y2n : ∀ e : kz0, e.size ≤ 8388608 → Ev (fun n => z4g n e) (z4d e : Int) := zsy fun e ih hs => by
 have hsl := z5w e
 have hlen := zak e.args
 rw [zsd, kz0.kz2, z9h]
 have loop : ∀ k, k ≤ e.args.length → ∀ p : Nat, p + kzp (e.args.drop k) ≤ 8388609 → Ev (fun n => z2i n (k : Int) (p : Int) e) ((p + kzp (e.args.drop k) : Nat) : Int) :=
  down (fun p hp => by
   rw [zg5, Ev.yz1 (by simp), Ev.zz1]
   simp [kzp]) fun k hk ihk p hp => by
   have hx := List.getElem_mem hk
   have hsx := zcs hx
   rw [← List.getElem_cons_drop (h := hk)] at hp ⊢
   simp only [kzp] at hp ⊢
   have hpl := zu0 e.args[k]
   rw [zg5, Ev.kz1 (by simpa using hk), Ev.yz2 (yzb hk), kz0.kz2, Ev.zz0 (ih _ hx (by omega)), wI (x := _ + 1) (by omega), wI (x := (p : Int) + _) (by omega)]
   have e1 : (k : Int) + 1 = ((k + 1 : Nat) : Int) := by omega
   have e3 : (p : Int) + (z4d e.args[k] : Int) = ((p + z4d e.args[k] : Nat) : Int) := by omega
   rw [e1, e3, kz0.kz2]
   refine (ihk (p + z4d e.args[k]) (by omega)).to ?_
   congr 1; omega
 have hv := y57 e.args
 exact loop 0 (Nat.zero_le _) 1 (by simp; omega)
theorem ymo : ∀ e : kz0, e.size ≤ 8388608 → Ev (fun n => z7a n e) (zcr e : Int) := zsy fun e ih hs => by
 have hsl := z5w e
 have hlen := zak e.args
 rw [zvb, kz0.kz2, zy3]
 have loop : ∀ k, k ≤ e.args.length → ∀ p : Nat, p ≤ 8388609 → Ev (fun n => z3l n (k : Int) (p : Int) e) ((max p (zg9 (e.args.drop k)) : Nat) : Int) :=
  down (fun p hp => by
   rw [zh9, Ev.yz1 (by simp), Ev.zz1]
   simp [zg9]) fun k hk ihk p hp => by
   have hx := List.getElem_mem hk
   have hsx := zcs hx
   rw [← List.getElem_cons_drop (h := hk)]
   simp only [zg9]
   have hpl := zu0 e.args[k]
   have hdl := ykg e.args[k]
   rw [zh9, Ev.kz1 (by simpa using hk), Ev.yz2 (yzb hk), kz0.kz2, Ev.zz0 (ih _ hx (by omega)), wI (x := _ + 1) (by omega), wI (x := 1 + _) (by omega)]
   have e1 : (k : Int) + 1 = ((k + 1 : Nat) : Int) := by omega
   have e3 : 1 + (zcr e.args[k] : Int) = ((1 + zcr e.args[k] : Nat) : Int) := by omega
   rw [e1, e3, kz0.kz2, y4d]
   refine (ihk (max p (1 + zcr e.args[k])) (by omega)).to ?_
   congr 1; omega
 exact loop 0 (Nat.zero_le _) 1 (by omega)
def z29 (op : Int) : Int :=
 if op = 1 ∨ op = 2 then 0 else if (3 ≤ op ∧ op ≤ 10) ∨ op = 13 ∨ op = 14 ∨ op = 17 then 2 else if op = 11 ∨ op = 15 ∨ op = 16 then 1 else if op = 12 then 3 else if op = 18 then -1 else -2
theorem ops (op : Int) : op = 1 ∨ op = 2 ∨ op = 3 ∨ op = 4 ∨ op = 5 ∨ op = 6 ∨ op = 7 ∨ op = 8 ∨ op = 9 ∨ op = 10 ∨ op = 11 ∨ op = 12 ∨ op = 13 ∨ op = 14 ∨ op = 15 ∨ op = 16 ∨ op = 17 ∨ op = 18 ∨ (op < 1 ∨ 18 < op) := by omega
theorem yly {op : Int} : Ev (fun n => z8q n op) (z29 op) := by
 rcases ops op with rfl | rfl | rfl | rfl | rfl | rfl | rfl | rfl | rfl | rfl | rfl | rfl | rfl | rfl | rfl | rfl | rfl | rfl | h
 case inr.inr.inr.inr.inr.inr.inr.inr.inr.inr.inr.inr.inr.inr.inr.inr.inr.inr =>
  have e : z29 op = -2 := by unfold z29; rw [if_neg (by omega), if_neg (by omega), if_neg (by omega), if_neg (by omega), if_neg (by omega)]
  rw [e]
  have n (j : Int) (h1 : 1 ≤ j) (h2 : j ≤ 18) : (op == j) = false := by simp; omega
  simp [zni, zhy, zi9, zgx, zhs, zhh, zgw, Ev.pif, Ev.zz1, n]
 all_goals simp [zni, zhy, zi9, zgx, zhs, zhh, zgw, Ev.pif, Ev.zz1, z29]
theorem ym7 {op : Int} : Ev (fun n => z8p n op) (z29 op) := by
 rcases ops op with rfl | rfl | rfl | rfl | rfl | rfl | rfl | rfl | rfl | rfl | rfl | rfl | rfl | rfl | rfl | rfl | rfl | rfl | h
 case inr.inr.inr.inr.inr.inr.inr.inr.inr.inr.inr.inr.inr.inr.inr.inr.inr.inr =>
  have e : z29 op = -2 := by unfold z29; rw [if_neg (by omega), if_neg (by omega), if_neg (by omega), if_neg (by omega), if_neg (by omega)]
  rw [e]
  have n (j : Int) (h1 : 1 ≤ j) (h2 : j ≤ 18) : (op == j) = false := by simp; omega
  rw [znk, Ev.yz1 (n 1 (by omega) (by omega)), n 2 (by omega) (by omega), zhk, Ev.yz1 (by rfl)]
  have l1 : Ev (fun m => zzr m op false) (-2) := by simp [zh6, zh7, Ev.pif, Ev.zz1, n]
  by_cases h3 : op ≥ 3
  ·rw [Ev.kz1 (by simpa using h3), Ev.yz1 (by simp; omega), Ev.yz1 (n 13 (by omega) (by omega)), Ev.yz1 (n 14 (by omega) (by omega)), n 17 (by omega) (by omega)]; exact l1
  ·rw [Ev.yz1 (by simpa using h3), Ev.yz1 (n 13 (by omega) (by omega)), Ev.yz1 (n 14 (by omega) (by omega)), n 17 (by omega) (by omega)]; exact l1
 all_goals simp [znk, zhk, zh6, zh7, Ev.pif, Ev.zz1, z29]
noncomputable def zl8 (op : Int) (v : yz0) (nm : List UInt8) : Bool :=
 if op = 1 then z1s v == 0 && (v.kind != 4 && nm.isEmpty) else if op = 2 then zcv nm && eqB v v0 else nm.isEmpty && eqB v v0
def zcb (op : Int) (k : Nat) : Bool := z29 op != -2 && (decide (z29 op < 0) || (k : Int) == z29 op)
mutual
noncomputable def z2p : kz0 → Bool
 | ⟨op, v, nm, l⟩ => zcb op l.length && (zl8 op v nm && zaw l)
noncomputable def zaw : List kz0 → Bool
 | [] => true
 | x :: l => z2p x && zaw l
end
theorem zj9 (e : kz0) : z2p e = (zcb e.op e.args.length && (zl8 e.op e.value e.name && zaw e.args)) := by cases e; rw [z2p]
theorem y6s (l : List kz0) : zaw l = l.all z2p := by
 induction l with
 | nil => rfl
 | cons x l ih => simp [zaw, ih]
noncomputable def z98 (e : kz0) : Int := if 100 < z4d e ∨ 12 < zcr e then 4 else if z2p e then 0 else 8
theorem y0u {e : kz0} (h : e.wf) : e.value.wf := by rw [kz0.z9d] at h; exact h.2.1
theorem y6q {e : kz0} (h : e.wf) : ∀ x ∈ e.args, x.wf := by rw [kz0.z9d] at h; exact h.2.2.2
theorem y1r (s : List UInt8) : (!(s == [])) = !s.isEmpty := by cases s <;> rfl
theorem yq3 : ∀ e : kz0, e.wf → e.size ≤ 8388608 → Ev (fun n => z8a n e) (z2p e) := zsy fun e ih hw hs => by
 have hsl := z5w e
 have hlen := zak e.args
 have idx : ∀ k, k ≤ e.args.length → ∃ i : Int, Ev (fun n => yz8 n (k : Int) e.args (e.args.length : Int)) i ∧ decide (i ≥ 0) = !zaw (e.args.drop k) :=
  down ⟨-1, by rw [z06, Ev.yz1 (by simp), Ev.zz1], by simp [zaw]⟩ fun k hk ihk => by
   have hx := List.getElem_mem hk
   have hsx := zcs hx
   have hf1 : Ev (fun n => z7d n e.args[k]) (!z2p e.args[k]) := by
    rw [zt9, kz0.kz2, Ev.zz0 (ih _ hx (y6q hw _ hx) (by omega)), Ev.zz1]
   obtain ⟨i, h1, h2⟩ := ihk
   rw [← List.getElem_cons_drop (h := hk), zaw]
   cases hf : z2p e.args[k]
   ·refine ⟨k, ?_, by simp⟩
    rw [z06, Ev.kz1 (by simpa using hk), Ev.yz2 (yzb hk), kz0.kz2, Ev.zz0 hf1, Ev.kz1 (by rw [hf]; rfl), Ev.zz1]
   ·refine ⟨i, ?_, by rw [h2]; rfl⟩
    rw [z06, Ev.kz1 (by simpa using hk), Ev.yz2 (yzb hk), kz0.kz2, Ev.zz0 hf1, Ev.yz1 (by rw [hf]; rfl), wrk (by omega)]
    exact h1
 have l4 : Ev (fun n => z2x n e) (zaw e.args) := by
  obtain ⟨i, h1, h2⟩ := idx 0 (Nat.zero_le _)
  have hi : Ev (fun n => kzb n e.args) i := by rw [z7v]; exact h1
  have hc : Ev (fun n => kza n e.args) (!zaw e.args) := by
   rw [z6e, Ev.zz0 hi, Ev.zz1, h2]; rfl
  rw [zqx, Ev.zz0 hc, Ev.zz1, Bool.not_not]
 have l1 : ∀ b, Ev (fun n => z2v n b e) (!b && zaw e.args) := fun b => by
  rw [zqq]; cases b
  ·rw [Ev.yz1 (by rfl), kz0.kz2]; exact l4
  ·rw [Ev.kz1 (by rfl), Ev.zz1]; rfl
 have l2 : ∀ b, Ev (fun n => z4q n b e) (!b && zaw e.args) := fun b => by
  rw [zqw]; cases b
  ·rw [Ev.yz1 (by rfl), kz0.kz2]; exact l4
  ·rw [Ev.kz1 (by rfl), Ev.zz1]; rfl
 have l3 : ∀ b, Ev (fun n => z4n n b e) (!b && zaw e.args) := fun b => by
  rw [zqu]; cases b
  ·rw [Ev.yz1 (by rfl), kz0.kz2]; exact l4
  ·rw [Ev.kz1 (by rfl), Ev.zz1]; rfl
 have l0 : ∀ b, Ev (fun n => z2w n b e) (!b && (zl8 e.op e.value e.name && zaw e.args)) := fun b => by
  rw [zqm]; cases b
  case true => rw [Ev.kz1 (by rfl), Ev.zz1]; rfl
  rw [Ev.yz1 (by rfl)]
  have hsame : Ev (fun n => z1v n e.value (yz0.mk 0 (zz2.mk 0 0) false [] [])) (eqB e.value v0) := y5z e.value v0 (by omega)
  by_cases h1 : e.op = 1
  ·rw [Ev.kz1 (by simpa using h1), yz0.kz2, Ev.zz0 (zd4 (y0u hw) (by omega)), kz0.kz2, y1r]
   simp only [zl8, if_pos h1]
   by_cases hc : z1s e.value = 0
   ·rw [Ev.yz1 (by simpa using hc)]
    by_cases hk : e.value.kind = 4
    ·rw [Ev.kz1 (by simpa using hk)]
     refine (l1 true).to ?_; simp [hc, hk]
    ·rw [Ev.yz1 (by simpa using hk)]
     have hk' : (e.value.kind != 4) = true := by simpa using hk
     refine (l1 _).to ?_; simp [hc, hk']
   ·rw [Ev.kz1 (by simpa using hc)]
    refine (l1 true).to ?_; simp [hc]
  rw [Ev.yz1 (by simpa using h1)]
  by_cases h2 : e.op = 2
  ·rw [Ev.kz1 (by simpa using h2), Ev.zz0 (ylq (by omega)), yz0.kz2, kz0.kz2]
   simp only [zl8, if_neg h1, if_pos h2]
   cases hn : zcv e.name
   ·rw [Ev.kz1 (by rfl)]
    exact (l2 true).to (by simp)
   ·rw [Ev.yz1 (by rfl), Ev.zz0 hsame]
    exact (l2 _).to (by simp)
  ·rw [Ev.yz1 (by simpa using h2), y1r, yz0.kz2, kz0.kz2]
   simp only [zl8, if_neg h1, if_neg h2]
   cases hn : e.name.isEmpty
   ·rw [Ev.kz1 (by rfl)]
    exact (l3 true).to (by simp)
   ·rw [Ev.yz1 (by rfl), Ev.zz0 hsame]
    exact (l3 _).to (by simp)
 rw [zxh, Ev.zz0 yly, zj9, kz0.kz2]
 unfold zcb
 by_cases c1 : z29 e.op = -2
 ·rw [Ev.kz1 (by simpa using c1)]
  exact (l0 true).to (by simp [c1])
 rw [Ev.yz1 (by simpa using c1)]
 by_cases c2 : z29 e.op ≥ 0
 ·rw [Ev.kz1 (by simpa using c2)]
  refine (l0 _).to ?_
  rw [show decide (z29 e.op < 0) = false by simpa using c2, show (z29 e.op != -2) = true by simpa using c1]
  simp only [bne, Bool.not_not, Bool.true_and, Bool.false_or]
 ·rw [Ev.yz1 (by simpa using c2)]
  refine (l0 _).to ?_
  rw [show decide (z29 e.op < 0) = true by simp; omega, show (z29 e.op != -2) = true by simpa using c1]
  simp
theorem yn2 : ∀ e : kz0, e.size ≤ 8388608 → Ev (fun n => z73 n e) (z2p e) := zsy fun e ih hs => by
 have hsl := z5w e
 have hlen := zak e.args
 have loop : ∀ k, k ≤ e.args.length → Ev (fun n => z3c n (k : Int) e) (zaw (e.args.drop k)) :=
  down (by rw [zi1, Ev.yz1 (by simp), Ev.zz1]; simp [zaw]) fun k hk ihk => by
   have hx := List.getElem_mem hk
   have hsx := zcs hx
   rw [← List.getElem_cons_drop (h := hk), zaw]
   rw [zi1, Ev.kz1 (by simpa using hk), Ev.yz2 (yzb hk), kz0.kz2, Ev.zz0 (ih _ hx (by omega))]
   cases hf : z2p e.args[k]
   ·rw [Ev.kz1 (by rfl), Ev.zz1]; rfl
   ·rw [Ev.yz1 (by rfl), wrk (by omega), kz0.kz2, Bool.true_and]; exact ihk
 have l2 : ∀ b, Ev (fun n => z0e n b e) (!b && zaw e.args) := fun b => by
  rw [zoz]; cases b
  ·rw [Ev.yz1 (by rfl), kz0.kz2]; exact loop 0 (Nat.zero_le _)
  ·rw [Ev.kz1 (by rfl), Ev.zz1]; rfl
 have hgn : decide ((e.name.length : Int) > 0) = !e.name.isEmpty := by cases e.name <;> simp
 have l1 : ∀ b, Ev (fun n => z01 n b e) (!b && ((if e.op = 2 then zcv e.name else e.name.isEmpty) && zaw e.args)) := fun b => by
  rw [zp1]; cases b
  case true => rw [Ev.kz1 (by rfl), Ev.zz1]; rfl
  rw [Ev.yz1 (by rfl), kz0.kz2, hgn]
  by_cases h2 : e.op = 2
  ·rw [Ev.kz1 (by simpa using h2), if_pos h2, Ev.zz0 (yj2 (by omega))]
   cases hn : zcv e.name
   ·rw [Ev.kz1 (by rfl)]; exact (l2 true).to (by simp)
   ·rw [Ev.yz1 (by rfl), Ev.yz1 (by simpa using h2)]; exact (l2 false).to (by simp)
  ·rw [Ev.yz1 (by simpa using h2), Ev.kz1 (by simpa using h2), if_neg h2]; exact (l2 _).to (by simp)
 have l0 : ∀ b, Ev (fun n => z22 n b e) (!b && (zl8 e.op e.value e.name && zaw e.args)) := fun b => by
  rw [zp8]; cases b
  case true => rw [Ev.kz1 (by rfl), Ev.zz1]; rfl
  rw [Ev.yz1 (by rfl), yz0.kz2, kz0.kz2]
  have hsame : Ev (fun n => z1c n e.value (yz0.mk 0 (zz2.mk 0 0) false [] [])) (eqB e.value v0) := y6p e.value v0 (by omega)
  by_cases h1 : e.op = 1
  ·rw [Ev.kz1 (by simpa using h1), Ev.zz0 (yhi (by omega))]
   simp only [zl8, if_pos h1]
   by_cases hc : z1s e.value = 0
   ·rw [Ev.yz1 (by simpa using hc)]
    by_cases hk : e.value.kind = 4
    ·rw [Ev.kz1 (by simpa using hk)]
     refine (l1 true).to ?_; simp [hc, hk]
    ·rw [Ev.yz1 (by simpa using hk), Ev.yz1 (by simpa using h1)]
     have hk' : (e.value.kind != 4) = true := by simpa using hk
     refine (l1 _).to ?_; simp [hc, hk', h1]
   ·rw [Ev.kz1 (by simpa using hc)]
    refine (l1 true).to ?_; simp [hc]
  ·rw [Ev.yz1 (by simpa using h1), Ev.kz1 (by simpa using h1), Ev.zz0 hsame]
   refine (l1 _).to ?_
   simp only [zl8, if_neg h1]
   split
   ·cases eqB e.value v0 <;> cases zcv e.name <;> simp
   ·cases eqB e.value v0 <;> cases e.name.isEmpty <;> simp
 rw [zvn, Ev.zz0 ym7, zj9, kz0.kz2]
 unfold zcb
 by_cases c1 : z29 e.op = -2
 ·rw [Ev.kz1 (by simpa using c1)]
  exact (l0 true).to (by simp [c1])
 rw [Ev.yz1 (by simpa using c1)]
 by_cases c2 : z29 e.op ≥ 0
 ·rw [Ev.kz1 (by simpa using c2)]
  refine (l0 _).to ?_
  rw [show decide (z29 e.op < 0) = false by simpa using c2, show (z29 e.op != -2) = true by simpa using c1]
  simp only [bne, Bool.not_not, Bool.true_and, Bool.false_or]
 ·rw [Ev.yz1 (by simpa using c2)]
  refine (l0 _).to ?_
  rw [show decide (z29 e.op < 0) = true by simp; omega, show (z29 e.op != -2) = true by simpa using c1]
  simp
theorem zps {e : kz0} (hw : e.wf) (hs : e.size ≤ 8388608) : Ev (fun n => z2z n e) (z98 e) := by
 have l0 : ∀ b, Ev (fun n => z3p n b e) (if b then 4 else if z2p e then 0 else 8) := fun b => by
  rw [zow]
  cases b
  ·rw [Ev.yz1 (by rfl), kz0.kz2, Ev.zz0 (yq3 e hw hs)]
   cases z2p e
   ·rw [Ev.kz1 (by rfl), Ev.zz1]; rfl
   ·rw [Ev.yz1 (by rfl), Ev.zz1]; rfl
  ·rw [Ev.kz1 (by rfl), Ev.zz1]; rfl
 rw [zvo, kz0.kz2, Ev.zz0 (ydv e hs)]
 unfold z98
 simp only [Ev.pif]
 by_cases h1 : 100 < z4d e
 ·rw [if_pos (by simp; omega), if_pos (.inl h1)]; exact l0 true
 ·rw [if_neg (by simp; omega)]
  by_cases h2 : 12 < zcr e
  ·rw [if_pos (.inr h2), show decide ((zcr e : Int) > 12) = true by simp; omega]; exact l0 true
  ·rw [if_neg (by omega), show decide ((zcr e : Int) > 12) = false by simp; omega]; exact l0 false
theorem zin {e : kz0} (hs : e.size ≤ 8388608) : Ev (fun n => z1n n e) (z98 e) := by
 have l0 : ∀ b, Ev (fun n => z2j n b e) (if b then 4 else if z2p e then 0 else 8) := fun b => by
  rw [zmr]
  cases b
  ·rw [Ev.yz1 (by rfl), kz0.kz2, Ev.zz0 (yn2 e hs)]
   cases z2p e
   ·rw [Ev.kz1 (by rfl), Ev.zz1]; rfl
   ·rw [Ev.yz1 (by rfl), Ev.zz1]; rfl
  ·rw [Ev.kz1 (by rfl), Ev.zz1]; rfl
 rw [zry, kz0.kz2, Ev.zz0 (y2n e hs)]
 unfold z98
 by_cases h1 : 100 < z4d e
 ·rw [Ev.kz1 (by simp; omega), if_pos (.inl h1)]; exact l0 true
 ·rw [Ev.yz1 (by simp; omega), Ev.zz0 (ymo e hs)]
  by_cases h2 : 12 < zcr e
  ·rw [if_pos (.inr h2), show decide ((zcr e : Int) > 12) = true by simp; omega]; exact l0 true
  ·rw [if_neg (by omega), show decide ((zcr e : Int) > 12) = false by simp; omega]; exact l0 false
theorem zj4 {e : kz0} (h : z98 e = 0) : z2p e = true ∧ z4d e ≤ 100 ∧ zcr e ≤ 12 := by
 unfold z98 at h
 split at h
 ·cases h
 ·split at h
  ·exact ⟨‹_›, by omega, by omega⟩
  ·cases h
theorem yiw : ∀ e : kz0, e.size ≤ 8388608 → ∀ d : Int, ∃ b, Ev (fun n => z5y n e d) b := zsy fun e ih hs d => by
 have hsl := z5w e
 have hlen := zak e.args
 have loop : ∀ k, k ≤ e.args.length → ∀ d : Int, ∃ b, Ev (fun n => z2c n (k : Int) d e) b :=
  down (fun d => ⟨false, by rw [zfv, Ev.yz1 (by simp), Ev.zz1]⟩) fun k hk ihk d => by
   have hx := List.getElem_mem hk
   have hsx := zcs hx
   obtain ⟨b, hb⟩ := ih _ hx (by omega) (IntKind.i64.wrap (d - 1))
   obtain ⟨c, hc⟩ := ihk d
   refine ⟨if b then true else c, ?_⟩
   rw [zfv, Ev.kz1 (by simpa using hk), Ev.yz2 (yzb hk), kz0.kz2, Ev.zz0 hb, kz0.kz2, wrk (by omega)]
   cases b
   ·rw [Ev.yz1 (by rfl)]; exact hc
   ·rw [Ev.kz1 (by rfl), Ev.zz1]; rfl
 have l0 : ∀ d b, ∃ c, Ev (fun n => z0k n d b e) c := fun d b => by
  cases b
  ·obtain ⟨c, hc⟩ := loop 0 (Nat.zero_le _) d
   exact ⟨c, by rw [zgm, Ev.yz1 (by rfl), kz0.kz2]; exact hc⟩
  ·exact ⟨true, by rw [zgm, Ev.kz1 (by rfl), Ev.zz1]⟩
 obtain ⟨g, hg⟩ := yjt (v := e.value) (by omega)
 simp only [zsh, kz0.kz2, yz0.kz2, Ev.pif, Ev.zz0 hg]
 split
 ·exact l0 _ _
 split
 ·exact l0 _ _
 split
 ·exact l0 _ _
 ·exact l0 _ _
theorem y1v {e : kz0} (hs : e.size ≤ 8388608) : ∃ b, Ev (fun n => z5t n e) b := by
 obtain ⟨b, hb⟩ := yiw e hs 16
 cases b
 ·exact ⟨_, by rw [zma, kz0.kz2, Ev.zz0 hb, Ev.yz1 (by rfl), Ev.zz0 (y2n e hs)]; exact Ev.zz1.2 rfl⟩
 ·exact ⟨true, by rw [zma, kz0.kz2, Ev.zz0 hb, Ev.kz1 (by rfl), Ev.zz1]⟩
end Go.Proofs.YtfhpamcehnfhoaaGreatDoor


namespace Go.Proofs.YtfhpamcehnfhoaaGreatDoor
open Go Go.Ab
set_option linter.unusedVariables false
set_option linter.unusedSimpArgs false
theorem z9z (a b : List UInt8) : yza (a ++ b) = yza a ++ yza b := by simp [yza]
theorem z99 (a : List UInt8) : (yza a).length = a.length := by simp [yza]
theorem zf0 : ∀ s : List UInt8, zqy (yza s) = some s
 | [] => rfl
 | c :: s => by
   have h : Nat.ble c.toNat 255 = true := Nat.ble_eq_true_of_le (by have := c.toNat_lt; omega)
   show (match Int.ofNat c.toNat, zqy (yza s) with
     | .ofNat m, some s => match Nat.ble m 255 with
       | true => some (m.toUInt8 :: s)
       | false => none
     | _, _ => none) = _
   rw [zf0 s]
   simp only [h]
   simp [Nat.toUInt8]
theorem y7i (s : List Int) : Ev (fun n => yzl n s) s := ⟨0, fun _ _ => rfl⟩
theorem ws {s t : List UInt8} (h : s.length + t.length ≤ 268435456) : Ev (fun n => kz4 n t (yza s)) ((t.length : Int), yza (s ++ t)) := by
 rw [z6h, Ev.zz0 (y7i _), Ev.yz2 (zpe (by rw [z99, z99]; exact h)), Ev.zz1, z9z]
theorem wb {s : List UInt8} {c : UInt8} {k : Int} (hk : k = (c.toNat : Int)) (h : s.length + 1 ≤ 268435456) : Ev (fun n => zz8 n k (yza s)) (yza (s ++ [c])) := by
 subst hk
 rw [z7x, Ev.zz0 (y7i _), Ev.yz2 (zpe (by rw [z99]; exact h)), Ev.zz1, z9z]
 rfl
theorem w8 {k : Int} (h : 0 ≤ k ∧ k ≤ 255) : IntKind.u8.wrap k = k := by
 unfold IntKind.wrap
 simp only [IntKind.bits, IntKind.signed, Bool.false_and, Bool.false_eq_true, if_false]
 omega
theorem w32 {k : Int} (h : 0 ≤ k ∧ k ≤ 255) : IntKind.u32.wrap k = k := by
 unfold IntKind.wrap
 simp only [IntKind.bits, IntKind.signed, Bool.false_and, Bool.false_eq_true, if_false]
 omega
theorem wr {s : List UInt8} {c : UInt8} {k : Int} (hk : k = (c.toNat : Int)) (hc : c.toNat < 128) (h : s.length + 1 ≤ 268435456) : ∃ q, Ev (fun n => yzg n k (yza s)) (q, yza (s ++ [c])) := by
 subst hk
 have ha : Ev (fun n => kzk n (c.toNat : Int) (yza s)) (yza (s ++ [c])) := by
  rw [z8u, w32 (by omega), Ev.kz1 (by simp; omega), w8 (by omega), Ev.yz2 (zpe (by rw [z99]; exact h)), Ev.zz1, z9z]
  rfl
 refine ⟨IntKind.i64.wrap (((yza (s ++ [c])).length : Int) - ((yza s).length : Int)), ?_⟩
 rw [z7w, Ev.zz0 (y7i _), Ev.zz0 ha, Ev.zz1]
theorem ys4 {s : List UInt8} : Ev (fun n => yzn n (yza s)) ((s.length : Int), yza s) := by rw [zba, Ev.zz1, z99]
theorem ypp {s : List UInt8} : Ev (fun n => kzt n (yza s)) s := ⟨0, fun _ _ => zf0 s⟩
theorem zkm {k : Nat} (h : k < 10) : (UInt8.ofNat (48 + k)).toNat = 48 + k := by
 rw [UInt8.toNat_ofNat']; omega
theorem yql {k : Nat} (h : k < 10) : zqy [IntKind.u8.wrap (IntKind.i64.wrap (48 + (k : Int)))] = some [UInt8.ofNat (48 + k)] := by
 rw [wI (by omega), w8 (by omega)]
 have := zf0 [UInt8.ofNat (48 + k)]
 simp only [yza, List.map_cons, List.map_nil, zkm h] at this
 rw [← this]
 congr 2
theorem zkv {u : Nat} (h : u < 10) : Lib.decDigits u = [UInt8.ofNat (48 + u)] := by rw [Lib.decDigits, dif_pos h]
theorem zy6 {u : Nat} (h : ¬ u < 10) : Lib.decDigits u = Lib.decDigits (u / 10) ++ [UInt8.ofNat (48 + u % 10)] := by rw [Lib.decDigits, dif_neg h]
theorem ytv {u : Nat} (h : u < 18446744073709551616) : (Lib.decDigits u).length ≤ 20 := by rw [Lib.decDigits_length]; exact Lib.nDigits_le20 u h
theorem ytk {u : Nat} (h : u ≤ 9223372036854775807) : rem .i64 (u : Int) 10 = some ((u % 10 : Nat) : Int) := by
 unfold rem
 rw [if_neg (by decide)]
 congr 1
theorem yui {u : Nat} (h : u ≤ 9223372036854775807) : quo .i64 (u : Int) 10 = some ((u / 10 : Nat) : Int) := by
 have := yty (k := .i64) (a := u) (b := 10) (fun c hc => wI (by omega)) (by decide)
 exact this
theorem ytg : ∀ (u : Nat) (acc : List UInt8), u ≤ 9223372036854775807 → acc.length + Lib.nDigits u ≤ 1000 → Ev (fun n => z08 n (u : Int) acc) (Lib.decDigits u ++ acc) := by
 intro u
 induction u using Nat.strongRecOn with
 | _ u ih =>
   intro acc hu ha
   have hp := Lib.nDigits_pos u
   rw [zus, Ev.yz2 (ytk hu), Ev.yz2 (yql (Nat.mod_lt _ (by decide))), Ev.yz2 (z3r (by simp; omega)), Ev.yz2 (yui hu)]
   by_cases h : u < 10
   · have h0 : ((u / 10 : Nat) : Int) = 0 := by omega
     rw [Ev.kz1 (beq_iff_eq.2 h0), Ev.zz1, zkv h, Nat.mod_eq_of_lt h]
   · have h0 : ((u / 10 : Nat) : Int) ≠ 0 := by omega
     rw [Ev.yz1 (beq_eq_false_iff_ne.2 h0), zy6 h, List.append_assoc]
     rw [Lib.nDigits_big h] at ha
     exact ih (u / 10) (by omega) _ (by omega) (by simp; omega)
theorem zmk {u : Nat} (h : u ≤ 9223372036854775807) : Ev (fun n => z02 n (u : Int)) (Lib.decDigits u) := by
 rw [zol, Ev.yz1 (by simp)]
 refine (ytg u [] h ?_).to (List.append_nil _)
 have := Lib.nDigits_le20 u (by omega)
 simp; omega
theorem zig {x : Int} (h : -9223372036854775807 ≤ x ∧ x ≤ 9223372036854775807) : Ev (fun n => z02 n x) (Lib.itoa x) := by
 unfold Lib.itoa
 by_cases hx : x < 0
 ·rw [if_pos hx, zol, Ev.kz1 (by simpa using hx), wI (by omega)]
  have := zmk (u := x.natAbs) (by omega)
  rw [show ((x.natAbs : Nat) : Int) = 0 - x by omega] at this
  rw [Ev.zz0 this, Ev.yz2 (z3r (by have := ytv (u := x.natAbs) (by omega); simp; omega)), Ev.zz1]
  rfl
 ·rw [if_neg hx]
  have := zmk (u := x.toNat) (by omega)
  rwa [show ((x.toNat : Nat) : Int) = x by omega] at this
theorem zm6 {x : Int} (h : -9223372036854775807 ≤ x ∧ x ≤ 9223372036854775807) : Ev (fun n => yzj n x 10) (Lib.itoa x) := ⟨0, fun _ _ => by
 unfold yzj; rw [if_pos ⟨rfl, by omega, h.2⟩]⟩
theorem zcg {x : Int} (h : -9223372036854775807 ≤ x ∧ x ≤ 9223372036854775807) : (Lib.itoa x).length ≤ 21 := Lib.itoa_length_le x (by omega) h.2
def z1q (r : zz2) : List UInt8 := if r.den = 1 then Lib.itoa r.num else Lib.itoa r.num ++ 47 :: Lib.itoa r.den
theorem zks {r : zz2} (h : rok r = true) : (z1q r).length ≤ 43 := by
 obtain ⟨h1, h2, h3⟩ := zxv h
 unfold z1q
 have a := zcg (x := r.num) (by omega)
 have b := zcg (x := r.den) (by omega)
 split
 ·omega
 ·simp; omega
theorem zh8 {r : zz2} (h : rok r = true) : Ev (fun n => z4k n r) (z1q r, 0) := by
 obtain ⟨h1, h2, h3⟩ := zxv h
 have a := zcg (x := r.num) (by omega)
 have b := zcg (x := r.den) (by omega)
 have hc := zf8 (r := r) (by unfold I64; omega)
 rw [if_pos h] at hc
 rw [znj, Ev.zz0 hc, Ev.yz1 (by rfl), Ev.zz0 (zm6 (by omega))]
 unfold z1q
 by_cases hd : r.den = 1
 ·rw [Ev.yz1 (by simpa using hd), zam, Ev.zz1, if_pos hd]
 ·rw [Ev.kz1 (by simpa using hd), Ev.zz0 (zm6 (by omega)), Ev.yz2 (z3r (by simp; omega)), Ev.yz2 (z3r (by simp; omega)), zam, Ev.zz1, if_neg hd]
  rfl
theorem ylg {r : zz2} (h : rok r = true) : Ev (fun n => zbq n r) (z1q r, 0) := by
 obtain ⟨h1, h2, h3⟩ := zxv h
 have a := zcg (x := r.num) (by omega)
 have b := zcg (x := r.den) (by omega)
 have hc := zml (r := r)
 rw [if_pos h] at hc
 rw [y8o, Ev.zz0 hc, Ev.yz1 (by rfl)]
 unfold z1q
 by_cases hd : r.den = 1
 ·rw [Ev.kz1 (by simpa using hd), Ev.zz0 (zig (by omega)), Ev.zz1, if_pos hd]
 ·rw [Ev.yz1 (by simpa using hd), Ev.zz0 (zig (by omega)), Ev.yz2 (z3r (by simp; omega)), Ev.zz0 (zig (by omega)), Ev.yz2 (z3r (by simp; omega)), Ev.zz1, if_neg hd]
  simp
end Go.Proofs.YtfhpamcehnfhoaaGreatDoor


namespace Go.Proofs.YtfhpamcehnfhoaaGreatDoor
open Go Go.Ab
set_option linter.unusedVariables false
set_option linter.unusedSimpArgs false
theorem z8w : yza [] = [] := rfl
theorem zlx (c d : UInt8) : (((c.toNat : Nat) : Int) == ((d.toNat : Nat) : Int)) = (c == d) := by
 rw [Bool.eq_iff_iff, beq_iff_eq, beq_iff_eq]
 exact ⟨fun h => UInt8.toNat_inj.1 (by omega), fun h => by rw [h]⟩
theorem b34 (c : UInt8) : (((c.toNat : Nat) : Int) == 34) = (c == 34) := zlx c 34
theorem b92 (c : UInt8) : (((c.toNat : Nat) : Int) == 92) = (c == 92) := zlx c 92
theorem b40 (c : UInt8) : (((c.toNat : Nat) : Int) == 40) = (c == 40) := zlx c 40
theorem b91 (c : UInt8) : (((c.toNat : Nat) : Int) == 91) = (c == 91) := zlx c 91
theorem b45 (c : UInt8) : (((c.toNat : Nat) : Int) == 45) = (c == 45) := zlx c 45
theorem b47 (c : UInt8) : (((c.toNat : Nat) : Int) == 47) = (c == 47) := zlx c 47
theorem b48 (c : UInt8) : (((c.toNat : Nat) : Int) == 48) = (c == 48) := zlx c 48
def esc : List UInt8 → List UInt8
 | [] => []
 | c :: s => if c = 34 ∨ c = 92 then 92 :: c :: esc s else c :: esc s
def z9t (v : yz0) : List UInt8 := if v.kind = 1 then z1q v.num else if v.kind = 2 then (if v.truth then [116, 114, 117, 101] else [102, 97, 108, 115, 101]) else 34 :: (esc v.str ++ [34])
theorem zye : ∀ s : List UInt8, (esc s).length ≤ 2 * s.length
 | [] => Nat.le_refl _
 | c :: s => by have := zye s; unfold esc; split <;> simp <;> omega
theorem drop_cons {s : List UInt8} {k : Nat} (h : k < s.length) : s.drop k = s[k] :: s.drop (k + 1) := (List.getElem_cons_drop (h := h)).symm
theorem zqd {s : List UInt8} (hs : s.length ≤ 60) (ha : s.all zj0 = true) : ∀ k, k ≤ s.length → ∀ acc : List UInt8, acc.length ≤ 1000 - 2 * (s.length - k) → Ev (fun n => z18 n (yza acc) s k) (yza (acc ++ (esc (s.drop k) ++ [34]))) :=
 down (fun acc hl => by
  rw [z9r, Ev.yz1 (by simp), Ev.zz0 (wb (k := 34) (c := 34) rfl (by omega)), Ev.zz1]
  simp [esc]) fun k hk ih acc hl => by
  have hc := List.all_eq_true.1 ha _ (List.getElem_mem hk)
  have hlow : s[k].toNat < 128 := by
   unfold zj0 at hc; simp at hc; omega
  rw [z9r, Ev.kz1 (by simpa using hk), zyg hk hlow]
  have l2 : ∀ acc' : List UInt8, acc'.length + 1 ≤ 1000 - 2 * (s.length - (k + 1)) → Ev (fun n => z15 n (s[k].toNat : Int) (yza acc') s (k + 1)) (yza (acc' ++ (s[k] :: (esc (s.drop (k + 1)) ++ [34])))) := fun acc' h' => by
   obtain ⟨q, hq⟩ := wr (s := acc') (c := s[k]) rfl hlow (by omega)
   rw [zgg, Ev.zz0 hq]
   refine (ih (acc' ++ [s[k]]) (by simp; omega)).to ?_
   simp
  have l1 : (s[k] = 34 ∨ s[k] = 92) → Ev (fun n => z14 n (s[k].toNat : Int) (yza acc) s (k + 1)) (yza (acc ++ (esc (s.drop k) ++ [34]))) := fun h => by
   rw [zfq, Ev.zz0 (wb (k := 92) (c := 92) rfl (by omega))]
   refine (l2 (acc ++ [92]) (by simp; omega)).to ?_
   rw [drop_cons hk]
   simp [esc, h]
  simp only [b34, b92]
  by_cases h34 : s[k] = 34
  ·rw [Ev.kz1 (by simpa using h34)]; exact l1 (.inl h34)
  ·rw [Ev.yz1 (by simpa using h34)]
   by_cases h92 : s[k] = 92
   ·rw [Ev.kz1 (by simpa using h92)]; exact l1 (.inr h92)
   ·rw [Ev.yz1 (by simpa using h92)]
    refine (l2 acc (by omega)).to ?_
    rw [drop_cons hk]
    simp [esc, h34, h92]
theorem y5y {v : yz0} (h : z8m v = true) (hk : v.kind = 3) : v.str.length ≤ 60 ∧ v.str.all zj0 = true := by
 rw [z7m, if_neg (by omega), if_neg (by omega), if_pos hk] at h
 simp only [Bool.and_eq_true, decide_eq_true_eq] at h
 exact h.2.2.2
theorem zib {v : yz0} (h : z1s v = 0) : (z9t v).length ≤ 130 := by
 obtain ⟨hf, _, _⟩ := z9l h
 unfold z9t
 split
 ·rename_i hk; have := zks (zh4 hf hk); omega
 split
 ·split <;> decide
 ·have := zye v.str
  rcases zcp hf with hk | hk | hk | hk
  ·contradiction
  ·contradiction
  ·obtain ⟨a, b⟩ := y5y hf hk
   simp; omega
  ·obtain ⟨_, _, _, a⟩ := yqj hf hk
   rw [a]; decide
theorem ztz {v : yz0} (hf : z8m v = true) (hk : v.kind = 3) : v.str.length ≤ 60 ∧ v.str.all zj0 = true := y5y hf hk
theorem zwt {v : yz0} (hw : v.wf) (hs : v.size ≤ 8388608) (h : z1s v = 0) (hk : v.kind ≠ 4) : Ev (fun n => z6o n v) (z9t v, 0) := by
 obtain ⟨hf, _, _⟩ := z9l h
 have hl := zib h
 have hwr : Ev (fun n => z4h n v []) (yza (z9t v)) := by
  rw [zls]
  unfold z9t
  by_cases h1 : v.kind = 1
  ·have hr := zh4 hf h1
   have := ws (s := []) (t := z1q v.num) (by have := zks hr; simp; omega)
   rw [z8w, List.nil_append] at this
   rw [Ev.kz1 (by simpa using h1), Ev.zz0 (zh8 hr), Ev.zz0 this, Ev.zz1, if_pos h1]
  rw [Ev.yz1 (by simpa using h1), if_neg h1]
  by_cases h2 : v.kind = 2
  ·rw [Ev.kz1 (by simpa using h2), if_pos h2]
   cases ht : v.truth
   ·have := ws (s := []) (t := [102, 97, 108, 115, 101]) (by decide)
    rw [z8w, List.nil_append] at this
    rw [Ev.yz1 (by rfl), Ev.zz0 this, Ev.zz1]; rfl
   ·have := ws (s := []) (t := [116, 114, 117, 101]) (by decide)
    rw [z8w, List.nil_append] at this
    rw [Ev.kz1 (by rfl), Ev.zz0 this, Ev.zz1]; rfl
  rw [Ev.yz1 (by simpa using h2), if_neg h2]
  have h3 : v.kind = 3 := by rcases zcp hf with a | a | a | a <;> first | contradiction | exact a
  obtain ⟨q1, q2⟩ := ztz hf h3
  have := wb (s := []) (k := 34) (c := 34) rfl (by decide)
  rw [z8w, List.nil_append] at this
  rw [Ev.kz1 (by simpa using h3), Ev.zz0 this]
  exact zqd q1 q2 0 (Nat.zero_le _) [34] (by simp; omega)
 have hc := zd4 hw hs
 rw [h] at hc
 rw [znt, yz0.kz2, Ev.zz0 hc, Ev.yz1 (by rfl), Ev.zz0 hwr, Ev.zz0 ys4, Ev.yz1 (by simp; omega), Ev.zz0 ypp, Ev.zz1]
theorem yt9 {s : List UInt8} {k : Nat} (h : k < s.length) (hb : s.length ≤ 4611686018427387904) : sub s (k : Int) (IntKind.i64.wrap ((k : Int) + 1)) = some [s[k]] := by
 rw [wrk (by omega), zbc (by omega) (by omega)]
 congr 1
 rw [List.drop_take, show k + 1 - k = 1 by omega, drop_cons h]
 rfl
theorem y92 {v : yz0} (h : z1s v = 0) (hk : v.kind ≠ 4) : Ev (fun n => z6k n v) (z9t v) := by
 obtain ⟨hf, _, _⟩ := z9l h
 rw [y0r]
 unfold z9t
 by_cases h1 : v.kind = 1
 ·rw [Ev.kz1 (by simpa using h1), Ev.zz0 (ylg (zh4 hf h1)), Ev.zz1, if_pos h1]
 rw [Ev.yz1 (by simpa using h1), if_neg h1]
 by_cases h2 : v.kind = 2
 ·rw [Ev.kz1 (by simpa using h2), if_pos h2]
  cases ht : v.truth
  ·rw [Ev.yz1 (by rfl), Ev.zz1]; rfl
  ·rw [Ev.kz1 (by rfl), Ev.zz1]; rfl
 rw [Ev.yz1 (by simpa using h2), if_neg h2]
 have h3 : v.kind = 3 := by rcases zcp hf with a | a | a | a <;> first | contradiction | exact a
 obtain ⟨q1, q2⟩ := ztz hf h3
 rw [Ev.kz1 (by simpa using h3), yz0.kz2]
 have loop : ∀ k, k ≤ v.str.length → ∀ acc : List UInt8, acc.length ≤ 1000 - 2 * (v.str.length - k) → Ev (fun n => z47 n (k : Int) acc v) (acc ++ (esc (v.str.drop k) ++ [34])) :=
  down (fun acc hl => by
   rw [zjy, Ev.yz1 (by simp), Ev.yz2 (z3r (by simp; omega)), Ev.zz1]
   simp [esc]) fun k hk ih acc hl => by
   have l2 : ∀ acc' : List UInt8, acc'.length + 1 ≤ 1000 - 2 * (v.str.length - (k + 1)) → Ev (fun n => z41 n (k : Int) acc' v) (acc' ++ (v.str[k] :: (esc (v.str.drop (k + 1)) ++ [34]))) := fun acc' h' => by
    rw [zut, Ev.yz2 (yt9 hk (by omega)), Ev.yz2 (z3r (by simp; omega)), wrk (by omega), yz0.kz2]
    refine (ih (acc' ++ [v.str[k]]) (by simp; omega)).to ?_
    simp
   have l1 : ∀ b : Bool, (b = true ↔ (v.str[k] = 34 ∨ v.str[k] = 92)) → Ev (fun n => z45 n (k : Int) acc b v) (acc ++ (esc (v.str.drop k) ++ [34])) := fun b hb => by
    rw [zub, drop_cons hk]
    cases b
    ·have hn : ¬ (v.str[k] = 34 ∨ v.str[k] = 92) := fun h => by have := hb.2 h; cases this
     rw [Ev.yz1 (by rfl), yz0.kz2]
     refine (l2 acc (by omega)).to ?_
     simp [esc, hn]
    ·have hn := hb.1 rfl
     rw [Ev.kz1 (by rfl), Ev.yz2 (z3r (by simp; omega)), yz0.kz2]
     refine (l2 (acc ++ [92]) (by simp; omega)).to ?_
     simp [esc, hn]
   rw [zjy, Ev.kz1 (by simpa using hk), Ev.yz2 (yzb hk)]
   simp only [b34, b92]
   by_cases h34 : v.str[k] = 34
   ·rw [Ev.kz1 (by simpa using h34), yz0.kz2]; exact l1 true (by simp [h34])
   ·rw [Ev.yz1 (by simpa using h34), Ev.yz2 (yzb hk), yz0.kz2]
    exact l1 _ (by simp [h34])
 exact loop 0 (Nat.zero_le _) [34] (by simp; omega)
end Go.Proofs.YtfhpamcehnfhoaaGreatDoor


namespace Go.Proofs.YtfhpamcehnfhoaaGreatDoor
open Go Go.Ab
set_option linter.unusedVariables false
set_option linter.unusedSimpArgs false
def y7z : List (List UInt8) := [[43], [45], [42], [47], [60], [61], [97, 110, 100], [111, 114]]
def z3g : List (List UInt8) := [[110, 111, 116], [105, 102], [109, 105, 110], [109, 97, 120], [102, 108, 111, 111, 114], [108, 101, 110], [97, 116]]
def z3w (op : Int) : List UInt8 := if 3 ≤ op ∧ op ≤ 10 then y7z.getD (op - 3).toNat [] else []
def z4p (op : Int) : List UInt8 := if 11 ≤ op ∧ op ≤ 17 then z3g.getD (op - 11).toNat [] else []
theorem y0b : kzd 0 [43, 32, 45, 32, 42, 32, 47, 32, 60, 32, 61, 32, 97, 110, 100, 32, 111, 114] = some y7z := by decide +kernel
theorem y5b : Ev (fun n => kzd n [43, 32, 45, 32, 42, 32, 47, 32, 60, 32, 61, 32, 97, 110, 100, 32, 111, 114]) y7z := ⟨0, fun _ _ => y0b⟩
theorem y1b : kzd 0 [110, 111, 116, 32, 105, 102, 32, 109, 105, 110, 32, 109, 97, 120, 32, 102, 108, 111, 111, 114, 32, 108, 101, 110, 32, 97, 116] = some z3g := by decide +kernel
theorem zrm : Ev (fun n => kzd n [110, 111, 116, 32, 105, 102, 32, 109, 105, 110, 32, 109, 97, 120, 32, 102, 108, 111, 111, 114, 32, 108, 101, 110, 32, 97, 116]) z3g := ⟨0, fun _ _ => y1b⟩
theorem op8 {op : Int} (h : 3 ≤ op ∧ op ≤ 10) : op = 3 ∨ op = 4 ∨ op = 5 ∨ op = 6 ∨ op = 7 ∨ op = 8 ∨ op = 9 ∨ op = 10 := by omega
theorem op7 {op : Int} (h : 11 ≤ op ∧ op ≤ 17) : op = 11 ∨ op = 12 ∨ op = 13 ∨ op = 14 ∨ op = 15 ∨ op = 16 ∨ op = 17 := by omega
theorem zde {op : Int} : Ev (fun n => z61 n op) (z3w op) := by
 have l0 : ∀ b, (b = true ↔ ¬ (3 ≤ op ∧ op ≤ 10)) → Ev (fun n => z32 n op b) (z3w op) := fun b hb => by
  rw [zjl]
  cases b
  ·have h : 3 ≤ op ∧ op ≤ 10 := Classical.not_not.1 fun h => by have := hb.2 h; cases this
   rw [Ev.yz1 (by rfl), Ev.zz0 y5b]
   unfold z3w
   rw [if_pos h]
   rcases op8 h with rfl | rfl | rfl | rfl | rfl | rfl | rfl | rfl <;> exact ⟨0, fun _ _ => rfl⟩
  ·rw [Ev.kz1 (by rfl), Ev.zz1]; unfold z3w; rw [if_neg (hb.1 rfl)]
 rw [zpz]
 by_cases h : op < 3
 ·rw [Ev.kz1 (by simpa using h)]; exact l0 true (by simp; omega)
 ·rw [Ev.yz1 (by simpa using h)]; exact l0 _ (by simp; omega)
theorem zw9 {op : Int} : Ev (fun n => z6q n op) (z3w op) := by
 rw [yad]
 unfold z3w
 by_cases h : 3 ≤ op ∧ op ≤ 10
 ·rw [if_pos h, Ev.kz1 (by simpa using h.1), zhv, Ev.kz1 (by simpa using h.2)]
  rcases op8 h with rfl | rfl | rfl | rfl | rfl | rfl | rfl | rfl <;> exact ⟨0, fun _ _ => rfl⟩
 ·rw [if_neg h]
  by_cases h3 : op ≥ 3
  ·rw [Ev.kz1 (by simpa using h3), zhv, Ev.yz1 (by simp; omega), Ev.zz1]
  ·rw [Ev.yz1 (by simpa using h3), zhv, Ev.yz1 (by rfl), Ev.zz1]
theorem zqg {op : Int} : Ev (fun n => z83 n op) (z4p op) := by
 rw [y33]
 unfold z4p
 by_cases h : 11 ≤ op ∧ op ≤ 17
 ·rw [if_pos h, Ev.kz1 (by simpa using h.1), zeo, Ev.kz1 (by simpa using h.2)]
  rcases op7 h with rfl | rfl | rfl | rfl | rfl | rfl | rfl <;> exact ⟨0, fun _ _ => rfl⟩
 ·rw [if_neg h]
  by_cases h3 : op ≥ 11
  ·rw [Ev.kz1 (by simpa using h3), zeo, Ev.yz1 (by simp; omega), Ev.zz1]
  ·rw [Ev.yz1 (by simpa using h3), zeo, Ev.yz1 (by rfl), Ev.zz1]
def z33 (op : Int) : List UInt8 := if z3w op ≠ [] then [40] else if op ≠ 18 then z4p op ++ [40] else [91]
def zau (op : Int) : List UInt8 := if z3w op ≠ [] then 32 :: (z3w op ++ [32]) else [44, 32]
def z0p (op : Int) : List UInt8 := if z3w op ≠ [] then [41] else if op ≠ 18 then [41] else [93]
mutual
def z0l : kz0 → List UInt8
 | ⟨op, v, nm, l⟩ => if op = 1 then z9t v else if op = 2 then nm else z33 op ++ (yzv (zau op) false l ++ z0p op)
def yzv (mid : List UInt8) : Bool → List kz0 → List UInt8
 | _, [] => []
 | b, e :: l => (if b then mid else []) ++ (z0l e ++ yzv mid true l)
end
theorem zco (e : kz0) : z0l e = if e.op = 1 then z9t e.value else if e.op = 2 then e.name else z33 e.op ++ (yzv (zau e.op) false e.args ++ z0p e.op) := by cases e; rw [z0l]
theorem zaf (op : Int) : (z3w op).length ≤ 3 := by
 unfold z3w
 split
 ·rename_i h; rcases op8 h with rfl | rfl | rfl | rfl | rfl | rfl | rfl | rfl <;> decide
 ·decide
theorem zf1 (op : Int) : (z4p op).length ≤ 5 := by
 unfold z4p
 split
 ·rename_i h; rcases op7 h with rfl | rfl | rfl | rfl | rfl | rfl | rfl <;> decide
 ·decide
theorem zkt (op : Int) : (z33 op).length ≤ 6 := by
 have := zf1 op
 unfold z33
 split
 ·decide
 split
 ·simp; omega
 ·decide
theorem ztb (op : Int) : (zau op).length ≤ 5 := by
 have := zaf op
 unfold zau
 split
 ·simp; omega
 ·decide
theorem zl3 (op : Int) : (z0p op).length = 1 := by
 unfold z0p
 split
 ·rfl
 split <;> rfl
theorem z7p {e : kz0} (h : z2p e = true) : ∀ x ∈ e.args, z2p x = true := by
 rw [zj9, y6s] at h
 simp only [Bool.and_eq_true, List.all_eq_true] at h
 exact h.2.2
theorem zbi {e : kz0} (h : z2p e = true) : zl8 e.op e.value e.name = true := by
 rw [zj9] at h
 simp only [Bool.and_eq_true] at h
 exact h.2.1
theorem zb0 {e : kz0} (h : z2p e = true) : zcb e.op e.args.length = true := by
 rw [zj9] at h
 simp only [Bool.and_eq_true] at h
 exact h.1
theorem yef {v : yz0} {nm : List UInt8} (h : zl8 1 v nm = true) : z1s v = 0 ∧ v.kind ≠ 4 ∧ nm = [] := by
 unfold zl8 at h
 simpa using h
theorem ykv {v : yz0} {nm : List UInt8} (h : zl8 2 v nm = true) : zcv nm = true ∧ v = v0 := by
 unfold zl8 at h
 simp at h
 exact ⟨h.1, zbj.1 h.2⟩
theorem yhk {op : Int} {v : yz0} {nm : List UInt8} (h1 : op ≠ 1) (h2 : op ≠ 2) (h : zl8 op v nm = true) : nm = [] ∧ v = v0 := by
 unfold zl8 at h
 rw [if_neg h1, if_neg h2] at h
 simp at h
 exact ⟨h.1, zbj.1 h.2⟩
theorem zo9 {s : List UInt8} (h : zcv s = true) : s.length ≤ 40 := by
 unfold zcv z9y at h
 cases s with
 | nil => simp at h
 | cons c t => simp at h ⊢; omega
theorem yl1 {op : Int} {k : Nat} (h : zcb op k = true) (ho : 3 ≤ op ∧ op ≤ 10) : k = 2 := by
 unfold zcb at h
 have hc : z29 op = 2 := by unfold z29; rw [if_neg (by omega), if_pos (.inl ho)]
 rw [hc] at h
 simp at h
 omega
theorem zlj {mid : List UInt8} (hm : mid.length ≤ 5) : ∀ (l : List kz0) (b : Bool), (∀ x ∈ l, (z0l x).length + 8 ≤ 200 * z4d x) → (yzv mid b l).length ≤ 200 * kzp l
 | [], b, _ => by simp [yzv]
 | e :: l, b, h => by
   have h1 := h e List.mem_cons_self
   have h2 := zlj hm l true fun x hx => h x (List.mem_cons_of_mem _ hx)
   rw [yzv, kzp]
   simp only [List.length_append]
   cases b <;> simp <;> omega
theorem zko : ∀ e : kz0, z2p e = true → (z0l e).length + 8 ≤ 200 * z4d e := zsy fun e ih hf => by
 rw [zco, z9h]
 have ho := zbi hf
 split
 ·rename_i h; rw [h] at ho; have := zib (yef ho).1; omega
 split
 ·rename_i h; rw [h] at ho; have := zo9 (ykv ho).1; omega
 ·have h1 := zkt e.op
  have h2 := zl3 e.op
  have h3 := zlj (ztb e.op) e.args false fun x hx => ih x hx (z7p hf x hx)
  simp only [List.length_append]
  omega
end Go.Proofs.YtfhpamcehnfhoaaGreatDoor


namespace Go.Proofs.YtfhpamcehnfhoaaGreatDoor
open Go Go.Ab
set_option linter.unusedVariables false
set_option linter.unusedSimpArgs false
theorem zi0 {op : Int} (h : 3 ≤ op ∧ op ≤ 10) : z3w op ≠ [] := by
 rcases op8 h with rfl | rfl | rfl | rfl | rfl | rfl | rfl | rfl <;> decide
theorem zhu {op : Int} (h : ¬ (3 ≤ op ∧ op ≤ 10)) : z3w op = [] := by unfold z3w; rw [if_neg h]
theorem zmu {op : Int} {k : Nat} (h : zcb op k = true) : ((op = 1 ∨ op = 2) ∧ k = 0) ∨ (z29 op = 2 ∧ k = 2) ∨ (z29 op = 1 ∧ k = 1) ∨ (op = 12 ∧ k = 3) ∨ op = 18 := by
 unfold zcb at h
 simp only [Bool.and_eq_true, bne_iff_ne, ne_eq, Bool.or_eq_true, decide_eq_true_eq, beq_iff_eq] at h
 unfold z29 at h ⊢
 by_cases h1 : op = 1 ∨ op = 2
 ·rw [if_pos h1] at h; exact .inl ⟨h1, by omega⟩
 rw [if_neg h1] at h ⊢
 by_cases h2 : (3 ≤ op ∧ op ≤ 10) ∨ op = 13 ∨ op = 14 ∨ op = 17
 ·rw [if_pos h2] at h ⊢; exact .inr (.inl ⟨rfl, by omega⟩)
 rw [if_neg h2] at h ⊢
 by_cases h3 : op = 11 ∨ op = 15 ∨ op = 16
 ·rw [if_pos h3] at h ⊢; exact .inr (.inr (.inl ⟨rfl, by omega⟩))
 rw [if_neg h3] at h ⊢
 by_cases h4 : op = 12
 ·rw [if_pos h4] at h; exact .inr (.inr (.inr (.inl ⟨h4, by omega⟩)))
 rw [if_neg h4] at h
 by_cases h5 : op = 18
 ·exact .inr (.inr (.inr (.inr h5)))
 ·rw [if_neg h5] at h; omega
theorem zfo {op : Int} {k : Nat} (h : zcb op k = true) (h1 : op ≠ 1) (h2 : op ≠ 2) (h3 : ¬ (3 ≤ op ∧ op ≤ 10)) (h4 : op ≠ 18) : 11 ≤ op ∧ op ≤ 17 := by
 rcases zmu h with ⟨a | a, _⟩ | ⟨a, _⟩ | ⟨a, _⟩ | ⟨a, _⟩ | a
 ·exact (h1 a).elim
 ·exact (h2 a).elim
 ·unfold z29 at a
  repeat' split at a
  all_goals omega
 ·unfold z29 at a
  repeat' split at a
  all_goals omega
 ·omega
 ·exact (h4 a).elim
theorem y02 {op : Int} (h : 11 ≤ op ∧ op ≤ 17) : ix z3g (IntKind.u8.wrap (op - 11)) = some (z4p op) := by
 rcases op7 h with rfl | rfl | rfl | rfl | rfl | rfl | rfl <;> rfl
theorem zwc : ∀ e : kz0, e.wf → e.size ≤ 8388608 → z2p e = true → ∀ acc : List UInt8, acc.length + 200 * z4d e ≤ 1000000 → Ev (fun n => z5h n e (yza acc)) (yza (acc ++ z0l e)) := zsy fun e ih hw hs hf acc hl => by
 have ho := zbi hf
 have har := zb0 hf
 have hsz := z5w e
 have hp := z9h e
 have hln := zak e.args
 rw [zo0, zco]
 by_cases h1 : e.op = 1
 ·rw [h1] at ho
  obtain ⟨o1, o2, _⟩ := yef ho
  have := zib o1
  rw [Ev.kz1 (by simpa using h1), yz0.kz2, Ev.zz0 (zwt (y0u hw) (by omega) o1 o2), Ev.kz1 (by rfl), Ev.zz0 (ws (t := z9t e.value) (by omega)), Ev.zz1, if_pos h1]
 rw [Ev.yz1 (by simpa using h1), if_neg h1]
 by_cases h2 : e.op = 2
 ·rw [h2] at ho
  have := zo9 (ykv ho).1
  rw [Ev.kz1 (by simpa using h2), Ev.zz0 (ws (by omega)), Ev.zz1, if_pos h2]
 rw [Ev.yz1 (by simpa using h2), if_neg h2]
 have q1 := zkt e.op
 have q2 := ztb e.op
 have q3 := zl3 e.op
 have loop : ∀ k, k ≤ e.args.length → ∀ acc' : List UInt8, acc'.length + 200 * kzp (e.args.drop k) + 190 ≤ 1000000 → Ev (fun n => z1x n (k : Int) (zau e.op) e.args (z0p e.op) (e.args.length : Int) (yza acc')) (yza (acc' ++ (yzv (zau e.op) (decide (0 < k)) (e.args.drop k) ++ z0p e.op))) :=
  down (fun acc' h' => by
   rw [zag, Ev.yz1 (by simp), Ev.zz0 (ws (by omega)), Ev.zz1]
   simp [yzv]) fun k hk ihk acc' h' => by
   have hm := List.getElem_mem hk
   have hd : e.args.drop k = e.args[k] :: e.args.drop (k + 1) := (List.getElem_cons_drop (h := hk)).symm
   rw [hd] at h' ⊢
   rw [kzp] at h'
   have hx := zko _ (z7p hf _ hm)
   have l2 : ∀ acc'' : List UInt8, acc''.length + 200 * z4d e.args[k] + 200 * kzp (e.args.drop (k + 1)) + 185 ≤ 1000000 → Ev (fun n => z1w n (zau e.op) e.args (z0p e.op) (e.args.length : Int) (k : Int) (yza acc'') e.args[k]) (yza (acc'' ++ (z0l e.args[k] ++ (yzv (zau e.op) true (e.args.drop (k + 1)) ++ z0p e.op)))) := fun acc'' g1 => by
    rw [zi5, kz0.kz2, Ev.zz0 (ih _ hm (y6q hw _ hm) (by have := zcs hm; omega) (z7p hf _ hm) acc'' (by omega)), wrk (by omega)]
    have := ihk (acc'' ++ z0l e.args[k]) (by simp; omega)
    rw [show decide (0 < k + 1) = true by simp] at this
    refine this.to ?_
    simp
   rw [zag, Ev.kz1 (by simpa using hk), Ev.yz2 (yzb hk), kz0.kz2, yzv]
   by_cases hk0 : 0 < k
   ·rw [Ev.kz1 (by simpa using hk0), Ev.zz0 (ws (by omega))]
    refine (l2 (acc' ++ zau e.op) (by simp; omega)).to ?_
    simp [hk0]
   ·rw [Ev.yz1 (by simpa using hk0)]
    refine (l2 acc' (by omega)).to ?_
    simp [hk0]
 have l0 : Ev (fun n => z10 n (zau e.op) (z0p e.op) (z33 e.op) (yza acc) e) (yza (acc ++ (z33 e.op ++ (yzv (zau e.op) false e.args ++ z0p e.op)))) := by
  rw [zh3, Ev.zz0 (ws (by omega))]
  refine (loop 0 (Nat.zero_le _) (acc ++ z33 e.op) (by simp; omega)).to ?_
  simp
 rw [Ev.zz0 zde]
 by_cases h3 : 3 ≤ e.op ∧ e.op ≤ 10
 ·have hn := zi0 h3
  have hl3 := zaf e.op
  rw [Ev.kz1 (by simpa using hn), Ev.zz0 zde, Ev.yz2 (z3r (by simp; omega)), Ev.yz2 (z3r (by simp; omega)), kz0.kz2]
  have e1 : [32] ++ z3w e.op ++ [32] = zau e.op := by unfold zau; rw [if_pos hn]; simp
  have e2 : [41] = z0p e.op := by unfold z0p; rw [if_pos hn]
  have e3 : [40] = z33 e.op := by unfold z33; rw [if_pos hn]
  rw [e1, e2, e3]
  exact l0
 ·have hn := zhu h3
  rw [Ev.yz1 (by simp [hn]), kz0.kz2]
  have e1 : [44, 32] = zau e.op := by unfold zau; rw [if_neg (by simpa using hn)]
  by_cases h18 : e.op = 18
  ·have e2 : [93] = z0p e.op := by unfold z0p; rw [if_neg (by simpa using hn), if_neg (by simpa using h18)]
   have e3 : [91] = z33 e.op := by unfold z33; rw [if_neg (by simpa using hn), if_neg (by simpa using h18)]
   rw [Ev.yz1 (by simpa using h18), e1, e2, e3]
   exact l0
  ·have hr := zfo har h1 h2 h3 h18
   have hcl := zf1 e.op
   have e2 : [41] = z0p e.op := by unfold z0p; rw [if_neg (by simpa using hn), if_pos (by simpa using h18)]
   have e3 : z4p e.op ++ [40] = z33 e.op := by unfold z33; rw [if_neg (by simpa using hn), if_pos (by simpa using h18)]
   rw [Ev.kz1 (by simpa using h18), Ev.zz0 zrm, Ev.yz2 (y02 hr), Ev.yz2 (z3r (by simp; omega)), e1, e2, e3]
   exact l0
theorem y8e : ∀ e : kz0, e.size ≤ 8388608 → z2p e = true → z4d e ≤ 5000 → Ev (fun n => z23 n e) (z0l e) := zsy fun e ih hs hf hpp => by
 have ho := zbi hf
 have har := zb0 hf
 have hsz := z5w e
 have hp := z9h e
 have hln := zak e.args
 have ihx : ∀ x, x ∈ e.args → Ev (fun n => z23 n x) (z0l x) := fun x hx => ih x hx (by have := zcs hx; omega) (z7p hf x hx) (by
  have : ∀ l : List kz0, x ∈ l → z4d x ≤ kzp l := fun l => by
   induction l with
   | nil => simp
   | cons y l ihl =>
     intro hm
     rw [kzp]
     rcases List.mem_cons.1 hm with rfl | hm
     · omega
     · have := ihl hm; omega
  have := this e.args hx
  omega)
 rw [y1c, zco]
 by_cases h1 : e.op = 1
 ·rw [h1] at ho
  obtain ⟨o1, o2, _⟩ := yef ho
  rw [Ev.kz1 (by simpa using h1), yz0.kz2, Ev.zz0 (y92 o1 o2), Ev.zz1, if_pos h1]
 rw [Ev.yz1 (by simpa using h1), if_neg h1]
 by_cases h2 : e.op = 2
 ·rw [Ev.kz1 (by simpa using h2), Ev.zz1, if_pos h2]
 rw [Ev.yz1 (by simpa using h2), if_neg h2, Ev.zz0 zw9]
 by_cases h3 : 3 ≤ e.op ∧ e.op ≤ 10
 ·have hn := zi0 h3
  have hl3 := zaf e.op
  have h2' := yl1 har h3
  obtain ⟨a, b, hab⟩ : ∃ a b, e.args = [a, b] := by
   match e.args, h2' with
   | [a, b], _ => exact ⟨a, b, rfl⟩
  have ha : a ∈ e.args := by rw [hab]; simp
  have hb : b ∈ e.args := by rw [hab]; simp
  have la := zko _ (z7p hf _ ha)
  have lb := zko _ (z7p hf _ hb)
  have hpl : kzp e.args = z4d a + z4d b := by rw [hab]; simp [kzp]
  rw [Ev.kz1 (by have := List.length_pos_iff.2 hn; simp; omega), hab]
  rw [Ev.yz2 (show ix [a, b] 0 = some a by rfl), kz0.kz2, Ev.zz0 (ihx a ha), Ev.yz2 (z3r (by simp; omega)), Ev.yz2 (z3r (by simp; omega)), Ev.zz0 zw9, Ev.yz2 (z3r (by simp; omega)), Ev.yz2 (z3r (by simp; omega)),
   Ev.yz2 (show ix [a, b] 1 = some b by rfl), kz0.kz2, Ev.zz0 (ihx b hb), Ev.yz2 (z3r (by simp; omega)), Ev.yz2 (z3r (by simp; omega)), Ev.zz1]
  unfold z33 zau z0p
  rw [if_pos hn, if_pos hn, if_pos hn]
  simp [yzv]
 ·have hn := zhu h3
  have q2 : zau e.op = [44, 32] := by unfold zau; rw [if_neg (by simpa using hn)]
  rw [Ev.yz1 (by simp [hn]), kz0.kz2]
  have loop : ∀ k, k ≤ e.args.length → ∀ acc : List UInt8, acc.length + 200 * kzp (e.args.drop k) + 190 ≤ 2000000 → Ev (fun n => z4a n (k : Int) acc e) (acc ++ (yzv (zau e.op) (decide (0 < k)) (e.args.drop k) ++ z0p e.op)) :=
   down (fun acc h' => by
    rw [zjz, Ev.yz1 (by simp)]
    unfold z0p
    rw [if_neg (by simpa using hn)]
    by_cases h18 : e.op = 18
    ·rw [Ev.kz1 (by simpa using h18), Ev.yz2 (z3r (by simp; omega)), Ev.zz1, if_neg (by simpa using h18)]
     simp [yzv]
    ·rw [Ev.yz1 (by simpa using h18), Ev.yz2 (z3r (by simp; omega)), Ev.zz1, if_pos (by simpa using h18)]
     simp [yzv]) fun k hk ihk acc h' => by
    have hm := List.getElem_mem hk
    have hd : e.args.drop k = e.args[k] :: e.args.drop (k + 1) := (List.getElem_cons_drop (h := hk)).symm
    rw [hd] at h' ⊢
    rw [kzp] at h'
    have hx := zko _ (z7p hf _ hm)
    have l2 : ∀ acc'' : List UInt8, acc''.length + 200 * z4d e.args[k] + 200 * kzp (e.args.drop (k + 1)) + 185 ≤ 2000000 → Ev (fun n => z44 n (k : Int) acc'' e) (acc'' ++ (z0l e.args[k] ++ (yzv (zau e.op) true (e.args.drop (k + 1)) ++ z0p e.op))) := fun acc'' g1 => by
     rw [zv2, Ev.yz2 (yzb hk), kz0.kz2, Ev.zz0 (ihx _ hm), Ev.yz2 (z3r (by omega)), wrk (by omega), kz0.kz2]
     have := ihk (acc'' ++ z0l e.args[k]) (by simp; omega)
     rw [show decide (0 < k + 1) = true by simp] at this
     refine this.to ?_
     simp
    rw [zjz, Ev.kz1 (by simpa using hk), yzv]
    by_cases hk0 : 0 < k
    ·rw [Ev.kz1 (by simpa using hk0), Ev.yz2 (z3r (by simp; omega)), kz0.kz2, ← q2]
     refine (l2 (acc ++ zau e.op) (by rw [q2]; simp; omega)).to ?_
     simp [hk0]
    ·rw [Ev.yz1 (by simpa using hk0), kz0.kz2]
     refine (l2 acc (by omega)).to ?_
     simp [hk0]
  have l0 : Ev (fun n => z42 n (z33 e.op) e) (z33 e.op ++ (yzv (zau e.op) false e.args ++ z0p e.op)) := by
   have q1 := zkt e.op
   rw [zun, kz0.kz2]
   refine (loop 0 (Nat.zero_le _) (z33 e.op) (by simp; omega)).to ?_
   simp
  by_cases h18 : e.op = 18
  ·have e3 : [91] = z33 e.op := by unfold z33; rw [if_neg (by simpa using hn), if_neg (by simpa using h18)]
   rw [Ev.yz1 (by simpa using h18), e3]
   exact l0
  ·have hcl := zf1 e.op
   have e3 : z4p e.op ++ [40] = z33 e.op := by unfold z33; rw [if_neg (by simpa using hn), if_pos (by simpa using h18)]
   rw [Ev.kz1 (by simpa using h18), Ev.zz0 zqg, Ev.yz2 (z3r (by simp; omega)), e3]
   exact l0
noncomputable def zsc (e : kz0) : List UInt8 × Int := if z98 e ≠ 0 then ([], z98 e) else if 4000 < (z0l e).length then ([], 4) else (z0l e, 0)
theorem y1h {e : kz0} (hw : e.wf) (hs : e.size ≤ 8388608) : Ev (fun n => z6p n e) (zsc e) := by
 unfold zsc
 rw [zq4, kz0.kz2, Ev.zz0 (zps hw hs)]
 by_cases hc : z98 e = 0
 ·obtain ⟨hf, hp, _⟩ := zj4 hc
  have h := zwc e hw hs hf [] (by simp; omega)
  rw [z8w, List.nil_append] at h
  rw [Ev.yz1 (by simpa using hc), Ev.zz0 h, Ev.zz0 ys4, if_neg (by simpa using hc)]
  by_cases hl : 4000 < (z0l e).length
  ·rw [Ev.kz1 (by simp; omega), Ev.zz1, if_pos hl]
  ·rw [Ev.yz1 (by simp; omega), Ev.zz0 ypp, Ev.zz1, if_neg hl]
 ·rw [Ev.kz1 (by simpa using hc), Ev.zz1, if_pos (by simpa using hc)]
theorem ykz {e : kz0} (hs : e.size ≤ 8388608) : Ev (fun n => zbu n e) (zsc e) := by
 unfold zsc
 rw [y9u, kz0.kz2, Ev.zz0 (zin hs)]
 by_cases hc : z98 e = 0
 ·obtain ⟨hf, hp, _⟩ := zj4 hc
  rw [Ev.yz1 (by simpa using hc), Ev.zz0 (y8e e hs hf (by omega)), if_neg (by simpa using hc)]
  by_cases hl : 4000 < (z0l e).length
  ·rw [Ev.kz1 (by simp; omega), Ev.zz1, if_pos hl]
  ·rw [Ev.yz1 (by simp; omega), Ev.zz1, if_neg hl]
 ·rw [Ev.kz1 (by simpa using hc), Ev.zz0 (zin hs), Ev.zz1, if_pos (by simpa using hc)]
end Go.Proofs.YtfhpamcehnfhoaaGreatDoor


namespace Go.Proofs.YtfhpamcehnfhoaaGreatDoor
open Go Go.Ab
set_option linter.unusedVariables false
set_option linter.unusedSimpArgs false
theorem zxg {p s : List UInt8} : p.isPrefixOf s = (s.take p.length == p) := by
 rw [Bool.eq_iff_iff, List.isPrefixOf_iff_prefix, List.prefix_iff_eq_take, beq_iff_eq]
 exact eq_comm
theorem hasPrefix {s p : List UInt8} : Ev (fun n => kz6 n s p) (p.isPrefixOf s) := by
 rw [z9a, zxg]
 by_cases h : p.length ≤ s.length
 ·rw [Ev.kz1 (by simp; omega), Ev.yz2 (zd7 h), Ev.zz1]
 ·rw [Ev.yz1 (by simp; omega), Ev.zz1, eq_comm, beq_eq_false_iff_ne]
  intro e
  have := congrArg List.length e
  simp at this; omega
theorem zpr {s p : List UInt8} : Ev (fun n => z0j n s p) (p.isPrefixOf s) := by rw [zix, Ev.zz0 hasPrefix, Ev.zz1]
theorem zxt {p s : List UInt8} (h : p.isPrefixOf s = true) : p.length ≤ s.length := by
 rw [List.isPrefixOf_iff_prefix] at h; exact h.length_le
theorem zop {s p : List UInt8} : Ev (fun n => yzy n s p) (if p.isPrefixOf s then s.drop p.length else s, p.isPrefixOf s) := by
 have h : Ev (fun n => zze n s p) (if p.isPrefixOf s then s.drop p.length else s, p.isPrefixOf s) := by
  rw [z9b, Ev.zz0 hasPrefix]
  cases hp : p.isPrefixOf s
  ·rw [Ev.kz1 (by rfl), Ev.zz1]; rfl
  ·rw [Ev.yz1 (by rfl), Ev.yz2 (zbc (zxt hp) (Nat.le_refl _)), Ev.zz1]
   simp
 rw [zj5, Ev.zz0 h, Ev.zz1]
theorem ytd {s : List UInt8} (hl : s.length ≤ 1000000) : Ev (fun n => z7n n s [47]) (cutAt 47 s) := by
 have hi : Ev (fun n => yzp n s [47]) (Lib.indexByte s 47) := ⟨0, fun _ _ => rfl⟩
 have h : Ev (fun n => kzm n s [47]) (cutAt 47 s) := by
  rw [zc1, Ev.zz0 hi, zy7]
  cases ha : s.any (· == 47)
  ·rw [ymv ha, Ev.yz1 (by rfl), Ev.zz1]
  ·obtain ⟨c1, c2, c3⟩ := yos ha
   rw [if_pos rfl, Ev.kz1 (by simp), Ev.yz2 (zd7 (by omega))]
   simp only [List.length_cons, List.length_nil]
   rw [show (((0 + 1 : Nat) : Nat) : Int) = 1 by rfl, wrk (by omega), Ev.yz2 (zbc (by omega) (Nat.le_refl _)), Ev.zz1, c2]
   unfold cutAt
   rw [ha]
   simp [c3]
 rw [zsz, Ev.zz0 h, Ev.zz1]
def yqr (a : Nat) (c : UInt8) : Nat := 10 * a + (c.toNat - 48)
def val (a : Nat) (s : List UInt8) : Nat := s.foldl yqr a
theorem y4a (a : Nat) : val a [] = a := by unfold val; rw [List.foldl_nil]
theorem zyb (a : Nat) (c : UInt8) (s : List UInt8) : val a (c :: s) = val (10 * a + (c.toNat - 48)) s := by unfold val; rw [List.foldl_cons, yqr]
theorem yn6 (a : Nat) (s : List UInt8) (c : UInt8) : val a (s ++ [c]) = 10 * val a s + (c.toNat - 48) := by unfold val; rw [List.foldl_append, List.foldl_cons, List.foldl_nil, yqr]
theorem z7r {c : UInt8} : z7t c = true ↔ 48 ≤ c.toNat ∧ c.toNat ≤ 57 := by unfold z7t; simp
theorem ysb : ∀ (s : List UInt8) (a k : Nat), s.all z7t = true → a < 10 ^ k → val a s < 10 ^ (k + s.length)
 | [], a, k, _, h => by rw [y4a, List.length_nil, Nat.add_zero]; exact h
 | c :: s, a, k, hs, h => by
   simp only [List.all_cons, Bool.and_eq_true] at hs
   have hc := z7r.1 hs.1
   have := ysb s (10 * a + (c.toNat - 48)) (k + 1) hs.2 (by rw [Nat.pow_succ]; omega)
   rw [zyb, List.length_cons, show k + (s.length + 1) = k + 1 + s.length by omega]
   exact this
theorem w32i {k : Int} (h : -1000 ≤ k ∧ k ≤ 1000) : IntKind.i32.wrap k = k := IntWalk.i32_in _ (by omega)
def zrg (s : List UInt8) : Int × Bool := if s.length = 0 ∨ 10 < s.length ∨ (s.head? = some 48 ∧ 1 < s.length) then (0, false) else if s.all z7t then ((val 0 s : Nat), true) else (0, false)
theorem zxy {k : Nat} (h : k ≤ 10) : 10 ^ k ≤ 10000000000 := Nat.pow_le_pow_right (by decide) h
theorem ykj {s : List UInt8} (hs : s.length ≤ 10) : ∀ k, k ≤ s.length → ∀ a : Nat, a < 10 ^ k → Ev (fun n => z1h n (a : Int) s k) (if (s.drop k).all z7t then ((val a (s.drop k) : Nat), true) else (0, false)) :=
 down (fun a ha => by
  rw [zev, Ev.yz1 (by simp), Ev.zz1, List.drop_length, y4a]
  rfl) fun k hk ih a ha => by
  have hp := zxy (k := k) (by omega)
  have hd : s.drop k = s[k] :: s.drop (k + 1) := (List.getElem_cons_drop (h := hk)).symm
  have bad : ∀ (c : Int) (j : Nat), z7t s[k] = false → Ev (fun n => z1g n c (a : Int) true s j) (if (s.drop k).all z7t then (((val a (s.drop k) : Nat) : Int), true) else (0, false)) := fun c j hb => by
   rw [zeu, Ev.kz1 (by rfl), Ev.zz1, hd]
   simp only [List.all_cons, hb, Bool.false_and]
   rfl
  rw [zev, Ev.kz1 (by simpa using hk)]
  by_cases hlow : s[k].toNat < 128
  ·rw [zyg hk hlow]
   by_cases h48 : s[k].toNat < 48
   ·rw [Ev.kz1 (by simp; omega)]
    exact bad _ _ (by cases h : z7t s[k]; rfl; have := z7r.1 h; omega)
   ·rw [Ev.yz1 (by simp; omega)]
    by_cases h57 : 57 < s[k].toNat
    ·rw [show decide (((s[k].toNat : Nat) : Int) > 57) = true by simp; omega]
     exact bad _ _ (by cases h : z7t s[k]; rfl; have := z7r.1 h; omega)
    ·rw [show decide (((s[k].toNat : Nat) : Int) > 57) = false by simp; omega, zeu, Ev.yz1 (by rfl), w32i (by omega), wI (x := (s[k].toNat : Int) - 48) (by omega), wI (x := 10 * (a : Int)) (by omega), wI (by omega)]
     have hdig : z7t s[k] = true := z7r.2 (by omega)
     have := ih (10 * a + (s[k].toNat - 48)) (by rw [Nat.pow_succ]; omega)
     rw [show ((10 * a + (s[k].toNat - 48) : Nat) : Int) = 10 * (a : Int) + ((s[k].toNat : Int) - 48) by omega] at this
     refine this.to ?_
     rw [hd]
     simp only [List.all_cons, hdig, Bool.true_and, zyb]
  ·obtain ⟨g1, g2⟩ := yc0 hk (by omega)
   rw [Ev.yz1 (by simp; omega), show decide ((((zav s k).1 : Nat) : Int) > 57) = true by simp; omega]
   exact bad _ _ (by cases h : z7t s[k]; rfl; have := z7r.1 h; omega)
theorem zdr {s : List UInt8} : Ev (fun n => z4u n s) (zrg s) := by
 have l0 : ∀ b, (b = true ↔ (s.length = 0 ∨ 10 < s.length ∨ (s.head? = some 48 ∧ 1 < s.length))) → Ev (fun n => z05 n s b) (zrg s) := fun b hb => by
  rw [zle]
  unfold zrg
  cases b
  ·have hn : ¬ (s.length = 0 ∨ 10 < s.length ∨ (s.head? = some 48 ∧ 1 < s.length)) := fun h => by have := hb.2 h; cases this
   rw [Ev.yz1 (by rfl), if_neg hn]
   exact (ykj (by omega) 0 (Nat.zero_le _) 0 (by decide)).to (by simp)
  ·rw [Ev.kz1 (by rfl), Ev.zz1, if_pos (hb.1 rfl)]
 rw [zqv]
 by_cases h0 : s.length = 0
 ·rw [Ev.kz1 (by simpa using h0)]; exact l0 true (by simp [h0])
 rw [Ev.yz1 (by simpa using h0)]
 by_cases h10 : 10 < s.length
 ·rw [Ev.kz1 (by simp; omega)]; exact l0 true (by simp [h10])
 have hlt : 0 < s.length := by omega
 rw [Ev.yz1 (by simp; omega), Ev.yz2 (show ix s 0 = some s[0] from yzb (k := 0) hlt), b48]
 have hh : s.head? = some s[0] := by
  cases s with
  | nil => simp at hlt
  | cons c t => rfl
 by_cases h48 : s[0] = 48
 ·rw [Ev.kz1 (by simpa using h48)]
  refine l0 _ ⟨fun h => .inr (.inr ⟨by rw [hh, h48], by have := of_decide_eq_true h; omega⟩), fun h => ?_⟩
  rcases h with h | h | h
  ·omega
  ·omega
  ·exact decide_eq_true (by omega)
 ·rw [Ev.yz1 (by simpa using h48)]
  refine l0 _ ⟨fun h => (by cases h), fun h => ?_⟩
  rcases h with h | h | h
  ·omega
  ·omega
  ·rw [hh] at h; exact (h48 (Option.some.inj h.1)).elim
theorem ynz : ∀ (k u : Nat), u < 10 ^ (k + 1) → Lib.nDigits u ≤ k + 1
 | 0, u, h => by rw [Lib.nDigits_small (by simpa using h)]; exact Nat.le_refl _
 | k + 1, u, h => by
   by_cases hu : u < 10
   · rw [Lib.nDigits_small hu]; omega
   · rw [Lib.nDigits_big hu]
     have := ynz k (u / 10) (by rw [Nat.pow_succ] at h; omega)
     omega
theorem zel : ∀ u : Nat, (Lib.decDigits u).all z7t = true := by
 intro u
 induction u using Nat.strongRecOn with
 | _ u ih =>
   have hd : ∀ k, k < 10 → z7t (UInt8.ofNat (48 + k)) = true := fun k hk => z7r.2 (by rw [zkm hk]; omega)
   by_cases h : u < 10
   · rw [zkv h]; simp only [List.all_cons, List.all_nil, Bool.and_true]; exact hd u h
   · rw [zy6 h]
     simp only [List.all_append, List.all_cons, List.all_nil, Bool.and_true, Bool.and_eq_true]
     exact ⟨ih _ (by omega), hd _ (Nat.mod_lt _ (by decide))⟩
theorem zxm : ∀ u : Nat, val 0 (Lib.decDigits u) = u := by
 intro u
 induction u using Nat.strongRecOn with
 | _ u ih =>
   by_cases h : u < 10
   · rw [zkv h]; rw [zyb, y4a, zkm h]; omega
   · rw [zy6 h, yn6, ih _ (by omega), zkm (Nat.mod_lt _ (by decide))]; omega
theorem zt3 (u : Nat) : Lib.decDigits u ≠ [] := fun h => by
 have := Lib.decDigits_length u
 rw [h] at this
 have := Lib.nDigits_pos u
 simp at *; omega
theorem yr0 : ∀ u : Nat, 1 ≤ u → (Lib.decDigits u).head? ≠ some 48 := by
 intro u
 induction u using Nat.strongRecOn with
 | _ u ih =>
   intro h1
   by_cases h : u < 10
   · rw [zkv h]
     simp only [List.head?_cons, ne_eq, Option.some.injEq]
     intro e
     have := congrArg UInt8.toNat e
     rw [zkm h] at this
     simp at this; omega
   · rw [zy6 h, List.head?_append]
     have := ih (u / 10) (by omega) (by omega)
     cases hq : (Lib.decDigits (u / 10)).head? with
     | none => rw [List.head?_eq_none_iff] at hq; exact (zt3 _ hq).elim
     | some c => rw [hq] at this; simpa using this
theorem yiu {u : Nat} (h : u < 10000000000) : zrg (Lib.decDigits u) = (((u : Nat) : Int), true) := by
 have hl := Lib.decDigits_length u
 have h1 := Lib.nDigits_pos u
 have h2 := ynz 9 u (by simpa using h)
 unfold zrg
 rw [if_neg, if_pos (zel u), zxm]
 rintro (h' | h' | ⟨h', h''⟩)
 ·omega
 ·omega
 ·by_cases hu : 1 ≤ u
  ·exact yr0 u hu h'
  ·have : u = 0 := by omega
   subst this
   rw [zkv (by decide)] at h''
   simp at h''
end Go.Proofs.YtfhpamcehnfhoaaGreatDoor

