/-
  What each function comes to, by its body, by a program of this repo.
-/
import Derived.Test.YtfhpamcehnfhoaaGreatDoorLib6
import Derived.Test.YtfhpamcehnfhoaaGreatDoorOwn2
import Derived.Lib.ItoaLen
namespace Go.Proofs.YtfhpamcehnfhoaaGreatDoor
open Go Go.Ab
set_option linter.unusedVariables false
theorem zmd {r} (a0 a1) : type_of% (evS (fun n => kzt n a0 a1) r fun n => kzt.eq_2 a0 a1 n) := evS _ _ fun _ => rfl
theorem zbh {r} (a0 a1 a2) : type_of% (evS (fun n => yzl n a0 a1 a2) r fun n => yzl.eq_2 a0 a1 a2 n) := evS _ _ fun _ => rfl
theorem zky {r} (a0) : type_of% (evS (fun n => z5t n a0) r fun n => z5t.eq_2 a0 n) := evS _ _ fun _ => rfl
theorem zpq {r} (a0) : type_of% (evS (fun n => z6u n a0) r fun n => z6u.eq_2 a0 n) := evS _ _ fun _ => rfl
theorem yai {r} (a0) : type_of% (evS (fun n => zbv n a0) r fun n => zbv.eq_2 a0 n) := evS _ _ fun _ => rfl
theorem z8j {r} (a0) : type_of% (evS (fun n => z08 n a0) r fun n => z08.eq_2 a0 n) := evS _ _ fun _ => rfl
theorem zam {r} (a0 a1 a2) : type_of% (evS (fun n => yzj n a0 a1 a2) r fun n => yzj.eq_2 a0 a1 a2 n) := evS _ _ fun _ => rfl
theorem zlh {r} (a0) : type_of% (evS (fun n => z8v n a0) r fun n => z8v.eq_2 a0 n) := evS _ _ fun _ => rfl
theorem zmy {r} (a0 a1 a2) : type_of% (evS (fun n => z2m n a0 a1 a2) r fun n => z2m.eq_2 a0 a1 a2 n) := evS _ _ fun _ => rfl
theorem yak {r} (a0 a1) : type_of% (evS (fun n => z6z n a0 a1) r fun n => z6z.eq_2 a0 a1 n) := evS _ _ fun _ => rfl
theorem zys {r} (a0 a1 a2) : type_of% (evS (fun n => kzz n a0 a1 a2) r fun n => kzz.eq_2 a0 a1 a2 n) := evS _ _ fun _ => rfl
theorem zom {r} (a0 a1 a2) : type_of% (evS (fun n => z1y n a0 a1 a2) r fun n => z1y.eq_2 a0 a1 a2 n) := evS _ _ fun _ => rfl
theorem zt7 {r} (a0 a1) : type_of% (evS (fun n => z61 n a0 a1) r fun n => z61.eq_2 a0 a1 n) := evS _ _ fun _ => rfl
theorem zgk {r} (a0 a1 a2) : type_of% (evS (fun n => z0j n a0 a1 a2) r fun n => z0j.eq_2 a0 a1 a2 n) := evS _ _ fun _ => rfl
theorem zg3 {r} (a0 a1 a2) : type_of% (evS (fun n => z2l n a0 a1 a2) r fun n => z2l.eq_2 a0 a1 a2 n) := evS _ _ fun _ => rfl
theorem zrw {r} (a0) : type_of% (evS (fun n => z4h n a0) r fun n => z4h.eq_2 a0 n) := evS _ _ fun _ => rfl
theorem zgn {r} (a0 a1 a2) : type_of% (evS (fun n => z2b n a0 a1 a2) r fun n => z2b.eq_2 a0 a1 a2 n) := evS _ _ fun _ => rfl
theorem zv9 {r} (a0) : type_of% (evS (fun n => z2y n a0) r fun n => z2y.eq_2 a0 n) := evS _ _ fun _ => rfl
theorem zoo {r} (a0 a1) : type_of% (evS (fun n => z3d n a0 a1) r fun n => z3d.eq_2 a0 a1 n) := evS _ _ fun _ => rfl
theorem zns {r} (a0 a1) : type_of% (evS (fun n => z5i n a0 a1) r fun n => z5i.eq_2 a0 a1 n) := evS _ _ fun _ => rfl
theorem zi0 {r} (a0 a1 a2 a3 a4) : type_of% (evS (fun n => z11 n a0 a1 a2 a3 a4) r fun n => z11.eq_2 a0 a1 a2 a3 a4 n) := evS _ _ fun _ => rfl
theorem zaj {r} (a0 a1 a2 a3 a4 a5) : type_of% (evS (fun n => z22 n a0 a1 a2 a3 a4 a5) r fun n => z22.eq_2 a0 a1 a2 a3 a4 a5 n) := evS _ _ fun _ => rfl
theorem zhf {r} (a0 a1 a2 a3 a4 a5 a6) : type_of% (evS (fun n => z1w n a0 a1 a2 a3 a4 a5 a6) r fun n => z1w.eq_2 a0 a1 a2 a3 a4 a5 a6 n) := evS _ _ fun _ => rfl
theorem zbe {r} (a0) : type_of% (evS (fun n => zzo n a0) r fun n => zzo.eq_2 a0 n) := evS _ _ fun _ => rfl
theorem zsh {r} (a0) : type_of% (evS (fun n => z1p n a0) r fun n => z1p.eq_2 a0 n) := evS _ _ fun _ => rfl
theorem zn9 {r} (a0 a1) : type_of% (evS (fun n => z2i n a0 a1) r fun n => z2i.eq_2 a0 a1 n) := evS _ _ fun _ => rfl
theorem zyv {r} (a0) : type_of% (evS (fun n => z1x n a0) r fun n => z1x.eq_2 a0 n) := evS _ _ fun _ => rfl
theorem zux {r} (a0 a1) : type_of% (evS (fun n => z4a n a0 a1) r fun n => z4a.eq_2 a0 a1 n) := evS _ _ fun _ => rfl
theorem zjy {r} (a0 a1 a2) : type_of% (evS (fun n => z41 n a0 a1 a2) r fun n => z41.eq_2 a0 a1 a2 n) := evS _ _ fun _ => rfl
theorem zu7 {r} (a0 a1 a2) : type_of% (evS (fun n => z47 n a0 a1 a2) r fun n => z47.eq_2 a0 a1 a2 n) := evS _ _ fun _ => rfl
theorem zb1 {r} (a0) : type_of% (evS (fun n => z2f n a0) r fun n => z2f.eq_2 a0 n) := evS _ _ fun _ => rfl
theorem zvp {r} (a0 a1 a2) : type_of% (evS (fun n => zzs n a0 a1 a2) r fun n => zzs.eq_2 a0 a1 a2 n) := evS _ _ fun _ => rfl
theorem zai {r} (a0 a1 a2 a3 a4) : type_of% (evS (fun n => z6g n a0 a1 a2 a3 a4) r fun n => z6g.eq_2 a0 a1 a2 a3 a4 n) := evS _ _ fun _ => rfl
theorem zot {r} (a0 a1 a2 a3 a4) : type_of% (evS (fun n => z3b n a0 a1 a2 a3 a4) r fun n => z3b.eq_2 a0 a1 a2 a3 a4 n) := evS _ _ fun _ => rfl
theorem zdc {r} (a0 a1 a2 a3 a4 a5) : type_of% (evS (fun n => zzf n a0 a1 a2 a3 a4 a5) r fun n => zzf.eq_2 a0 a1 a2 a3 a4 a5 n) := evS _ _ fun _ => rfl
theorem zah {r} (a0 a1 a2 a3 a4 a5 a6) : type_of% (evS (fun n => z58 n a0 a1 a2 a3 a4 a5 a6) r fun n => z58.eq_2 a0 a1 a2 a3 a4 a5 a6 n) := evS _ _ fun _ => rfl
theorem zhr {r} (a0 a1 a2 a3 a4 a5) : type_of% (evS (fun n => z0x n a0 a1 a2 a3 a4 a5) r fun n => z0x.eq_2 a0 a1 a2 a3 a4 a5 n) := evS _ _ fun _ => rfl
theorem zvd {r} (a0 a1) : type_of% (evS (fun n => z19 n a0 a1) r fun n => z19.eq_2 a0 a1 n) := evS _ _ fun _ => rfl
theorem zhj {r} (a0 a1 a2) : type_of% (evS (fun n => z0a n a0 a1 a2) r fun n => z0a.eq_2 a0 a1 a2 n) := evS _ _ fun _ => rfl
theorem zh7 {r} (a0 a1 a2) : type_of% (evS (fun n => z3i n a0 a1 a2) r fun n => z3i.eq_2 a0 a1 a2 n) := evS _ _ fun _ => rfl
theorem zvs {r} (a0 a1) : type_of% (evS (fun n => z1v n a0 a1) r fun n => z1v.eq_2 a0 a1 n) := evS _ _ fun _ => rfl
theorem zi5 {r} (a0 a1 a2) : type_of% (evS (fun n => z0b n a0 a1 a2) r fun n => z0b.eq_2 a0 a1 a2 n) := evS _ _ fun _ => rfl
theorem zgy {r} (a0 a1 a2 a3) : type_of% (evS (fun n => z3q n a0 a1 a2 a3) r fun n => z3q.eq_2 a0 a1 a2 a3 n) := evS _ _ fun _ => rfl
theorem zlp {r} (a0) : type_of% (evS (fun n => z7f n a0) r fun n => z7f.eq_2 a0 n) := evS _ _ fun _ => rfl
theorem zqs {r} (a0) : type_of% (evS (fun n => z4r n a0) r fun n => z4r.eq_2 a0 n) := evS _ _ fun _ => rfl
theorem zep {r} (a0 a1 a2 a3 a4) : type_of% (evS (fun n => z1h n a0 a1 a2 a3 a4) r fun n => z1h.eq_2 a0 a1 a2 a3 a4 n) := evS _ _ fun _ => rfl
theorem zym {r} (a0) : type_of% (evS (fun n => z8a n a0) r fun n => z8a.eq_2 a0 n) := evS _ _ fun _ => rfl
theorem zqj {r} (a0 a1) : type_of% (evS (fun n => z2v n a0 a1) r fun n => z2v.eq_2 a0 a1 n) := evS _ _ fun _ => rfl
theorem zqt {r} (a0 a1) : type_of% (evS (fun n => z2u n a0 a1) r fun n => z2u.eq_2 a0 a1 n) := evS _ _ fun _ => rfl
theorem zqk {r} (a0 a1) : type_of% (evS (fun n => z4w n a0 a1) r fun n => z4w.eq_2 a0 a1 n) := evS _ _ fun _ => rfl
theorem zqo {r} (a0 a1) : type_of% (evS (fun n => z4x n a0 a1) r fun n => z4x.eq_2 a0 a1 n) := evS _ _ fun _ => rfl
theorem zqu {r} (a0) : type_of% (evS (fun n => z2x n a0) r fun n => z2x.eq_2 a0 n) := evS _ _ fun _ => rfl
theorem znw {r} (a0) : type_of% (evS (fun n => z79 n a0) r fun n => z79.eq_2 a0 n) := evS _ _ fun _ => rfl
theorem z6f {r} (a0 a1) : type_of% (evS (fun n => kz4 n a0 a1) r fun n => kz4.eq_2 a0 a1 n) := evS _ _ fun _ => rfl
theorem zpw {r} (a0) : type_of% (evS (fun n => z5s n a0) r fun n => z5s.eq_2 a0 n) := evS _ _ fun _ => rfl
theorem zjo {r} (a0 a1) : type_of% (evS (fun n => z2w n a0 a1) r fun n => z2w.eq_2 a0 a1 n) := evS _ _ fun _ => rfl
theorem zvo {r} (a0) : type_of% (evS (fun n => z6q n a0) r fun n => z6q.eq_2 a0 n) := evS _ _ fun _ => rfl
theorem zhk {r} (a0 a1 a2) : type_of% (evS (fun n => z3g n a0 a1 a2) r fun n => z3g.eq_2 a0 a1 a2 n) := evS _ _ fun _ => rfl
theorem zve {r} (a0) : type_of% (evS (fun n => z6p n a0) r fun n => z6p.eq_2 a0 n) := evS _ _ fun _ => rfl
theorem zof {r} (a0 a1) : type_of% (evS (fun n => z1z n a0 a1) r fun n => z1z.eq_2 a0 a1 n) := evS _ _ fun _ => rfl
theorem zp6 {r} (a0 a1) : type_of% (evS (fun n => z01 n a0 a1) r fun n => z01.eq_2 a0 a1 n) := evS _ _ fun _ => rfl
theorem zoc {r} (a0 a1) : type_of% (evS (fun n => z0g n a0 a1) r fun n => z0g.eq_2 a0 a1 n) := evS _ _ fun _ => rfl
theorem zhm {r} (a0 a1) : type_of% (evS (fun n => z3j n a0 a1) r fun n => z3j.eq_2 a0 a1 n) := evS _ _ fun _ => rfl
theorem y0c {r} (a0) : type_of% (evS (fun n => z6h n a0) r fun n => z6h.eq_2 a0 n) := evS _ _ fun _ => rfl
theorem zjt {r} (a0 a1 a2) : type_of% (evS (fun n => z42 n a0 a1 a2) r fun n => z42.eq_2 a0 a1 a2 n) := evS _ _ fun _ => rfl
theorem zua {r} (a0 a1 a2 a3) : type_of% (evS (fun n => z4d n a0 a1 a2 a3) r fun n => z4d.eq_2 a0 a1 a2 a3 n) := evS _ _ fun _ => rfl
theorem zu9 {r} (a0 a1 a2) : type_of% (evS (fun n => z4b n a0 a1 a2) r fun n => z4b.eq_2 a0 a1 a2 n) := evS _ _ fun _ => rfl
theorem y8w {r} (a0) : type_of% (evS (fun n => z6r n a0) r fun n => z6r.eq_2 a0 n) := evS _ _ fun _ => rfl
theorem zi8 {r} (a0 a1 a2) : type_of% (evS (fun n => z8s n a0 a1 a2) r fun n => z8s.eq_2 a0 a1 a2 n) := evS _ _ fun _ => rfl
theorem y2r {r} (a0) : type_of% (evS (fun n => z7x n a0) r fun n => z7x.eq_2 a0 n) := evS _ _ fun _ => rfl
theorem zen {r} (a0 a1 a2) : type_of% (evS (fun n => z6k n a0 a1 a2) r fun n => z6k.eq_2 a0 a1 a2 n) := evS _ _ fun _ => rfl
theorem za9 {r} (a0 a1) : type_of% (evS (fun n => yzd n a0 a1) r fun n => yzd.eq_2 a0 a1 n) := evS _ _ fun _ => rfl
theorem z0o {r} (a0 a1 a2) : type_of% (evS (fun n => yz6 n a0 a1 a2) r fun n => yz6.eq_2 a0 a1 a2 n) := evS _ _ fun _ => rfl
theorem z38 {r} (a0 a1 a2 a3 a4) : type_of% (evS (fun n => zz7 n a0 a1 a2 a3 a4) r fun n => zz7.eq_2 a0 a1 a2 a3 a4 n) := evS _ _ fun _ => rfl
theorem z5l {r} (a0 a1 a2) : type_of% (evS (fun n => z0h n a0 a1 a2) r fun n => z0h.eq_2 a0 a1 a2 n) := evS _ _ fun _ => rfl
theorem z1f {r} (a0 a1 a2 a3) : type_of% (evS (fun n => zzd n a0 a1 a2 a3) r fun n => zzd.eq_2 a0 a1 a2 a3 n) := evS _ _ fun _ => rfl
theorem yzw {r} (a0 a1 a2 a3 a4) : type_of% (evS (fun n => zz5 n a0 a1 a2 a3 a4) r fun n => zz5.eq_2 a0 a1 a2 a3 a4 n) := evS _ _ fun _ => rfl
theorem kzw {r} (a0 a1 a2 a3 a4 a5) : type_of% (evS (fun n => kzn n a0 a1 a2 a3 a4 a5) r fun n => kzn.eq_2 a0 a1 a2 a3 a4 a5 n) := evS _ _ fun _ => rfl
theorem zb2 {r} (a0 a1 a2 a3) : type_of% (evS (fun n => yzn n a0 a1 a2 a3) r fun n => yzn.eq_2 a0 a1 a2 a3 n) := evS _ _ fun _ => rfl
theorem zg1 {r} (a0) : type_of% (evS (fun n => kzq n a0) r fun n => kzq.eq_2 a0 n) := evS _ _ fun _ => rfl
theorem y6s {r} (a0 a1 a2) : type_of% (evS (fun n => zav n a0 a1 a2) r fun n => zav.eq_2 a0 a1 a2 n) := evS _ _ fun _ => rfl
theorem z9l {r} (a0 a1 a2 a3 a4 a5) : type_of% (evS (fun n => z16 n a0 a1 a2 a3 a4 a5) r fun n => z16.eq_2 a0 a1 a2 a3 a4 a5 n) := evS _ _ fun _ => rfl
theorem zmx {r} (a0 a1 a2 a3 a4 a5) : type_of% (evS (fun n => z2a n a0 a1 a2 a3 a4 a5) r fun n => z2a.eq_2 a0 a1 a2 a3 a4 a5 n) := evS _ _ fun _ => rfl
theorem zqp {r} (a0 a1 a2 a3) : type_of% (evS (fun n => z64 n a0 a1 a2 a3) r fun n => z64.eq_2 a0 a1 a2 a3 n) := evS _ _ fun _ => rfl
theorem zlz {r} (a0 a1 a2 a3 a4) : type_of% (evS (fun n => z0p n a0 a1 a2 a3 a4) r fun n => z0p.eq_2 a0 a1 a2 a3 a4 n) := evS _ _ fun _ => rfl
theorem znu {r} (a0 a1 a2) : type_of% (evS (fun n => z30 n a0 a1 a2) r fun n => z30.eq_2 a0 a1 a2 n) := evS _ _ fun _ => rfl
theorem zh1 {r} (a0 a1 a2 a3 a4 a5 a6 a7 a8 a9) : type_of% (evS (fun n => z8q n a0 a1 a2 a3 a4 a5 a6 a7 a8 a9) r fun n => z8q.eq_2 a0 a1 a2 a3 a4 a5 a6 a7 a8 a9 n) := evS _ _ fun _ => rfl
theorem y3p {r} (a0 a1 a2) : type_of% (evS (fun n => zzg n a0 a1 a2) r fun n => zzg.eq_2 a0 a1 a2 n) := evS _ _ fun _ => rfl
theorem zrq {r} (a0 a1) : type_of% (evS (fun n => z5w n a0 a1) r fun n => z5w.eq_2 a0 a1 n) := evS _ _ fun _ => rfl
theorem zg6 {r} (a0 a1 a2) : type_of% (evS (fun n => z18 n a0 a1 a2) r fun n => z18.eq_2 a0 a1 a2 n) := evS _ _ fun _ => rfl
theorem zg2 {r} (a0 a1 a2) : type_of% (evS (fun n => z2g n a0 a1 a2) r fun n => z2g.eq_2 a0 a1 a2 n) := evS _ _ fun _ => rfl
theorem zsv {r} (a0) : type_of% (evS (fun n => z4l n a0) r fun n => z4l.eq_2 a0 n) := evS _ _ fun _ => rfl
theorem zc5 {r} (a0 a1 a2) : type_of% (evS (fun n => z2c n a0 a1 a2) r fun n => z2c.eq_2 a0 a1 a2 n) := evS _ _ fun _ => rfl
theorem zby {r} (a0 a1 a2 a3) : type_of% (evS (fun n => z2d n a0 a1 a2 a3) r fun n => z2d.eq_2 a0 a1 a2 a3 n) := evS _ _ fun _ => rfl
theorem zo3 {r} (a0) : type_of% (evS (fun n => z8m n a0) r fun n => z8m.eq_2 a0 n) := evS _ _ fun _ => rfl
theorem zhl {r} (a0 a1 a2) : type_of% (evS (fun n => yzq n a0 a1 a2) r fun n => yzq.eq_2 a0 a1 a2 n) := evS _ _ fun _ => rfl
theorem zhn {r} (a0 a1 a2) : type_of% (evS (fun n => z3f n a0 a1 a2) r fun n => z3f.eq_2 a0 a1 a2 n) := evS _ _ fun _ => rfl
theorem zh6 {r} (a0 a1 a2) : type_of% (evS (fun n => z3a n a0 a1 a2) r fun n => z3a.eq_2 a0 a1 a2 n) := evS _ _ fun _ => rfl
theorem zgt {r} (a0 a1 a2) : type_of% (evS (fun n => z56 n a0 a1 a2) r fun n => z56.eq_2 a0 a1 a2 n) := evS _ _ fun _ => rfl
theorem zhu {r} : type_of% (evS (fun n => z5b n) r fun n => z5b.eq_2 n) := evS _ _ fun _ => rfl
theorem zi4 {r} (a0) : type_of% (evS (fun n => z0c n a0) r fun n => z0c.eq_2 a0 n) := evS _ _ fun _ => rfl
theorem zrj {r} (a0) : type_of% (evS (fun n => z4i n a0) r fun n => z4i.eq_2 a0 n) := evS _ _ fun _ => rfl
theorem zmz {r} (a0 a1) : type_of% (evS (fun n => z2n n a0 a1) r fun n => z2n.eq_2 a0 a1 n) := evS _ _ fun _ => rfl
theorem zv8 {r} (a0) : type_of% (evS (fun n => z8g n a0) r fun n => z8g.eq_2 a0 n) := evS _ _ fun _ => rfl
theorem z6a {r} (a0) : type_of% (evS (fun n => zzb n a0) r fun n => zzb.eq_2 a0 n) := evS _ _ fun _ => rfl
theorem zlr {r} (a0 a1) : type_of% (evS (fun n => z4m n a0 a1) r fun n => z4m.eq_2 a0 a1 n) := evS _ _ fun _ => rfl
theorem z9m {r} (a0 a1 a2) : type_of% (evS (fun n => z1c n a0 a1 a2) r fun n => z1c.eq_2 a0 a1 a2 n) := evS _ _ fun _ => rfl
theorem zgi {r} (a0 a1 a2 a3) : type_of% (evS (fun n => z1b n a0 a1 a2 a3) r fun n => z1b.eq_2 a0 a1 a2 a3 n) := evS _ _ fun _ => rfl
theorem zfv {r} (a0 a1 a2 a3) : type_of% (evS (fun n => z1d n a0 a1 a2 a3) r fun n => z1d.eq_2 a0 a1 a2 a3 n) := evS _ _ fun _ => rfl
theorem znr {r} (a0) : type_of% (evS (fun n => z8e n a0) r fun n => z8e.eq_2 a0 n) := evS _ _ fun _ => rfl
theorem zhs {r} (a0 a1) : type_of% (evS (fun n => z5d n a0 a1) r fun n => z5d.eq_2 a0 a1 n) := evS _ _ fun _ => rfl
theorem zhp {r} (a0 a1) : type_of% (evS (fun n => zzr n a0 a1) r fun n => zzr.eq_2 a0 a1 n) := evS _ _ fun _ => rfl
theorem zgx {r} (a0 a1) : type_of% (evS (fun n => z33 n a0 a1) r fun n => z33.eq_2 a0 a1 n) := evS _ _ fun _ => rfl
theorem zsu {r} (a0) : type_of% (evS (fun n => z7l n a0) r fun n => z7l.eq_2 a0 n) := evS _ _ fun _ => rfl
theorem zmn {r} (a0 a1) : type_of% (evS (fun n => z2h n a0 a1) r fun n => z2h.eq_2 a0 a1 n) := evS _ _ fun _ => rfl
theorem zt8 {r} (a0) : type_of% (evS (fun n => z7b n a0) r fun n => z7b.eq_2 a0 n) := evS _ _ fun _ => rfl
theorem yae {r} (a0) : type_of% (evS (fun n => zbp n a0) r fun n => zbp.eq_2 a0 n) := evS _ _ fun _ => rfl
theorem zdv {r} (a0 a1) : type_of% (evS (fun n => kz7 n a0 a1) r fun n => kz7.eq_2 a0 a1 n) := evS _ _ fun _ => rfl
theorem za5 {r} (a0 a1) : type_of% (evS (fun n => yzc n a0 a1) r fun n => yzc.eq_2 a0 a1 n) := evS _ _ fun _ => rfl
theorem z69 {r} (a0 a1 a2) : type_of% (evS (fun n => kza n a0 a1 a2) r fun n => kza.eq_2 a0 a1 a2 n) := evS _ _ fun _ => rfl
theorem z4f {r} (a0 a1 a2 a3) : type_of% (evS (fun n => kzf n a0 a1 a2 a3) r fun n => kzf.eq_2 a0 a1 a2 a3 n) := evS _ _ fun _ => rfl
theorem zb6 {r} (a0) : type_of% (evS (fun n => zzx n a0) r fun n => zzx.eq_2 a0 n) := evS _ _ fun _ => rfl
theorem zzm {r} (a0 a1 a2) : type_of% (evS (fun n => zzi n a0 a1 a2) r fun n => zzi.eq_2 a0 a1 a2 n) := evS _ _ fun _ => rfl
theorem z3w {r} (a0 a1 a2 a3) : type_of% (evS (fun n => zzj n a0 a1 a2 a3) r fun n => zzj.eq_2 a0 a1 a2 a3 n) := evS _ _ fun _ => rfl
theorem z3y {r} (a0 a1 a2) : type_of% (evS (fun n => kzs n a0 a1 a2) r fun n => kzs.eq_2 a0 a1 a2 n) := evS _ _ fun _ => rfl
theorem z3s {r} (a0 a1 a2) : type_of% (evS (fun n => kzi n a0 a1 a2) r fun n => kzi.eq_2 a0 a1 a2 n) := evS _ _ fun _ => rfl
theorem z3u {r} (a0 a1 a2 a3) : type_of% (evS (fun n => yzu n a0 a1 a2 a3) r fun n => yzu.eq_2 a0 a1 a2 a3 n) := evS _ _ fun _ => rfl
theorem z9d {r} (a0 a1 a2) : type_of% (evS (fun n => yz7 n a0 a1 a2) r fun n => yz7.eq_2 a0 a1 a2 n) := evS _ _ fun _ => rfl
theorem znv {r} (a0) : type_of% (evS (fun n => z6v n a0) r fun n => z6v.eq_2 a0 n) := evS _ _ fun _ => rfl
theorem z7g {r} (a0 a1) : type_of% (evS (fun n => kze n a0 a1) r fun n => kze.eq_2 a0 a1 n) := evS _ _ fun _ => rfl
theorem kzp {r} (a0 a1 a2 a3) : type_of% (evS (fun n => kz5 n a0 a1 a2 a3) r fun n => kz5.eq_2 a0 a1 a2 a3 n) := evS _ _ fun _ => rfl
theorem yiq {r} (a0) : type_of% (evS (fun n => zcd n a0) r fun n => zcd.eq_2 a0 n) := evS _ _ fun _ => rfl
theorem zqm {r} (a0 a1) : type_of% (evS (fun n => z4s n a0 a1) r fun n => z4s.eq_2 a0 a1 n) := evS _ _ fun _ => rfl
theorem z96 {r} (a0 a1 a2 a3) : type_of% (evS (fun n => zzh n a0 a1 a2 a3) r fun n => zzh.eq_2 a0 a1 a2 a3 n) := evS _ _ fun _ => rfl
theorem zeq {r} (a0 a1 a2 a3 a4) : type_of% (evS (fun n => z0r n a0 a1 a2 a3 a4) r fun n => z0r.eq_2 a0 a1 a2 a3 a4 n) := evS _ _ fun _ => rfl
theorem zw9 {r} (a0 a1 a2 a3) : type_of% (evS (fun n => z4z n a0 a1 a2 a3) r fun n => z4z.eq_2 a0 a1 a2 a3 n) := evS _ _ fun _ => rfl
theorem y30 {r} (a0 a1) : type_of% (evS (fun n => z65 n a0 a1) r fun n => z65.eq_2 a0 a1 n) := evS _ _ fun _ => rfl
theorem zl5 {r} (a0 a1 a2 a3) : type_of% (evS (fun n => z2t n a0 a1 a2 a3) r fun n => z2t.eq_2 a0 a1 a2 a3 n) := evS _ _ fun _ => rfl
theorem zaz {r} (a0 a1 a2 a3 a4) : type_of% (evS (fun n => yzh n a0 a1 a2 a3 a4) r fun n => yzh.eq_2 a0 a1 a2 a3 a4 n) := evS _ _ fun _ => rfl
theorem zoa {r} (a0) : type_of% (evS (fun n => z36 n a0) r fun n => z36.eq_2 a0 n) := evS _ _ fun _ => rfl
theorem ze2 {r} (a0 a1 a2 a3 a4) : type_of% (evS (fun n => z0v n a0 a1 a2 a3 a4) r fun n => z0v.eq_2 a0 a1 a2 a3 a4 n) := evS _ _ fun _ => rfl
theorem zjx {r} (a0 a1) : type_of% (evS (fun n => z0u n a0 a1) r fun n => z0u.eq_2 a0 a1 n) := evS _ _ fun _ => rfl
theorem zv5 {r} (a0) : type_of% (evS (fun n => z77 n a0) r fun n => z77.eq_2 a0 n) := evS _ _ fun _ => rfl
theorem zh9 {r} (a0 a1 a2) : type_of% (evS (fun n => z3c n a0 a1 a2) r fun n => z3c.eq_2 a0 a1 a2 n) := evS _ _ fun _ => rfl
theorem zi6 {r} (a0 a1 a2 a3) : type_of% (evS (fun n => z3h n a0 a1 a2 a3) r fun n => z3h.eq_2 a0 a1 a2 a3 n) := evS _ _ fun _ => rfl
theorem zgw {r} (a0 a1 a2 a3) : type_of% (evS (fun n => z3p n a0 a1 a2 a3) r fun n => z3p.eq_2 a0 a1 a2 a3 n) := evS _ _ fun _ => rfl
theorem zoj {r} (a0) : type_of% (evS (fun n => z0z n a0) r fun n => z0z.eq_2 a0 n) := evS _ _ fun _ => rfl
theorem zv3 {r} (a0) : type_of% (evS (fun n => z8l n a0) r fun n => z8l.eq_2 a0 n) := evS _ _ fun _ => rfl
theorem zhq {r} (a0 a1) : type_of% (evS (fun n => z57 n a0 a1) r fun n => z57.eq_2 a0 a1 n) := evS _ _ fun _ => rfl
theorem zhy {r} (a0 a1) : type_of% (evS (fun n => z0f n a0 a1) r fun n => z0f.eq_2 a0 a1 n) := evS _ _ fun _ => rfl
theorem zhz {r} (a0 a1 a2 a3 a4) : type_of% (evS (fun n => z35 n a0 a1 a2 a3 a4) r fun n => z35.eq_2 a0 a1 a2 a3 a4 n) := evS _ _ fun _ => rfl
theorem zi2 {r} (a0 a1 a2) : type_of% (evS (fun n => z00 n a0 a1 a2) r fun n => z00.eq_2 a0 a1 a2 n) := evS _ _ fun _ => rfl
theorem z7q {r} (a0) : type_of% (evS (fun n => kzb n a0) r fun n => kzb.eq_2 a0 n) := evS _ _ fun _ => rfl
theorem z06 {r} (a0 a1 a2) : type_of% (evS (fun n => yz8 n a0 a1 a2) r fun n => yz8.eq_2 a0 a1 a2 n) := evS _ _ fun _ => rfl
theorem zno {r} (a0) : type_of% (evS (fun n => z4k n a0) r fun n => z4k.eq_2 a0 n) := evS _ _ fun _ => rfl
theorem zau {r} (a0) : type_of% (evS (fun n => z5a n a0) r fun n => z5a.eq_2 a0 n) := evS _ _ fun _ => rfl
theorem z82 {r} (a0 a1) : type_of% (evS (fun n => zz8 n a0 a1) r fun n => zz8.eq_2 a0 a1 n) := evS _ _ fun _ => rfl
theorem z7v {r} (a0 a1) : type_of% (evS (fun n => yzg n a0 a1) r fun n => yzg.eq_2 a0 a1 n) := evS _ _ fun _ => rfl
theorem zvn {r} (a0) : type_of% (evS (fun n => z71 n a0) r fun n => z71.eq_2 a0 n) := evS _ _ fun _ => rfl
theorem zdh {r} (a0 a1 a2) : type_of% (evS (fun n => z3k n a0 a1 a2) r fun n => z3k.eq_2 a0 a1 a2 n) := evS _ _ fun _ => rfl
theorem zda {r} (a0 a1 a2 a3) : type_of% (evS (fun n => z3e n a0 a1 a2 a3) r fun n => z3e.eq_2 a0 a1 a2 a3 n) := evS _ _ fun _ => rfl
theorem zvq {r} (a0) : type_of% (evS (fun n => z6t n a0) r fun n => z6t.eq_2 a0 n) := evS _ _ fun _ => rfl
theorem zhc {r} (a0 a1) : type_of% (evS (fun n => z0d n a0 a1) r fun n => z0d.eq_2 a0 a1 n) := evS _ _ fun _ => rfl
theorem zgz {r} (a0 a1) : type_of% (evS (fun n => z39 n a0 a1) r fun n => z39.eq_2 a0 a1 n) := evS _ _ fun _ => rfl
theorem zi1 {r} (a0 a1 a2) : type_of% (evS (fun n => z3r n a0 a1 a2) r fun n => z3r.eq_2 a0 a1 a2 n) := evS _ _ fun _ => rfl
theorem zhi {r} (a0 a1) : type_of% (evS (fun n => z0y n a0 a1) r fun n => z0y.eq_2 a0 a1 n) := evS _ _ fun _ => rfl
theorem zh0 {r} (a0 a1) : type_of% (evS (fun n => z34 n a0 a1) r fun n => z34.eq_2 a0 a1 n) := evS _ _ fun _ => rfl
theorem zvh {r} (a0) : type_of% (evS (fun n => z8i n a0) r fun n => z8i.eq_2 a0 n) := evS _ _ fun _ => rfl
theorem zia {r} (a0 a1) : type_of% (evS (fun n => z03 n a0 a1) r fun n => z03.eq_2 a0 a1 n) := evS _ _ fun _ => rfl
theorem zgu {r} (a0 a1 a2) : type_of% (evS (fun n => z0e n a0 a1 a2) r fun n => z0e.eq_2 a0 a1 a2 n) := evS _ _ fun _ => rfl
theorem zld {r} (a0) : type_of% (evS (fun n => z1t n a0) r fun n => z1t.eq_2 a0 n) := evS _ _ fun _ => rfl
theorem zge {r} (a0) : type_of% (evS (fun n => kzr n a0) r fun n => kzr.eq_2 a0 n) := evS _ _ fun _ => rfl
theorem zow {r} (a0) : type_of% (evS (fun n => z02 n a0) r fun n => z02.eq_2 a0 n) := evS _ _ fun _ => rfl
theorem zu8 {r} (a0 a1) : type_of% (evS (fun n => z07 n a0 a1) r fun n => z07.eq_2 a0 a1 n) := evS _ _ fun _ => rfl
theorem ziy {r} (a0 a1) : type_of% (evS (fun n => zzy n a0 a1) r fun n => zzy.eq_2 a0 a1 n) := evS _ _ fun _ => rfl
theorem zit {r} (a0 a1) : type_of% (evS (fun n => z0m n a0 a1) r fun n => z0m.eq_2 a0 a1 n) := evS _ _ fun _ => rfl
theorem zd3 {r} (a0 a1) : type_of% (evS (fun n => kzy n a0 a1) r fun n => kzy.eq_2 a0 a1 n) := evS _ _ fun _ => rfl
theorem zcg {r} (a0) : type_of% (evS (fun n => z10 n a0) r fun n => z10.eq_2 a0 n) := evS _ _ fun _ => rfl
theorem z2e {r} (a0 a1 a2) : type_of% (evS (fun n => z0n n a0 a1 a2) r fun n => z0n.eq_2 a0 a1 a2 n) := evS _ _ fun _ => rfl
theorem yfk {r} (a0) : type_of% (evS (fun n => zd6 n a0) r fun n => zd6.eq_2 a0 n) := evS _ _ fun _ => rfl
theorem y4z {r} (a0) : type_of% (evS (fun n => zag n a0) r fun n => zag.eq_2 a0 n) := evS _ _ fun _ => rfl
theorem zmq {r} (a0 a1 a2) : type_of% (evS (fun n => z60 n a0 a1 a2) r fun n => z60.eq_2 a0 a1 a2 n) := evS _ _ fun _ => rfl
theorem zn5 {r} (a0 a1 a2 a3) : type_of% (evS (fun n => z5q n a0 a1 a2 a3) r fun n => z5q.eq_2 a0 a1 a2 a3 n) := evS _ _ fun _ => rfl
theorem zyk {r} (a0 a1 a2) : type_of% (evS (fun n => z5x n a0 a1 a2) r fun n => z5x.eq_2 a0 a1 a2 n) := evS _ _ fun _ => rfl
theorem zxd {r} (a0 a1) : type_of% (evS (fun n => z5r n a0 a1) r fun n => z5r.eq_2 a0 a1 n) := evS _ _ fun _ => rfl
theorem yjc {r} (a0) : type_of% (evS (fun n => zf5 n a0) r fun n => zf5.eq_2 a0 n) := evS _ _ fun _ => rfl
theorem zm1 {r} (a0) : type_of% (evS (fun n => z1r n a0) r fun n => z1r.eq_2 a0 n) := evS _ _ fun _ => rfl
theorem zg7 {r} (a0) : type_of% (evS (fun n => z04 n a0) r fun n => z04.eq_2 a0 n) := evS _ _ fun _ => rfl
theorem zsg {r} (a0) : type_of% (evS (fun n => z7c n a0) r fun n => z7c.eq_2 a0 n) := evS _ _ fun _ => rfl
theorem z92 {r} (a0 a1) : type_of% (evS (fun n => kzk n a0 a1) r fun n => kzk.eq_2 a0 a1 n) := evS _ _ fun _ => rfl
theorem zqi {r} (a0) : type_of% (evS (fun n => z63 n a0) r fun n => z63.eq_2 a0 n) := evS _ _ fun _ => rfl
theorem zsb {r} (a0) : type_of% (evS (fun n => z7m n a0) r fun n => z7m.eq_2 a0 n) := evS _ _ fun _ => rfl
theorem zjj {r} (a0 a1) : type_of% (evS (fun n => z4v n a0 a1) r fun n => z4v.eq_2 a0 a1 n) := evS _ _ fun _ => rfl
theorem zet {r} (a0 a1) : type_of% (evS (fun n => z0q n a0 a1) r fun n => z0q.eq_2 a0 a1 n) := evS _ _ fun _ => rfl
theorem z9a {r} (a0 a1) : type_of% (evS (fun n => zze n a0 a1) r fun n => zze.eq_2 a0 a1 n) := evS _ _ fun _ => rfl
theorem z9c {r} (a0 a1) : type_of% (evS (fun n => kz6 n a0 a1) r fun n => kz6.eq_2 a0 a1 n) := evS _ _ fun _ => rfl
theorem z6d {r} (a0 a1) : type_of% (evS (fun n => zzk n a0 a1) r fun n => zzk.eq_2 a0 a1 n) := evS _ _ fun _ => rfl
theorem za1 {r} (a0 a1 a2 a3 a4 a5 a6) : type_of% (evS (fun n => yzz n a0 a1 a2 a3 a4 a5 a6) r fun n => yzz.eq_2 a0 a1 a2 a3 a4 a5 a6 n) := evS _ _ fun _ => rfl
theorem z4g {r} (a0 a1 a2 a3 a4 a5 a6 a7) : type_of% (evS (fun n => yzk n a0 a1 a2 a3 a4 a5 a6 a7) r fun n => yzk.eq_2 a0 a1 a2 a3 a4 a5 a6 a7 n) := evS _ _ fun _ => rfl
theorem z4j {r} (a0 a1 a2 a3 a4 a5 a6 a7 a8) : type_of% (evS (fun n => zzz n a0 a1 a2 a3 a4 a5 a6 a7 a8) r fun n => zzz.eq_2 a0 a1 a2 a3 a4 a5 a6 a7 a8 n) := evS _ _ fun _ => rfl
theorem z9x {r} (a0 a1 a2 a3 a4 a5 a6 a7 a8) : type_of% (evS (fun n => yzy n a0 a1 a2 a3 a4 a5 a6 a7 a8) r fun n => yzy.eq_2 a0 a1 a2 a3 a4 a5 a6 a7 a8 n) := evS _ _ fun _ => rfl
theorem y36 {r} (a0) : type_of% (evS (fun n => z7w n a0) r fun n => z7w.eq_2 a0 n) := evS _ _ fun _ => rfl
theorem zw5 {r} (a0 a1 a2 a3) : type_of% (evS (fun n => z54 n a0 a1 a2 a3) r fun n => z54.eq_2 a0 a1 a2 a3 n) := evS _ _ fun _ => rfl
theorem zl8 {r} (a0 a1 a2) : type_of% (evS (fun n => z6i n a0 a1 a2) r fun n => z6i.eq_2 a0 a1 a2 n) := evS _ _ fun _ => rfl
theorem zm6 {r} (a0 a1 a2 a3) : type_of% (evS (fun n => z50 n a0 a1 a2 a3) r fun n => z50.eq_2 a0 a1 a2 a3 n) := evS _ _ fun _ => rfl
theorem zlo {r} (a0 a1 a2 a3 a4) : type_of% (evS (fun n => z2q n a0 a1 a2 a3 a4) r fun n => z2q.eq_2 a0 a1 a2 a3 a4 n) := evS _ _ fun _ => rfl
theorem zwc {r} (a0 a1 a2) : type_of% (evS (fun n => z1e n a0 a1 a2) r fun n => z1e.eq_2 a0 a1 a2 n) := evS _ _ fun _ => rfl
theorem znx {r} (a0) : type_of% (evS (fun n => z5j n a0) r fun n => z5j.eq_2 a0 n) := evS _ _ fun _ => rfl
theorem zq9 {r} (a0 a1) : type_of% (evS (fun n => z89 n a0 a1) r fun n => z89.eq_2 a0 a1 n) := evS _ _ fun _ => rfl
theorem zjk {r} (a0 a1) : type_of% (evS (fun n => z2z n a0 a1) r fun n => z2z.eq_2 a0 a1 n) := evS _ _ fun _ => rfl
theorem zcb {r} (a0 a1) : type_of% (evS (fun n => kz9 n a0 a1) r fun n => kz9.eq_2 a0 a1 n) := evS _ _ fun _ => rfl
theorem zbb {r} (a0) : type_of% (evS (fun n => zzl n a0) r fun n => zzl.eq_2 a0 n) := evS _ _ fun _ => rfl
theorem kzu {r} (a0 a1) : type_of% (evS (fun n => yz9 n a0 a1) r fun n => yz9.eq_2 a0 a1 n) := evS _ _ fun _ => rfl
theorem z67 {r} (a0 a1 a2) : type_of% (evS (fun n => yzi n a0 a1 a2) r fun n => yzi.eq_2 a0 a1 a2 n) := evS _ _ fun _ => rfl
theorem zdt {r} (a0 a1 a2) : type_of% (evS (fun n => yzm n a0 a1 a2) r fun n => yzm.eq_2 a0 a1 a2 n) := evS _ _ fun _ => rfl
theorem z3z {r} (a0) : type_of% (evS (fun n => zzt n a0) r fun n => zzt.eq_2 a0 n) := evS _ _ fun _ => rfl
theorem zgc {r} (a0) : type_of% (evS (fun n => z1q n a0) r fun n => z1q.eq_2 a0 n) := evS _ _ fun _ => rfl
theorem zbz {r} (a0 a1 a2 a3 a4) : type_of% (evS (fun n => z17 n a0 a1 a2 a3 a4) r fun n => z17.eq_2 a0 a1 a2 a3 a4 n) := evS _ _ fun _ => rfl
theorem z9q {r} (a0 a1 a2 a3 a4 a5) : type_of% (evS (fun n => z15 n a0 a1 a2 a3 a4 a5) r fun n => z15.eq_2 a0 a1 a2 a3 a4 a5 n) := evS _ _ fun _ => rfl
theorem z9p {r} (a0 a1 a2 a3) : type_of% (evS (fun n => z1a n a0 a1 a2 a3) r fun n => z1a.eq_2 a0 a1 a2 a3 n) := evS _ _ fun _ => rfl
theorem ztb {r} (a0 a1) : type_of% (evS (fun n => z7k n a0 a1) r fun n => z7k.eq_2 a0 a1 n) := evS _ _ fun _ => rfl
theorem zqn {r} (a0) : type_of% (evS (fun n => z4n n a0) r fun n => z4n.eq_2 a0 n) := evS _ _ fun _ => rfl
theorem zlk {r} (a0 a1) : type_of% (evS (fun n => z05 n a0 a1) r fun n => z05.eq_2 a0 a1 n) := evS _ _ fun _ => rfl
theorem zey {r} (a0 a1 a2) : type_of% (evS (fun n => z1i n a0 a1 a2) r fun n => z1i.eq_2 a0 a1 a2 n) := evS _ _ fun _ => rfl
theorem zex {r} (a0 a1 a2 a3 a4) : type_of% (evS (fun n => z1g n a0 a1 a2 a3 a4) r fun n => z1g.eq_2 a0 a1 a2 a3 a4 n) := evS _ _ fun _ => rfl
theorem zc4 {r} (a0 a1) : type_of% (evS (fun n => kzm n a0 a1) r fun n => kzm.eq_2 a0 a1 n) := evS _ _ fun _ => rfl
end Go.Proofs.YtfhpamcehnfhoaaGreatDoor


namespace Go.Proofs.YtfhpamcehnfhoaaGreatDoor
open Go Go.Ab
set_option linter.unusedVariables false
theorem zpd {α : Type} {x y : List α} (h : x.length + y.length ≤ 268435456) : ext x y = some (x ++ y) := by unfold ext; rw [if_pos (by simpa [zc3] using h)]
set_option linter.unusedSimpArgs false
def I64 (x : Int) : Prop := -9223372036854775808 ≤ x ∧ x ≤ 9223372036854775807
theorem zl1 {x : Int} (h : I64 x) : Ev (fun n => z5j n x) (x.natAbs : Int) := by
 unfold I64 at h
 rw [znx]
 simp only [Ev.pif, Ev.zz1, decide_eq_true_eq]
 split
 ·rw [wUn (x := x) (by omega), wUn (by omega)]; omega
 ·rw [wU (by omega)]; omega
theorem zx1 : ∀ (b a : Nat), Ev (fun n => z2z n (b : Int) (a : Int)) (Nat.gcd a b : Int) := by
 intro b
 induction b using Nat.strongRecOn with
 | ind b ih =>
   intro a
   rw [zjk]
   by_cases hb : b = 0
   · subst hb
     simp [Ev.pif, Ev.zz1]
   · have hm : rem .u64 (a : Int) (b : Int) = some ((a % b : Nat) : Int) := by
       unfold rem; rw [if_neg (by omega), Int.tmod_eq_emod_of_nonneg (by omega)]; simp
     rw [Ev.kz1 (by simpa using hb), Ev.yz2 hm]
     have := ih (a % b) (Nat.mod_lt _ (by omega)) b
     rw [Nat.gcd_comm a b, Nat.gcd_rec b a, Nat.gcd_comm]
     exact this
theorem y1i {a b : Nat} : Ev (fun n => z89 n (a : Int) (b : Int)) (Nat.gcd a b : Int) := by
 rw [zq9]; exact zx1 b a
def rok (r : zz2) : Bool := decide (1 ≤ r.den) && decide (r.den ≤ 1000000000) && decide (r.num.natAbs ≤ 1000000000) && (Nat.gcd r.num.natAbs r.den.natAbs == 1)
theorem z68 {r : zz2} : rok r = true ↔ 1 ≤ r.den ∧ r.den ≤ 1000000000 ∧ r.num.natAbs ≤ 1000000000 ∧ Nat.gcd r.num.natAbs r.den.natAbs = 1 := by
 simp [rok, and_assoc]
theorem zfb {r : zz2} (h : I64 r.num) : Ev (fun n => z1r n r) (if rok r then 0 else 8) := by
 have l0 : ∀ b, Ev (fun n => z04 n b) (if b then 8 else 0) := fun b => by
  rw [zg7]; cases b <;> simp [Ev.pif, Ev.zz1]
 rw [zm1]
 simp only [Ev.pif, decide_eq_true_eq]
 split
 ·refine (l0 _).to ?_; rw [if_pos rfl, if_neg]; rw [z68]; omega
 split
 ·refine (l0 _).to ?_; rw [if_pos rfl, if_neg]; rw [z68]; omega
 rw [Ev.zz0 (zl1 h)]
 simp only [Ev.pif, decide_eq_true_eq]
 split
 ·refine (l0 _).to ?_; rw [if_pos rfl, if_neg]; rw [z68]; omega
 rw [Ev.zz0 (zl1 h), wU (by omega)]
 have hd : r.den = (r.den.natAbs : Int) := by omega
 rw [hd, Ev.zz0 y1i]
 refine (l0 _).to ?_
 have : ((((Nat.gcd r.num.natAbs r.den.natAbs : Nat) : Int) != 1) = true) ↔ ¬ rok r = true := by
  rw [z68]
  simp only [bne_iff_ne, ne_eq]
  omega
 by_cases hr : rok r = true
 ·rw [if_neg (by rw [this]; simpa using hr), if_pos hr]
 ·rw [if_pos (by rw [this]; exact hr), if_neg hr]
theorem y81 (a b : Int) : Nat.gcd a.natAbs b.natAbs = Nat.gcd b.natAbs (a.tmod b).natAbs := by
 rw [Int.natAbs_tmod, Nat.gcd_comm a.natAbs, Nat.gcd_rec b.natAbs a.natAbs, Nat.gcd_comm]
theorem zo4 : ∀ (m : Nat) (b a : Int), b.natAbs = m → I64 a → I64 b → ¬ a = -9223372036854775808 → ¬ b = -9223372036854775808 → Ev (fun n => z0q n b a) (Nat.gcd a.natAbs b.natAbs : Int) := by
 intro m
 induction m using Nat.strongRecOn with
 | ind m ih =>
   intro b a hm ha hb ha0 hb0
   unfold I64 at ha hb
   rw [zet]
   by_cases h0 : b = 0
   · subst h0
     simp only [Ev.pif, Ev.zz1, decide_eq_true_eq]
     rw [if_neg (by simp)]
     split
     · rw [wI (by omega)]; simp; omega
     · simp; omega
   · have hr : rem .i64 a b = some (a.tmod b) := by unfold rem; rw [if_neg h0]
     have h1 : (a.tmod b).natAbs < b.natAbs := by rw [Int.natAbs_tmod]; exact Nat.mod_lt _ (by omega)
     rw [Ev.kz1 (by simpa using h0), Ev.yz2 hr]
     have := ih _ (by rw [← hm]; exact h1) (a.tmod b) b rfl hb (by unfold I64; omega) hb0 (by omega)
     rw [y81 a b]
     exact this
theorem zpt {a b : Int} (ha : I64 a) (hb : I64 b) (ha0 : ¬ a = -9223372036854775808) (hb0 : ¬ b = -9223372036854775808) : Ev (fun n => z4v n a b) (Nat.gcd a.natAbs b.natAbs : Int) := by
 rw [zjj]; exact zo4 _ b a rfl ha hb ha0 hb0
theorem zmu {r : zz2} : Ev (fun n => z1t n r) (if rok r then 0 else 8) := by
 have l0 : ∀ b, Ev (fun n => kzr n b) (if b then 8 else 0) := fun b => by
  rw [zge]; cases b <;> simp [Ev.pif, Ev.zz1]
 rw [zld]
 simp only [Ev.pif, decide_eq_true_eq]
 split
 ·refine (l0 _).to ?_; rw [if_pos rfl, if_neg]; rw [z68]; omega
 split
 ·refine (l0 _).to ?_; rw [if_pos rfl, if_neg]; rw [z68]; omega
 split
 ·refine (l0 _).to ?_; rw [if_pos rfl, if_neg]; rw [z68]; omega
 split
 ·refine (l0 _).to ?_; rw [if_pos rfl, if_neg]; rw [z68]; omega
 rw [Ev.zz0 (zpt (by unfold I64; omega) (by unfold I64; omega) (by omega) (by omega))]
 refine (l0 _).to ?_
 have : ((((Nat.gcd r.num.natAbs r.den.natAbs : Nat) : Int) != 1) = true) ↔ ¬ rok r = true := by
  rw [z68]
  simp only [bne_iff_ne, ne_eq]
  omega
 by_cases hr : rok r = true
 ·rw [if_neg (by rw [this]; simpa using hr), if_pos hr]
 ·rw [if_pos (by rw [this]; exact hr), if_neg hr]
theorem ytx {k : IntKind} {a b : Nat} (hk : ∀ c : Nat, c ≤ a → k.wrap (c : Int) = c) (hb : b ≠ 0) : quo k (a : Int) (b : Int) = some ((a / b : Nat) : Int) := by
 unfold quo
 rw [if_neg (by omega), Int.tdiv_eq_ediv_of_nonneg (by omega), ← Int.natCast_ediv, hk _ (Nat.div_le_self _ _)]
end Go.Proofs.YtfhpamcehnfhoaaGreatDoor


namespace Go.Proofs.YtfhpamcehnfhoaaGreatDoor
open Go Go.Ab
set_option linter.unusedVariables false
set_option linter.unusedSimpArgs false
def wfR (r : zz2) : Prop := I64 r.num ∧ I64 r.den
theorem zyj {r : zz2} (h : rok r = true) : (-1000000000 ≤ r.num ∧ r.num ≤ 1000000000) ∧ (-1000000000 ≤ r.den ∧ r.den ≤ 1000000000) ∧ 1 ≤ r.den := by
 rw [z68] at h; omega
end Go.Proofs.YtfhpamcehnfhoaaGreatDoor


namespace Go.Proofs.YtfhpamcehnfhoaaGreatDoor
open Go Go.Ab
set_option linter.unusedVariables false
set_option linter.unusedSimpArgs false
theorem zw4 {P : yz0 → Prop} (h : ∀ v : yz0, (∀ x, x ∈ v.list → P x) → P v) (v : yz0) : P v := h v fun x hx => zw4 h x
termination_by v
decreasing_by exact yz0.zxa hx
mutual
def zb4 : yz0 → Nat
 | ⟨k, _, _, _, l⟩ => if k = 4 then 1 + z5e l else 1
def z5e : List yz0 → Nat
 | [] => 0
 | x :: l => zb4 x + z5e l
end
mutual
def ze7 : yz0 → Nat
 | ⟨k, _, _, _, l⟩ => if k = 4 then max 1 (zjl l) else 1
def zjl : List yz0 → Nat
 | [] => 0
 | x :: l => max (1 + ze7 x) (zjl l)
end
theorem zdb (v : yz0) : zb4 v = if v.kind = 4 then 1 + z5e v.list else 1 := by cases v; rw [zb4]
theorem zor (v : yz0) : ze7 v = if v.kind = 4 then max 1 (zjl v.list) else 1 := by cases v; rw [ze7]
theorem yr3 {l : List yz0} {x : yz0} (h : x ∈ l) : x.size ≤ (l.map yz0.size).sum := by
 induction l with
 | nil => cases h
 | cons y l ih =>
   rcases List.mem_cons.1 h with rfl | h
   · simp
   · have := ih h; simp; omega
theorem zak (v : yz0) : (v.list.map yz0.size).sum + v.str.length + 4 ≤ v.size := by rw [yz0.size_eq]; omega
theorem zmv {v x : yz0} (h : x ∈ v.list) : x.size ≤ v.size := by have := yr3 h; have := zak v; omega
theorem ziz (l : List yz0) : l.length ≤ (l.map yz0.size).sum := by
 induction l with
 | nil => simp
 | cons x l ih => have := zak x; simp; omega
theorem ztp : ∀ v : yz0, zb4 v ≤ v.size := zw4 fun v ih => by
 have : ∀ l : List yz0, (∀ x, x ∈ l → x ∈ v.list) → z5e l ≤ (l.map yz0.size).sum := fun l => by
  induction l with
  | nil => intro _; simp [z5e]
  | cons x l ihl =>
    intro hl
    have := ih x (hl x List.mem_cons_self)
    have := ihl fun y hy => hl y (List.mem_cons_of_mem _ hy)
    simp [z5e]; omega
 have := this v.list fun _ h => h
 have := zak v
 rw [zdb]; split <;> omega
theorem yht : ∀ v : yz0, ze7 v ≤ zb4 v := zw4 fun v ih => by
 have : ∀ l : List yz0, (∀ x, x ∈ l → x ∈ v.list) → zjl l ≤ 1 + z5e l := fun l => by
  induction l with
  | nil => intro _; simp [z5e, zjl]
  | cons x l ihl =>
    intro hl
    have := ih x (hl x List.mem_cons_self)
    have := ihl fun y hy => hl y (List.mem_cons_of_mem _ hy)
    simp [z5e, zjl]; omega
 have := this v.list fun _ h => h
 rw [zdb, zor]; split <;> omega
theorem y6h (l : List yz0) : z5e l ≤ (l.map yz0.size).sum := by
 induction l with
 | nil => simp [z5e]
 | cons x l ih => have := ztp x; simp [z5e]; omega
theorem yaj : ∀ v : yz0, v.size ≤ 8388608 → Ev (fun n => z36 n v) ((zb4 v : Int), (ze7 v : Int)) := zw4 fun v ih hs => by
 have l1 : ∀ d p, Ev (fun n => z0u n d p) (p, d) := fun d p => by rw [zjx, Ev.zz1]
 have hsl := zak v
 have hlen := ziz v.list
 have loop : ∀ k, k ≤ v.list.length → ∀ d p : Nat, p + z5e (v.list.drop k) ≤ 8388609 → d ≤ 8388609 → Ev (fun n => z0v n (k : Int) (d : Int) (p : Int) v.list (v.list.length : Int)) (((p + z5e (v.list.drop k) : Nat) : Int), ((max d (zjl (v.list.drop k)) : Nat) : Int)) :=
  down (fun d p hp hd => by
   rw [ze2, Ev.yz1 (by simp)]
   refine (l1 _ _).to ?_
   simp [z5e, zjl]) fun k hk ihk d p hp hd => by
   have hx := List.getElem_mem hk
   have hsx := zmv hx
   rw [← List.getElem_cons_drop (h := hk)] at hp ⊢
   simp only [z5e, zjl] at hp ⊢
   have hpl := ztp v.list[k]
   have hdl := yht v.list[k]
   rw [ze2, Ev.kz1 (by simpa using hk), Ev.yz2 (yzb hk), yz0.kz2, Ev.zz0 (ih _ hx (by omega)), wI (x := _ + 1) (by omega), wI (x := (ze7 _ : Int) + 1) (by omega), wI (x := (p : Int) + _) (by omega)]
   have e1 : (k : Int) + 1 = ((k + 1 : Nat) : Int) := by omega
   have e2 : (ze7 v.list[k] : Int) + 1 = ((1 + ze7 v.list[k] : Nat) : Int) := by omega
   have e3 : (p : Int) + (zb4 v.list[k] : Int) = ((p + zb4 v.list[k] : Nat) : Int) := by omega
   rw [e1, e2, e3, y40]
   refine (ihk (max d (1 + ze7 v.list[k])) (p + zb4 v.list[k]) (by omega) (by omega)).to ?_
   congr 2 <;> omega
 rw [zoa]
 by_cases hk : v.kind = 4
 ·rw [Ev.kz1 (by simpa using hk)]
  have hv := y6h v.list
  have := loop 0 (Nat.zero_le _) 1 1 (by simp; omega) (by omega)
  refine this.to ?_
  rw [zdb, zor, if_pos hk, if_pos hk, List.drop_zero]
 ·rw [Ev.yz1 (by simpa using hk)]
  refine (l1 1 1).to ?_
  rw [zdb, zor, if_neg hk, if_neg hk]; rfl
theorem y2c : ∀ v : yz0, v.size ≤ 8388608 → Ev (fun n => z4l n v) (zb4 v : Int) := zw4 fun v ih hs => by
 have hsl := zak v
 have hlen := ziz v.list
 rw [zsv, yz0.kz2, zdb]
 by_cases hk : v.kind = 4
 ·rw [if_pos hk]
  have hkk : (v.kind == 4) = true := by simpa using hk
  have loop : ∀ k, k ≤ v.list.length → ∀ p : Nat, p + z5e (v.list.drop k) ≤ 8388609 → Ev (fun n => z2c n (k : Int) (p : Int) v) ((p + z5e (v.list.drop k) : Nat) : Int) :=
   down (fun p hp => by
    rw [zc5, Ev.yz1 (by simp), zby, Ev.yz1 (by rfl), Ev.zz1]
    simp [z5e]) fun k hk ihk p hp => by
    have hx := List.getElem_mem hk
    have hsx := zmv hx
    rw [← List.getElem_cons_drop (h := hk)] at hp ⊢
    simp only [z5e] at hp ⊢
    have hpl := ztp v.list[k]
    rw [zc5, Ev.kz1 (by simpa using hk), hkk, yz0.kz2, zby, Ev.kz1 (by rfl), Ev.yz2 (yzb hk), yz0.kz2, Ev.zz0 (ih _ hx (by omega)), wI (x := _ + 1) (by omega), wI (x := (p : Int) + _) (by omega)]
    have e1 : (k : Int) + 1 = ((k + 1 : Nat) : Int) := by omega
    have e3 : (p : Int) + (zb4 v.list[k] : Int) = ((p + zb4 v.list[k] : Nat) : Int) := by omega
    rw [e1, e3, yz0.kz2]
    refine (ihk (p + zb4 v.list[k]) (by omega)).to ?_
    congr 1; omega
  have hv := y6h v.list
  exact loop 0 (Nat.zero_le _) 1 (by simp; omega)
 ·rw [if_neg hk]
  have hkk : (v.kind == 4) = false := by simpa using hk
  have l1 : Ev (fun n => z2d n 0 1 false v) 1 := by rw [zby, Ev.yz1 (by rfl), Ev.zz1]
  rw [zc5, hkk, yz0.kz2, Ev.pif]
  split <;> exact l1
theorem yle : ∀ v : yz0, v.size ≤ 8388608 → Ev (fun n => z71 n v) (ze7 v : Int) := zw4 fun v ih hs => by
 have hsl := zak v
 have hlen := ziz v.list
 rw [zvn, yz0.kz2, zor]
 by_cases hk : v.kind = 4
 ·rw [if_pos hk]
  have hkk : (v.kind == 4) = true := by simpa using hk
  have loop : ∀ k, k ≤ v.list.length → ∀ p : Nat, p ≤ 8388609 → Ev (fun n => z3k n (k : Int) (p : Int) v) ((max p (zjl (v.list.drop k)) : Nat) : Int) :=
   down (fun p hp => by
    rw [zdh, Ev.yz1 (by simp), zda, Ev.yz1 (by rfl), Ev.zz1]
    simp [zjl]) fun k hk ihk p hp => by
    have hx := List.getElem_mem hk
    have hsx := zmv hx
    rw [← List.getElem_cons_drop (h := hk)]
    simp only [zjl]
    have hpl := ztp v.list[k]
    have hdl := yht v.list[k]
    rw [zdh, Ev.kz1 (by simpa using hk), hkk, yz0.kz2, zda, Ev.kz1 (by rfl), Ev.yz2 (yzb hk), yz0.kz2, Ev.zz0 (ih _ hx (by omega)), wI (x := _ + 1) (by omega), wI (x := 1 + _) (by omega)]
    have e1 : (k : Int) + 1 = ((k + 1 : Nat) : Int) := by omega
    have e3 : 1 + (ze7 v.list[k] : Int) = ((1 + ze7 v.list[k] : Nat) : Int) := by omega
    rw [e1, e3, yz0.kz2, y40]
    refine (ihk (max p (1 + ze7 v.list[k])) (by omega)).to ?_
    congr 1; omega
  exact loop 0 (Nat.zero_le _) 1 (by omega)
 ·rw [if_neg hk]
  have hkk : (v.kind == 4) = false := by simpa using hk
  have l1 : Ev (fun n => z3e n 0 1 false v) 1 := by rw [zda, Ev.yz1 (by rfl), Ev.zz1]
  rw [zdh, hkk, yz0.kz2, Ev.pif]
  split <;> exact l1
end Go.Proofs.YtfhpamcehnfhoaaGreatDoor


namespace Go.Proofs.YtfhpamcehnfhoaaGreatDoor
open Go Go.Ab
set_option linter.unusedVariables false
set_option linter.unusedSimpArgs false
def r0 : zz2 := ⟨0, 0⟩
def v0 : yz0 := ⟨0, ⟨0, 0⟩, false, [], []⟩
def zj6 (c : UInt8) : Bool := decide (32 ≤ c.toNat) && decide (c.toNat ≤ 126)
def nul (v : zz2) : Bool := v.num == 0 && v.den == 0
mutual
def z8k : yz0 → Bool
 | ⟨k, q, t, s, l⟩ =>
   if k = 1 then rok q && (!t && (s.isEmpty && l.isEmpty))
   else if k = 2 then nul q && (s.isEmpty && l.isEmpty)
   else if k = 3 then nul q && (!t && (l.isEmpty && (decide (s.length ≤ 60) && s.all zj6)))
   else if k = 4 then nul q && (!t && (s.isEmpty && zh4 l))
   else false
def zh4 : List yz0 → Bool
 | [] => true
 | x :: l => z8k x && zh4 l
end
theorem z7i (v : yz0) : z8k v =
  if v.kind = 1 then rok v.num && (!v.truth && (v.str.isEmpty && v.list.isEmpty))
  else if v.kind = 2 then nul v.num && (v.str.isEmpty && v.list.isEmpty)
  else if v.kind = 3 then nul v.num && (!v.truth && (v.list.isEmpty && (decide (v.str.length ≤ 60) && v.str.all zj6)))
  else if v.kind = 4 then nul v.num && (!v.truth && (v.str.isEmpty && zh4 v.list))
  else false := by cases v; rw [z8k]
theorem ylo (l : List yz0) : zh4 l = l.all z8k := by
 induction l with
 | nil => rfl
 | cons x l ih => simp [zh4, ih]
def z1l (v : yz0) : Int := if 100 < zb4 v ∨ 6 < ze7 v then 4 else if z8k v then 0 else 8
theorem yv2 {v : yz0} (h : v.wf) : wfR v.num := by
 rw [yz0.z99] at h
 have := h.2.1
 rw [zz2.z99] at this
 simpa [wfR, I64, IntKind.min, IntKind.max, IntKind.signed, IntKind.bits] using this
theorem ytz {v : yz0} (h : v.wf) : ∀ x ∈ v.list, x.wf := by
 rw [yz0.z99] at h; exact h.2.2.2.2
theorem zif {v : yz0} : Ev (fun n => z0z n v) (nul v.num && (!v.truth && (v.str.isEmpty && v.list.isEmpty))) := by
 rw [zoj]
 obtain ⟨k, ⟨p, q⟩, t, s, l⟩ := v
 simp only [Ev.pif, Ev.zz1, nul, Bool.and_true]
 cases p == 0 <;> cases q == 0 <;> cases t <;> cases s <;> cases l <;> simp <;> omega
theorem ylk : ∀ v : yz0, v.wf → v.size ≤ 8388608 → Ev (fun n => z77 n v) (z8k v) := zw4 fun v ih hw hs => by
 have hsl := zak v
 have hlen := ziz v.list
 rw [zv5, z7i]
 by_cases h1 : v.kind = 1
 ·rw [if_pos h1, Ev.kz1 (by simpa using h1), Ev.zz0 (zfb (yv2 hw).1)]
  cases hr : rok v.num
  ·rw [Ev.kz1 (by rfl), Ev.zz1]; rfl
  ·rw [Ev.yz1 (by rfl)]
   exact zif
 rw [if_neg h1, Ev.yz1 (by simpa using h1)]
 by_cases h2 : v.kind = 2
 ·rw [if_pos h2, Ev.kz1 (by simpa using h2)]
  exact zif
 rw [if_neg h2, Ev.yz1 (by simpa using h2)]
 by_cases h3 : v.kind = 3
 ·rw [if_pos h3, Ev.kz1 (by simpa using h3)]
  by_cases hl : v.str.length ≤ 60
  ·rw [Ev.yz1 (by simp; omega), yz0.kz2]
   have loop : ∀ w : yz0, ∀ k, k ≤ v.str.length → Ev (fun n => z3c n (k : Int) v w) ((v.str.drop k).all zj6 && (nul w.num && (!w.truth && (w.str.isEmpty && w.list.isEmpty)))) := fun w =>
    down (by
     rw [zh9, Ev.yz1 (by simp), yz0.kz2]
     simpa using zif) fun k hk ihk => by
     have bad : Ev (fun n => z3h n (k : Int) true v w) false := by rw [zi6, Ev.kz1 (by rfl), Ev.zz1]
     rw [← List.getElem_cons_drop (h := hk), List.all_cons]
     rw [zh9, Ev.kz1 (by simpa using hk), Ev.yz2 (yzb hk), yz0.kz2, yz0.kz2]
     by_cases c1 : v.str[k].toNat < 32
     ·rw [Ev.kz1 (by simp; omega)]
      refine bad.to ?_
      have : zj6 v.str[k] = false := by simp [zj6]; omega
      rw [this]; rfl
     ·rw [Ev.yz1 (by simp; omega), Ev.yz2 (yzb hk)]
      by_cases c2 : v.str[k].toNat > 126
      ·rw [show decide ((v.str[k].toNat : Int) > 126) = true by simp; omega]
       refine bad.to ?_
       have : zj6 v.str[k] = false := by simp [zj6]; omega
       rw [this]; rfl
      ·rw [show decide ((v.str[k].toNat : Int) > 126) = false by simp; omega, zi6, Ev.yz1 (by rfl), wrk (by omega), yz0.kz2, yz0.kz2]
       have : zj6 v.str[k] = true := by simp [zj6]; omega
       rw [this, Bool.true_and]
       exact ihk
   refine (loop ⟨v.kind, v.num, v.truth, [], v.list⟩ 0 (Nat.zero_le _)).to ?_
   simp only [List.drop_zero, hl, decide_true, Bool.true_and, List.isEmpty_nil]
   cases nul v.num <;> cases v.truth <;> cases v.list.isEmpty <;> cases v.str.all zj6 <;> rfl
  ·rw [Ev.kz1 (by simp; omega), Ev.zz1]
   simp [hl]
 rw [if_neg h3, Ev.yz1 (by simpa using h3)]
 by_cases h4 : v.kind = 4
 ·rw [if_pos h4, Ev.kz1 (by simpa using h4)]
  have loop : ∀ w : yz0, ∀ k, k ≤ v.list.length → Ev (fun n => z3p n (k : Int) v.list (v.list.length : Int) w) (zh4 (v.list.drop k) && (nul w.num && (!w.truth && (w.str.isEmpty && w.list.isEmpty)))) := fun w =>
   down (by
    rw [zgw, Ev.yz1 (by simp), yz0.kz2]
    simpa [zh4] using zif) fun k hk ihk => by
    have hx := List.getElem_mem hk
    have hsx := zmv hx
    rw [← List.getElem_cons_drop (h := hk), zh4]
    rw [zgw, Ev.kz1 (by simpa using hk), Ev.yz2 (yzb hk), yz0.kz2, Ev.zz0 (ih _ hx (ytz hw _ hx) (by omega))]
    cases hf : z8k v.list[k]
    ·rw [Ev.kz1 (by rfl), Ev.zz1]; rfl
    ·rw [Ev.yz1 (by rfl), wrk (by omega), yz0.kz2, Bool.true_and]
     exact ihk
  refine (loop ⟨v.kind, v.num, v.truth, v.str, []⟩ 0 (Nat.zero_le _)).to ?_
  simp only [List.drop_zero, List.isEmpty_nil, Bool.and_true]
  cases nul v.num <;> cases v.truth <;> cases v.str.isEmpty <;> cases zh4 v.list <;> rfl
 ·rw [if_neg h4, Ev.yz1 (by simpa using h4), Ev.zz1]
theorem zce {v : yz0} (hw : v.wf) (hs : v.size ≤ 8388608) : Ev (fun n => z4i n v) (z1l v) := by
 have l0 : ∀ b, Ev (fun n => z2n n b v) (if b then 4 else if z8k v then 0 else 8) := fun b => by
  rw [zmz]
  cases b
  ·rw [Ev.yz1 (by rfl), yz0.kz2, Ev.zz0 (ylk v hw hs)]
   cases z8k v
   ·rw [Ev.kz1 (by rfl), Ev.zz1]; rfl
   ·rw [Ev.yz1 (by rfl), Ev.zz1]; rfl
  ·rw [Ev.kz1 (by rfl), Ev.zz1]; rfl
 rw [zrj, yz0.kz2, Ev.zz0 (yaj v hs)]
 unfold z1l
 simp only [Ev.pif]
 by_cases h1 : 100 < zb4 v
 ·rw [if_pos (by simp; omega), if_pos (.inl h1)]; exact l0 true
 ·rw [if_neg (by simp; omega)]
  by_cases h2 : 6 < ze7 v
  ·rw [if_pos (.inr h2), show decide ((ze7 v : Int) > 6) = true by simp; omega]; exact l0 true
  ·rw [if_neg (by omega), show decide ((ze7 v : Int) > 6) = false by simp; omega]; exact l0 false
theorem ymp : ∀ v : yz0, v.size ≤ 8388608 → Ev (fun n => z6t n v) (z8k v) := zw4 fun v ih hs => by
 have hsl := zak v
 have hlen := ziz v.list
 rw [zvq, z7i]
 have hnul : ((v.num.num == 0) && ((v.num.den == 0) && true)) = nul v.num := by simp [nul]
 have hstr : ((v.str.length : Int) == 0) = v.str.isEmpty := by cases v.str <;> simp; omega
 have hlst : ((v.list.length : Int) == 0) = v.list.isEmpty := by cases v.list <;> simp; omega
 have hgt : decide ((v.list.length : Int) > 0) = !v.list.isEmpty := by cases v.list <;> simp
 have hgs : decide ((v.str.length : Int) > 0) = !v.str.isEmpty := by cases v.str <;> simp
 simp only [hnul, hstr, hlst, hgt, hgs]
 by_cases h1 : v.kind = 1
 ·rw [if_pos h1, Ev.kz1 (by simpa using h1), Ev.zz0 zmu]
  cases hr : rok v.num <;> cases ht : v.truth <;> cases hss : v.str.isEmpty <;> simp [Ev.pif, Ev.zz1]
 rw [if_neg h1, Ev.yz1 (by simpa using h1)]
 by_cases h2 : v.kind = 2
 ·rw [if_pos h2, Ev.kz1 (by simpa using h2)]
  cases hr : nul v.num <;> cases hss : v.str.isEmpty <;> simp [Ev.pif, Ev.zz1]
 rw [if_neg h2, Ev.yz1 (by simpa using h2)]
 by_cases h3 : v.kind = 3
 ·rw [if_pos h3, Ev.kz1 (by simpa using h3)]
  have bad : Ev (fun n => z0d n true v) false := by rw [zhc, Ev.kz1 (by rfl), Ev.zz1]
  have loop : ∀ k, k ≤ v.str.length → Ev (fun n => z39 n (k : Int) v) ((v.str.drop k).all zj6) :=
   down (by
    rw [zgz, Ev.yz1 (by simp), Ev.zz1]
    simp) fun k hk ihk => by
    have bad : Ev (fun n => z3r n (k : Int) true v) false := by rw [zi1, Ev.kz1 (by rfl), Ev.zz1]
    rw [← List.getElem_cons_drop (h := hk), List.all_cons]
    rw [zgz, Ev.kz1 (by simpa using hk), Ev.yz2 (yzb hk), yz0.kz2]
    by_cases c1 : v.str[k].toNat < 32
    ·rw [Ev.kz1 (by simp; omega)]
     refine bad.to ?_
     have : zj6 v.str[k] = false := by simp [zj6]; omega
     rw [this]; rfl
    ·rw [Ev.yz1 (by simp; omega), Ev.yz2 (yzb hk)]
     by_cases c2 : v.str[k].toNat > 126
     ·rw [show decide ((v.str[k].toNat : Int) > 126) = true by simp; omega]
      refine bad.to ?_
      have : zj6 v.str[k] = false := by simp [zj6]; omega
      rw [this]; rfl
     ·rw [show decide ((v.str[k].toNat : Int) > 126) = false by simp; omega, zi1, Ev.yz1 (by rfl), wrk (by omega), yz0.kz2]
      have : zj6 v.str[k] = true := by simp [zj6]; omega
      rw [this, Bool.true_and]
      exact ihk
  have good : Ev (fun n => z0d n false v) (v.str.all zj6) := by
   rw [zhc, Ev.yz1 (by rfl), yz0.kz2]; simpa using loop 0 (Nat.zero_le _)
  rw [yz0.kz2]
  cases hr : nul v.num
  ·rw [Ev.kz1 (by rfl)]; exact bad
  rw [Ev.yz1 (by rfl)]
  cases ht : v.truth
  ·rw [Ev.yz1 (by rfl)]
   cases hl : v.list.isEmpty
   ·rw [Ev.kz1 (by rfl)]; exact bad
   ·rw [Ev.yz1 (by rfl)]
    by_cases h60 : v.str.length ≤ 60
    ·rw [show decide ((v.str.length : Int) > 60) = false by simp; omega]
     simpa [h60] using good
    ·rw [show decide ((v.str.length : Int) > 60) = true by simp; omega]
     simpa [h60] using bad
  ·rw [Ev.kz1 (by rfl)]; exact bad
 rw [if_neg h3, Ev.yz1 (by simpa using h3)]
 by_cases h4 : v.kind = 4
 ·rw [if_pos h4, Ev.kz1 (by simpa using h4)]
  have bad : Ev (fun n => z0y n true v) false := by rw [zhi, Ev.kz1 (by rfl), Ev.zz1]
  have loop : ∀ k, k ≤ v.list.length → Ev (fun n => z34 n (k : Int) v) (zh4 (v.list.drop k)) :=
   down (by
    rw [zh0, Ev.yz1 (by simp), Ev.zz1]
    simp [zh4]) fun k hk ihk => by
    have hx := List.getElem_mem hk
    have hsx := zmv hx
    rw [← List.getElem_cons_drop (h := hk), zh4]
    rw [zh0, Ev.kz1 (by simpa using hk), Ev.yz2 (yzb hk), yz0.kz2, Ev.zz0 (ih _ hx (by omega))]
    cases hf : z8k v.list[k]
    ·rw [Ev.kz1 (by rfl), Ev.zz1]; rfl
    ·rw [Ev.yz1 (by rfl), wrk (by omega), yz0.kz2, Bool.true_and]
     exact ihk
  have good : Ev (fun n => z0y n false v) (zh4 v.list) := by
   rw [zhi, Ev.yz1 (by rfl), yz0.kz2]; simpa using loop 0 (Nat.zero_le _)
  rw [yz0.kz2]
  cases hr : nul v.num
  ·rw [Ev.kz1 (by rfl)]; exact bad
  rw [Ev.yz1 (by rfl)]
  cases ht : v.truth
  ·rw [Ev.yz1 (by rfl)]
   cases hl : v.str.isEmpty
   ·exact bad
   ·simpa using good
  ·rw [Ev.kz1 (by rfl)]; exact bad
 ·rw [if_neg h4, Ev.yz1 (by simpa using h4), Ev.zz1]
theorem yit {v : yz0} (hs : v.size ≤ 8388608) : Ev (fun n => z7l n v) (z1l v) := by
 have l0 : ∀ b, Ev (fun n => z2h n b v) (if b then 4 else if z8k v then 0 else 8) := fun b => by
  rw [zmn]
  cases b
  ·rw [Ev.yz1 (by rfl), yz0.kz2, Ev.zz0 (ymp v hs)]
   cases z8k v
   ·rw [Ev.kz1 (by rfl), Ev.zz1]; rfl
   ·rw [Ev.yz1 (by rfl), Ev.zz1]; rfl
  ·rw [Ev.kz1 (by rfl), Ev.zz1]; rfl
 rw [zsu, yz0.kz2, Ev.zz0 (y2c v hs)]
 unfold z1l
 by_cases h1 : 100 < zb4 v
 ·rw [Ev.kz1 (by simp; omega), if_pos (.inl h1)]; exact l0 true
 ·rw [Ev.yz1 (by simp; omega), Ev.zz0 (yle v hs)]
  by_cases h2 : 6 < ze7 v
  ·rw [if_pos (.inr h2), show decide ((ze7 v : Int) > 6) = true by simp; omega]; exact l0 true
  ·rw [if_neg (by omega), show decide ((ze7 v : Int) > 6) = false by simp; omega]; exact l0 false
end Go.Proofs.YtfhpamcehnfhoaaGreatDoor


namespace Go.Proofs.YtfhpamcehnfhoaaGreatDoor
open Go Go.Ab
set_option linter.unusedVariables false
set_option linter.unusedSimpArgs false
theorem vext {a b : yz0} (h1 : a.kind = b.kind) (h2 : a.num.num = b.num.num) (h3 : a.num.den = b.num.den) (h4 : a.truth = b.truth) (h5 : a.str = b.str) (h6 : a.list = b.list) : a = b := by
 obtain ⟨k, ⟨p, q⟩, t, s, l⟩ := a
 obtain ⟨k', ⟨p', q'⟩, t', s', l'⟩ := b
 simp_all
theorem yjk {α : Type} {x y : α} {l m : List α} : eqB (x :: l) (y :: m) = (eqB x y && eqB l m) := by
 cases h : (eqB x y && eqB l m)
 ·rw [zdj]; intro hh; injection hh with h1 h2
  rw [Bool.and_eq_false_iff, zdj, zdj] at h
  exact h.elim (fun h => h h1) (fun h => h h2)
 ·rw [zbj]
  rw [Bool.and_eq_true, zbj, zbj] at h
  rw [h.1, h.2]
theorem y52 : ∀ a b : yz0, a.size ≤ 8388608 → Ev (fun n => z1v n a b) (eqB a b) := zw4 (P := fun a => ∀ b : yz0, a.size ≤ 8388608 → Ev (fun n => z1v n a b) (eqB a b)) fun a ih b hs => by
 have hsl := zak a
 have hlen := ziz a.list
 have bad : a ≠ b → Ev (fun n => z0b n true b a) (eqB a b) := fun h => by rw [zi5, Ev.kz1 (by rfl), Ev.zz1, zdj.2 h]
 rw [zvs, yz0.kz2, yz0.kz2]
 by_cases h1 : a.kind = b.kind
 case neg => rw [Ev.kz1 (by simpa using h1)]; exact bad fun h => h1 (by rw [h])
 rw [Ev.yz1 (by simpa using h1)]
 by_cases h2 : a.num.num = b.num.num ∧ a.num.den = b.num.den
 case neg => rw [Ev.kz1 (by simp; omega)]; exact bad fun h => h2 (by rw [h]; exact ⟨rfl, rfl⟩)
 rw [Ev.yz1 (by simp [h2])]
 by_cases h3 : a.truth = b.truth
 case neg => rw [Ev.kz1 (by simpa using h3)]; exact bad fun h => h3 (by rw [h])
 rw [Ev.yz1 (by simp [h3])]
 by_cases h4 : a.str = b.str
 case neg => rw [Ev.kz1 (by simpa using h4)]; exact bad fun h => h4 (by rw [h])
 rw [Ev.yz1 (by simp [h4])]
 by_cases h5 : a.list.length = b.list.length
 case neg => rw [show ((a.list.length : Int) != (b.list.length : Int)) = true by simp; omega]; exact bad fun h => h5 (by rw [h])
 rw [show ((a.list.length : Int) != (b.list.length : Int)) = false by simp; omega, zi5, Ev.yz1 (by rfl), yz0.kz2, yz0.kz2]
 have loop : ∀ k, k ≤ a.list.length → Ev (fun n => z3q n (k : Int) (a.list.length : Int) b a) (eqB (a.list.drop k) (b.list.drop k)) :=
  down (by
   rw [zgy, Ev.yz1 (by simp), Ev.zz1, List.drop_length, h5, List.drop_length, yop]) fun k hk ihk => by
   have hk2 : k < b.list.length := by omega
   have hx := List.getElem_mem hk
   have hsx := zmv hx
   rw [← List.getElem_cons_drop (h := hk), ← List.getElem_cons_drop (h := hk2), yjk]
   rw [zgy, Ev.kz1 (by simpa using hk), Ev.yz2 (yzb hk), Ev.yz2 (yzb hk2), yz0.kz2, yz0.kz2, Ev.zz0 (ih _ hx _ (by omega))]
   cases hf : eqB a.list[k] b.list[k]
   ·rw [Ev.kz1 (by rfl), Ev.zz1]; rfl
   ·rw [Ev.yz1 (by rfl), wrk (by omega), yz0.kz2, yz0.kz2, Bool.true_and]
    exact ihk
 refine (loop 0 (Nat.zero_le _)).to ?_
 rw [List.drop_zero, List.drop_zero]
 by_cases h6 : a.list = b.list
 ·rw [zbj.2 h6, zbj.2 (vext h1 h2.1 h2.2 h3 h4 h6)]
 ·rw [zdj.2 h6, zdj.2 fun h => h6 (by rw [h])]
theorem y5x : ∀ a b : yz0, a.size ≤ 8388608 → Ev (fun n => z19 n a b) (eqB a b) := zw4 (P := fun a => ∀ b : yz0, a.size ≤ 8388608 → Ev (fun n => z19 n a b) (eqB a b)) fun a ih b hs => by
 have hsl := zak a
 have hlen := ziz a.list
 have bad : a ≠ b → Ev (fun n => z0a n true b a) (eqB a b) := fun h => by rw [zhj, Ev.kz1 (by rfl), Ev.zz1, zdj.2 h]
 rw [zvd, yz0.kz2, yz0.kz2]
 by_cases h1 : a.kind = b.kind
 case neg => rw [Ev.kz1 (by simpa using h1)]; exact bad fun h => h1 (by rw [h])
 rw [Ev.yz1 (by simpa using h1)]
 by_cases h2 : a.num.num = b.num.num ∧ a.num.den = b.num.den
 case neg => rw [Ev.kz1 (by simp; omega)]; exact bad fun h => h2 (by rw [h]; exact ⟨rfl, rfl⟩)
 rw [Ev.yz1 (by simp [h2])]
 by_cases h3 : a.truth = b.truth
 case neg => rw [Ev.kz1 (by simpa using h3)]; exact bad fun h => h3 (by rw [h])
 rw [Ev.yz1 (by simp [h3])]
 by_cases h4 : a.str = b.str
 case neg => rw [Ev.kz1 (by simpa using h4)]; exact bad fun h => h4 (by rw [h])
 rw [Ev.yz1 (by simp [h4])]
 by_cases h5 : a.list.length = b.list.length
 case neg => rw [show ((a.list.length : Int) != (b.list.length : Int)) = true by simp; omega]; exact bad fun h => h5 (by rw [h])
 rw [show ((a.list.length : Int) != (b.list.length : Int)) = false by simp; omega, zhj, Ev.yz1 (by rfl), yz0.kz2, yz0.kz2]
 have loop : ∀ k, k ≤ a.list.length → Ev (fun n => z3i n (k : Int) b a) (eqB (a.list.drop k) (b.list.drop k)) :=
  down (by
   rw [zh7, Ev.yz1 (by simp), Ev.zz1, List.drop_length, h5, List.drop_length, yop]) fun k hk ihk => by
   have hk2 : k < b.list.length := by omega
   have hx := List.getElem_mem hk
   have hsx := zmv hx
   rw [← List.getElem_cons_drop (h := hk), ← List.getElem_cons_drop (h := hk2), yjk]
   rw [zh7, Ev.kz1 (by simpa using hk), Ev.yz2 (yzb hk), Ev.yz2 (yzb hk2), yz0.kz2, yz0.kz2, Ev.zz0 (ih _ hx _ (by omega))]
   cases hf : eqB a.list[k] b.list[k]
   ·rw [Ev.kz1 (by rfl), Ev.zz1]; rfl
   ·rw [Ev.yz1 (by rfl), wrk (by omega), yz0.kz2, yz0.kz2, Bool.true_and]
    exact ihk
 refine (loop 0 (Nat.zero_le _)).to ?_
 rw [List.drop_zero, List.drop_zero]
 by_cases h6 : a.list = b.list
 ·rw [zbj.2 h6, zbj.2 (vext h1 h2.1 h2.2 h3 h4 h6)]
 ·rw [zdj.2 h6, zdj.2 fun h => h6 (by rw [h])]
theorem yig : ∀ v : yz0, v.size ≤ 8388608 → ∀ d : Int, ∃ b, Ev (fun n => z5w n v d) b := zw4 fun v ih hs d => by
 have hsl := zak v
 have hlen := ziz v.list
 have loop : ∀ k, k ≤ v.list.length → ∀ d : Int, ∃ b, Ev (fun n => z2g n (k : Int) d v) b :=
  down (fun d => ⟨false, by rw [zg2, Ev.yz1 (by simp), Ev.zz1]⟩) fun k hk ihk d => by
   have hx := List.getElem_mem hk
   have hsx := zmv hx
   obtain ⟨b, hb⟩ := ih _ hx (by omega) (IntKind.i64.wrap (d - 1))
   obtain ⟨c, hc⟩ := ihk d
   refine ⟨if b then true else c, ?_⟩
   rw [zg2, Ev.kz1 (by simpa using hk), Ev.yz2 (yzb hk), yz0.kz2, Ev.zz0 hb, yz0.kz2, wrk (by omega)]
   cases b
   ·rw [Ev.yz1 (by rfl)]; exact hc
   ·rw [Ev.kz1 (by rfl), Ev.zz1]; rfl
 have l0 : ∀ d b, ∃ c, Ev (fun n => z18 n d b v) c := fun d b => by
  cases b
  ·obtain ⟨c, hc⟩ := loop 0 (Nat.zero_le _) d
   exact ⟨c, by rw [zg6, Ev.yz1 (by rfl), yz0.kz2]; exact hc⟩
  ·exact ⟨true, by rw [zg6, Ev.kz1 (by rfl), Ev.zz1]⟩
 simp only [zrq, yz0.kz2, Ev.pif]
 split
 ·exact l0 _ _
 split
 ·exact l0 _ _
 ·exact l0 _ _
theorem yk3 {v : yz0} (hs : v.size ≤ 8388608) : ∃ b, Ev (fun n => z7f n v) b := by
 obtain ⟨b, hb⟩ := yig v hs 10
 cases b
 ·exact ⟨_, by rw [zlp, yz0.kz2, Ev.zz0 hb, Ev.yz1 (by rfl), Ev.zz0 (y2c v hs)]; exact Ev.zz1.2 rfl⟩
 ·exact ⟨true, by rw [zlp, yz0.kz2, Ev.zz0 hb, Ev.kz1 (by rfl), Ev.zz1]⟩
end Go.Proofs.YtfhpamcehnfhoaaGreatDoor


namespace Go.Proofs.YtfhpamcehnfhoaaGreatDoor
open Go Go.Ab
set_option linter.unusedVariables false
set_option linter.unusedSimpArgs false
theorem zhd {v : yz0} (h : z8k v = true) (hk : v.kind = 1) : rok v.num = true := by
 rw [z7i, if_pos hk] at h; simp only [Bool.and_eq_true] at h; exact h.1
theorem zpg {v : yz0} (h : z8k v = true) : ∀ x ∈ v.list, z8k x = true := by
 rw [z7i] at h
 split at h
 ·simp only [Bool.and_eq_true, List.isEmpty_iff] at h; rw [h.2.2.2]; intro x hx; cases hx
 split at h
 ·simp only [Bool.and_eq_true, List.isEmpty_iff] at h; rw [h.2.2]; intro x hx; cases hx
 split at h
 ·simp only [Bool.and_eq_true, List.isEmpty_iff] at h; rw [h.2.2.1]; intro x hx; cases hx
 split at h
 ·simp only [Bool.and_eq_true, ylo, List.all_eq_true] at h; exact h.2.2.2
 ·cases h
theorem z9n {v : yz0} (h : z1l v = 0) : z8k v = true ∧ zb4 v ≤ 100 ∧ ze7 v ≤ 6 := by
 unfold z1l at h
 split at h
 ·cases h
 ·split at h
  ·exact ⟨‹_›, by omega, by omega⟩
  ·cases h
theorem zcl {v : yz0} (h : z8k v = true) : v.kind = 1 ∨ v.kind = 2 ∨ v.kind = 3 ∨ v.kind = 4 := by
 rw [z7i] at h
 by_cases h1 : v.kind = 1; · exact .inl h1
 by_cases h2 : v.kind = 2; · exact .inr (.inl h2)
 by_cases h3 : v.kind = 3; · exact .inr (.inr (.inl h3))
 by_cases h4 : v.kind = 4; · exact .inr (.inr (.inr h4))
 rw [if_neg h1, if_neg h2, if_neg h3, if_neg h4] at h; cases h
theorem yra {v : yz0} (h : z8k v = true) (hk : v.kind = 4) : v.num.num = 0 ∧ v.num.den = 0 ∧ v.truth = false ∧ v.str = [] := by
 rw [z7i, if_neg (by omega), if_neg (by omega), if_neg (by omega), if_pos hk] at h
 simp only [Bool.and_eq_true, nul, beq_iff_eq, Bool.not_eq_true', List.isEmpty_iff] at h
 exact ⟨h.1.1, h.1.2, h.2.1, h.2.2.1⟩
end Go.Proofs.YtfhpamcehnfhoaaGreatDoor


namespace Go.Proofs.YtfhpamcehnfhoaaGreatDoor
open Go Go.Ab
set_option linter.unusedVariables false
set_option linter.unusedSimpArgs false
theorem yla {s : List UInt8} (hs : s.length ≤ 8388608) : Ev (fun n => z8l n s) (z9w s) := by
 have l3t : ∀ q, Ev (fun n => z00 n true s q) false := fun q => by rw [zi2, Ev.kz1 (by rfl), Ev.zz1]
 have step : ∀ k (hk : k < s.length) (r : Bool), ((if k = 0 then isLet s[k] else z1j s[k]) = false → r = false) → ((if k = 0 then isLet s[k] else z1j s[k]) = true → Ev (fun n => z0f n s (k + 1)) r) → Ev (fun n => z0f n s k) r := fun k hk r hf ht => by
  have l3 : ∀ b, (if k = 0 then isLet s[k] else z1j s[k]) = !b → (b = false → (zat s k).2 = 1) → Ev (fun n => z00 n b s (k + (zat s k).2)) r := fun b hb h1 => by
   cases b
   ·rw [zi2, Ev.yz1 (by rfl), h1 rfl]; exact ht hb
   ·exact (l3t _).to (hf hb).symm
  rw [zhy, Ev.kz1 (by simpa using hk)]
  by_cases hlow : s[k].toNat < 128
  ·have hd := zyh hk hlow
   rw [hd] at l3
   rw [hd]
   have l2 : ∀ b, b = isLet s[k] → Ev (fun n => z35 n (s[k].toNat : Int) (k : Int) b s (k + 1)) r := fun b hb => by
    subst hb
    rw [zhz]
    cases hl : isLet s[k]
    ·rw [Ev.kz1 (by rfl)]
     by_cases h0 : k = 0
     ·rw [Ev.kz1 (by simpa using h0)]
      exact l3 true (by rw [if_pos h0, hl]; rfl) (by simp)
     ·rw [Ev.yz1 (by simpa using h0)]
      by_cases h45 : s[k].toNat = 45
      ·have : s[k] = 45 := UInt8.toNat_inj.1 (by simpa using h45)
       rw [Ev.yz1 (by simp; omega)]
       exact l3 false (by rw [if_neg h0, z1j, this]; rfl) (fun _ => rfl)
      ·have hne : (s[k] == 45) = false := by
        simp only [beq_eq_false_iff_ne]; intro h; rw [h] at h45; exact h45 rfl
       rw [Ev.kz1 (by simp; omega)]
       by_cases c1 : s[k].toNat < 48
       ·rw [Ev.kz1 (by simp; omega)]
        refine l3 true ?_ (by simp)
        rw [if_neg h0, z1j, hl, hne, z7u]; simp; omega
       ·rw [Ev.yz1 (by simp; omega)]
        refine l3 _ ?_ (fun _ => rfl)
        rw [if_neg h0, z1j, hl, hne, z7u]
        have e1 : decide (48 ≤ s[k].toNat) = true := by rw [decide_eq_true_eq]; omega
        have e3 : decide ((s[k].toNat : Int) > 57) = !decide (s[k].toNat ≤ 57) := by
         by_cases c2 : s[k].toNat ≤ 57
         ·rw [show decide (s[k].toNat ≤ 57) = true by rw [decide_eq_true_eq]; exact c2]
          simp only [Bool.not_true, decide_eq_false_iff_not]; omega
         ·rw [show decide (s[k].toNat ≤ 57) = false by rw [decide_eq_false_iff_not]; exact c2]
          simp only [Bool.not_false, decide_eq_true_eq]; omega
        rw [e1, e3]; simp
    ·rw [Ev.yz1 (by rfl)]
     refine l3 false ?_ (fun _ => rfl)
     split
     ·exact hl
     ·rw [z1j, hl]; rfl
   simp only
   by_cases c1 : 97 ≤ s[k].toNat
   ·rw [Ev.kz1 (by simp; omega)]
    exact l2 _ (by simp [isLet, c1]; omega)
   ·rw [Ev.yz1 (by simp; omega)]
    exact l2 _ (by simp [isLet]; omega)
  ·obtain ⟨h1, h2⟩ := yce hk (by omega)
   have nl : isLet s[k] = false := by simp [isLet]; omega
   have nm : z1j s[k] = false := by
    rw [z1j, nl, z7u]
    have : (s[k] == 45) = false := by simp only [beq_eq_false_iff_ne]; intro h; rw [h] at hlow; exact hlow (by decide)
    rw [this]; simp; omega
   have bad : (if k = 0 then isLet s[k] else z1j s[k]) = false := by split <;> assumption
   rw [Ev.kz1 (by simp; omega), show decide (((zat s k).1 : Int) ≤ 122) = false by simp; omega, zhz, Ev.kz1 (by rfl)]
   by_cases h0 : k = 0
   ·rw [Ev.kz1 (by simpa using h0)]; exact (l3t _).to (hf bad).symm
   ·rw [Ev.yz1 (by simpa using h0), Ev.kz1 (by simp; omega), Ev.yz1 (by simp; omega), show decide (((zat s k).1 : Int) > 57) = true by simp; omega]
    exact (l3t _).to (hf bad).symm
 have rest : ∀ k, k ≤ s.length → 1 ≤ k → Ev (fun n => z0f n s k) ((s.drop k).all z1j) :=
  down (Q := fun k => 1 ≤ k → Ev (fun n => z0f n s k) ((s.drop k).all z1j)) (fun _ => by
   rw [zhy, Ev.yz1 (by simp), Ev.zz1]; simp) fun k hk ih h1 => by
   rw [← List.getElem_cons_drop (h := hk), List.all_cons]
   refine step k hk _ (fun h => ?_) fun h => ?_
   ·rw [if_neg (by omega)] at h; rw [h]; rfl
   ·rw [if_neg (by omega)] at h; rw [h]; exact ih (by omega)
 rw [zv3]
 cases s with
 | nil => rw [Ev.kz1 (by rfl), zhq, Ev.kz1 (by rfl), Ev.zz1]; rfl
 | cons c t =>
   rw [Ev.yz1 (by simp; omega), zhq]
   by_cases h40 : (c :: t).length ≤ 40
   · rw [Ev.yz1 (by simp at h40 ⊢; omega)]
     refine step 0 (by simp) _ (fun h => ?_) fun h => ?_
     · rw [if_pos rfl] at h; simp only [List.getElem_cons_zero] at h; simp [z9w, h]
     · rw [if_pos rfl] at h; simp only [List.getElem_cons_zero] at h
       refine (rest 1 (by simp) (Nat.le_refl _)).to ?_
       simp [z9w, h]; intro _; simpa using h40
   · rw [Ev.kz1 (by simp at h40 ⊢; omega), Ev.zz1]
     simp [z9w]; intro _ _; simpa using h40
theorem yg5 {c : UInt8} : Ev (fun n => z63 n (c.toNat : Int)) (isLet c) := by
 rw [zqi]
 simp only [Ev.pif, Ev.zz1, isLet, decide_eq_true_eq]
 split
 ·have : 97 ≤ c.toNat := by omega
  simp [this]; omega
 ·have : ¬ 97 ≤ c.toNat := by omega
  simp [this]
theorem yh6 {c : UInt8} : Ev (fun n => z7m n (c.toNat : Int)) (z7u c) := by
 rw [zsb]
 simp only [Ev.pif, Ev.zz1, z7u, decide_eq_true_eq]
 split
 ·have : 48 ≤ c.toNat := by omega
  simp [this]; omega
 ·have : ¬ 48 ≤ c.toNat := by omega
  simp [this]
theorem yv8 {c : UInt8} : (((c.toNat : Nat) : Int) != 45) = !(c == 45) := by
 cases h : c == 45 with
 | true => have : c = 45 := by simpa using h
           subst this; rfl
 | false =>
   have : c.toNat ≠ 45 := fun hh => by
     have : c = 45 := UInt8.toNat_inj.1 (by simpa using hh)
     subst this; cases h
   simp; omega
theorem ym9 {s : List UInt8} (hs : s.length ≤ 8388608) : Ev (fun n => z8i n s) (z9w s) := by
 have bad : ∀ k : Int, Ev (fun n => z0e n s k true) false := fun k => by rw [zgu, Ev.kz1 (by rfl), Ev.zz1]
 have step : ∀ k (hk : k < s.length) (r : Bool), ((if k = 0 then isLet s[k] else z1j s[k]) = false → r = false) → ((if k = 0 then isLet s[k] else z1j s[k]) = true → Ev (fun n => z03 n ((k + 1 : Nat) : Int) s) r) → Ev (fun n => z03 n (k : Int) s) r := fun k hk r hf ht => by
  have l1 : ∀ b, (if k = 0 then isLet s[k] else z1j s[k]) = !b → Ev (fun n => z0e n s (k : Int) b) r := fun b hb => by
   cases b
   ·rw [zgu, Ev.yz1 (by rfl), wrk (by omega)]; exact ht hb
   ·exact (bad _).to (hf hb).symm
  rw [zia, Ev.kz1 (by simpa using hk), Ev.yz2 (yzb hk), Ev.zz0 yg5]
  cases hl : isLet s[k]
  ·rw [Ev.kz1 (by rfl)]
   by_cases h0 : k = 0
   ·rw [Ev.kz1 (by simpa using h0)]; exact l1 true (by rw [if_pos h0, hl]; rfl)
   ·rw [Ev.yz1 (by simpa using h0), Ev.yz2 (yzb hk), yv8]
    cases h45 : s[k] == 45
    ·rw [Ev.kz1 (by rfl), Ev.yz2 (yzb hk), Ev.zz0 yh6]
     exact l1 _ (by rw [if_neg h0, z1j, hl, h45]; simp)
    ·rw [Ev.yz1 (by rfl)]; exact l1 false (by rw [if_neg h0, z1j, hl, h45]; rfl)
  ·rw [Ev.yz1 (by rfl)]
   exact l1 false (by split; exact hl; rw [z1j, hl]; rfl)
 have fin : ∀ r : Bool, r = (decide (1 ≤ s.length) && decide (s.length ≤ 40)) → Ev (fun n => z03 n (s.length : Int) s) r := fun r hr => by
  rw [zia, Ev.yz1 (by simp), hr]
  by_cases h1 : 1 ≤ s.length
  ·rw [Ev.kz1 (by simp; omega), Ev.zz1]; simp [h1]; omega
  ·rw [Ev.yz1 (by simp; omega), Ev.zz1]; simp [h1]
 have rest : ∀ k, k ≤ s.length → 1 ≤ k → Ev (fun n => z03 n (k : Int) s) ((s.drop k).all z1j && decide (s.length ≤ 40)) :=
  down (Q := fun k => 1 ≤ k → Ev (fun n => z03 n (k : Int) s) ((s.drop k).all z1j && decide (s.length ≤ 40))) (fun h1 => by
   refine fin _ ?_; simp [h1]) fun k hk ih h1 => by
   rw [← List.getElem_cons_drop (h := hk), List.all_cons]
   refine step k hk _ (fun h => ?_) fun h => ?_
   ·rw [if_neg (by omega)] at h; rw [h]; rfl
   ·rw [if_neg (by omega)] at h; rw [h]; exact ih (by omega)
 rw [zvh]
 cases s with
 | nil => exact fin _ rfl
 | cons c t =>
   refine step 0 (by simp) _ (fun h => ?_) fun h => ?_
   · rw [if_pos rfl] at h; simp only [List.getElem_cons_zero] at h; simp [z9w, h]
   · rw [if_pos rfl] at h; simp only [List.getElem_cons_zero] at h
     refine (rest 1 (by simp) (Nat.le_refl _)).to ?_
     simp [z9w, h]
def zd0 (s : List UInt8) : Bool := z9w s && (!(s == [116, 114, 117, 101]) && !(s == [102, 97, 108, 115, 101]))
theorem yn1 {s : List UInt8} (hs : s.length ≤ 8388608) : Ev (fun n => z8g n s) (zd0 s) := by
 rw [zv8, Ev.zz0 (yla hs)]
 unfold zd0
 cases z9w s <;> cases h : (s == [116, 114, 117, 101]) <;> simp [Ev.pif, Ev.zz1]
theorem yiy {s : List UInt8} (hs : s.length ≤ 8388608) : Ev (fun n => z7b n s) (zd0 s) := by
 rw [zt8, Ev.zz0 (ym9 hs)]
 unfold zd0
 cases z9w s <;> cases h : (s == [116, 114, 117, 101]) <;> simp [Ev.pif, Ev.zz1]
end Go.Proofs.YtfhpamcehnfhoaaGreatDoor


namespace Go.Proofs.YtfhpamcehnfhoaaGreatDoor
open Go Go.Ab
set_option linter.unusedVariables false
set_option linter.unusedSimpArgs false
theorem zt6 {P : kz0 → Prop} (h : ∀ e : kz0, (∀ x, x ∈ e.args → P x) → P e) (e : kz0) : P e := h e fun x hx => zt6 h x
termination_by e
decreasing_by exact kz0.zxu hx
mutual
def z45 : kz0 → Nat
 | ⟨_, _, _, l⟩ => 1 + zzq l
def zzq : List kz0 → Nat
 | [] => 0
 | x :: l => z45 x + zzq l
end
mutual
def zd2 : kz0 → Nat
 | ⟨_, _, _, l⟩ => max 1 (zfp l)
def zfp : List kz0 → Nat
 | [] => 0
 | x :: l => max (1 + zd2 x) (zfp l)
end
theorem z9i (e : kz0) : z45 e = 1 + zzq e.args := by cases e; rw [z45]
theorem zxf (e : kz0) : zd2 e = max 1 (zfp e.args) := by cases e; rw [zd2]
theorem ypy {l : List kz0} {x : kz0} (h : x ∈ l) : x.size ≤ (l.map kz0.size).sum := by
 induction l with
 | nil => cases h
 | cons y l ih =>
   rcases List.mem_cons.1 h with rfl | h
   · simp
   · have := ih h; simp; omega
theorem z5y (e : kz0) : (e.args.map kz0.size).sum + e.name.length + e.value.size + 4 ≤ e.size := by rw [kz0.size_eq]; omega
theorem zcx {e x : kz0} (h : x ∈ e.args) : x.size ≤ e.size := by have := ypy h; have := z5y e; omega
theorem zao (l : List kz0) : l.length ≤ (l.map kz0.size).sum := by
 induction l with
 | nil => simp
 | cons x l ih => have := z5y x; simp; omega
theorem ztr : ∀ e : kz0, z45 e ≤ e.size := zt6 fun e ih => by
 have : ∀ l : List kz0, (∀ x, x ∈ l → x ∈ e.args) → zzq l ≤ (l.map kz0.size).sum := fun l => by
  induction l with
  | nil => intro _; simp [zzq]
  | cons x l ihl =>
    intro hl
    have := ih x (hl x List.mem_cons_self)
    have := ihl fun y hy => hl y (List.mem_cons_of_mem _ hy)
    simp [zzq]; omega
 have := this e.args fun _ h => h
 have := z5y e
 rw [z9i]; omega
theorem yk8 : ∀ e : kz0, zd2 e ≤ z45 e := zt6 fun e ih => by
 have : ∀ l : List kz0, (∀ x, x ∈ l → x ∈ e.args) → zfp l ≤ 1 + zzq l := fun l => by
  induction l with
  | nil => intro _; simp [zzq, zfp]
  | cons x l ihl =>
    intro hl
    have := ih x (hl x List.mem_cons_self)
    have := ihl fun y hy => hl y (List.mem_cons_of_mem _ hy)
    simp [zzq, zfp]; omega
 have := this e.args fun _ h => h
 rw [z9i, zxf]; omega
theorem y7h (l : List kz0) : zzq l ≤ (l.map kz0.size).sum := by
 induction l with
 | nil => simp [zzq]
 | cons x l ih => have := ztr x; simp [zzq]; omega
theorem yf8 : ∀ e : kz0, e.size ≤ 8388608 → Ev (fun n => z4r n e) ((z45 e : Int), (zd2 e : Int)) := zt6 fun e ih hs => by
 have hsl := z5y e
 have hlen := zao e.args
 have loop : ∀ k, k ≤ e.args.length → ∀ d p : Nat, p + zzq (e.args.drop k) ≤ 8388609 → d ≤ 8388609 → Ev (fun n => z1h n (k : Int) (d : Int) (p : Int) e.args (e.args.length : Int)) (((p + zzq (e.args.drop k) : Nat) : Int), ((max d (zfp (e.args.drop k)) : Nat) : Int)) :=
  down (fun d p hp hd => by
   rw [zep, Ev.yz1 (by simp), Ev.zz1]
   simp [zzq, zfp]) fun k hk ihk d p hp hd => by
   have hx := List.getElem_mem hk
   have hsx := zcx hx
   rw [← List.getElem_cons_drop (h := hk)] at hp ⊢
   simp only [zzq, zfp] at hp ⊢
   have hpl := ztr e.args[k]
   have hdl := yk8 e.args[k]
   rw [zep, Ev.kz1 (by simpa using hk), Ev.yz2 (yzb hk), kz0.kz2, Ev.zz0 (ih _ hx (by omega)), wI (x := _ + 1) (by omega), wI (x := (zd2 _ : Int) + 1) (by omega), wI (x := (p : Int) + _) (by omega)]
   have e1 : (k : Int) + 1 = ((k + 1 : Nat) : Int) := by omega
   have e2 : (zd2 e.args[k] : Int) + 1 = ((1 + zd2 e.args[k] : Nat) : Int) := by omega
   have e3 : (p : Int) + (z45 e.args[k] : Int) = ((p + z45 e.args[k] : Nat) : Int) := by omega
   rw [e1, e2, e3, y40]
   refine (ihk (max d (1 + zd2 e.args[k])) (p + z45 e.args[k]) (by omega) (by omega)).to ?_
   congr 2 <;> omega
 rw [zqs]
 have hv := y7h e.args
 have := loop 0 (Nat.zero_le _) 1 1 (by simp; omega) (by omega)
 refine this.to ?_
 rw [z9i, zxf, List.drop_zero]
theorem y1n : ∀ e : kz0, e.size ≤ 8388608 → Ev (fun n => z4h n e) (z45 e : Int) := zt6 fun e ih hs => by
 have hsl := z5y e
 have hlen := zao e.args
 rw [zrw, kz0.kz2, z9i]
 have loop : ∀ k, k ≤ e.args.length → ∀ p : Nat, p + zzq (e.args.drop k) ≤ 8388609 → Ev (fun n => z2b n (k : Int) (p : Int) e) ((p + zzq (e.args.drop k) : Nat) : Int) :=
  down (fun p hp => by
   rw [zgn, Ev.yz1 (by simp), Ev.zz1]
   simp [zzq]) fun k hk ihk p hp => by
   have hx := List.getElem_mem hk
   have hsx := zcx hx
   rw [← List.getElem_cons_drop (h := hk)] at hp ⊢
   simp only [zzq] at hp ⊢
   have hpl := ztr e.args[k]
   rw [zgn, Ev.kz1 (by simpa using hk), Ev.yz2 (yzb hk), kz0.kz2, Ev.zz0 (ih _ hx (by omega)), wI (x := _ + 1) (by omega), wI (x := (p : Int) + _) (by omega)]
   have e1 : (k : Int) + 1 = ((k + 1 : Nat) : Int) := by omega
   have e3 : (p : Int) + (z45 e.args[k] : Int) = ((p + z45 e.args[k] : Nat) : Int) := by omega
   rw [e1, e3, kz0.kz2]
   refine (ihk (p + z45 e.args[k]) (by omega)).to ?_
   congr 1; omega
 have hv := y7h e.args
 exact loop 0 (Nat.zero_le _) 1 (by simp; omega)
theorem ymt : ∀ e : kz0, e.size ≤ 8388608 → Ev (fun n => z6q n e) (zd2 e : Int) := zt6 fun e ih hs => by
 have hsl := z5y e
 have hlen := zao e.args
 rw [zvo, kz0.kz2, zxf]
 have loop : ∀ k, k ≤ e.args.length → ∀ p : Nat, p ≤ 8388609 → Ev (fun n => z3g n (k : Int) (p : Int) e) ((max p (zfp (e.args.drop k)) : Nat) : Int) :=
  down (fun p hp => by
   rw [zhk, Ev.yz1 (by simp), Ev.zz1]
   simp [zfp]) fun k hk ihk p hp => by
   have hx := List.getElem_mem hk
   have hsx := zcx hx
   rw [← List.getElem_cons_drop (h := hk)]
   simp only [zfp]
   have hpl := ztr e.args[k]
   have hdl := yk8 e.args[k]
   rw [zhk, Ev.kz1 (by simpa using hk), Ev.yz2 (yzb hk), kz0.kz2, Ev.zz0 (ih _ hx (by omega)), wI (x := _ + 1) (by omega), wI (x := 1 + _) (by omega)]
   have e1 : (k : Int) + 1 = ((k + 1 : Nat) : Int) := by omega
   have e3 : 1 + (zd2 e.args[k] : Int) = ((1 + zd2 e.args[k] : Nat) : Int) := by omega
   rw [e1, e3, kz0.kz2, y40]
   refine (ihk (max p (1 + zd2 e.args[k])) (by omega)).to ?_
   congr 1; omega
 exact loop 0 (Nat.zero_le _) 1 (by omega)
def z27 (op : Int) : Int :=
 if op = 1 ∨ op = 2 then 0 else if (3 ≤ op ∧ op ≤ 10) ∨ op = 13 ∨ op = 14 ∨ op = 17 then 2 else if op = 11 ∨ op = 15 ∨ op = 16 then 1 else if op = 12 then 3 else if op = 18 then -1 else -2
theorem ops (op : Int) : op = 1 ∨ op = 2 ∨ op = 3 ∨ op = 4 ∨ op = 5 ∨ op = 6 ∨ op = 7 ∨ op = 8 ∨ op = 9 ∨ op = 10 ∨ op = 11 ∨ op = 12 ∨ op = 13 ∨ op = 14 ∨ op = 15 ∨ op = 16 ∨ op = 17 ∨ op = 18 ∨ (op < 1 ∨ 18 < op) := by omega
theorem ymz {op : Int} : Ev (fun n => z8m n op) (z27 op) := by
 rcases ops op with rfl | rfl | rfl | rfl | rfl | rfl | rfl | rfl | rfl | rfl | rfl | rfl | rfl | rfl | rfl | rfl | rfl | rfl | h
 case inr.inr.inr.inr.inr.inr.inr.inr.inr.inr.inr.inr.inr.inr.inr.inr.inr.inr =>
  have e : z27 op = -2 := by unfold z27; rw [if_neg (by omega), if_neg (by omega), if_neg (by omega), if_neg (by omega), if_neg (by omega)]
  rw [e]
  have n (j : Int) (h1 : 1 ≤ j) (h2 : j ≤ 18) : (op == j) = false := by simp; omega
  simp [zo3, zhl, zhn, zh6, zgt, zhu, zi4, Ev.pif, Ev.zz1, n]
 all_goals simp [zo3, zhl, zhn, zh6, zgt, zhu, zi4, Ev.pif, Ev.zz1, z27]
theorem ykx {op : Int} : Ev (fun n => z8e n op) (z27 op) := by
 rcases ops op with rfl | rfl | rfl | rfl | rfl | rfl | rfl | rfl | rfl | rfl | rfl | rfl | rfl | rfl | rfl | rfl | rfl | rfl | h
 case inr.inr.inr.inr.inr.inr.inr.inr.inr.inr.inr.inr.inr.inr.inr.inr.inr.inr =>
  have e : z27 op = -2 := by unfold z27; rw [if_neg (by omega), if_neg (by omega), if_neg (by omega), if_neg (by omega), if_neg (by omega)]
  rw [e]
  have n (j : Int) (h1 : 1 ≤ j) (h2 : j ≤ 18) : (op == j) = false := by simp; omega
  rw [znr, Ev.yz1 (n 1 (by omega) (by omega)), n 2 (by omega) (by omega), zhs, Ev.yz1 (by rfl)]
  have l1 : Ev (fun m => zzr m op false) (-2) := by simp [zhp, zgx, Ev.pif, Ev.zz1, n]
  by_cases h3 : op ≥ 3
  ·rw [Ev.kz1 (by simpa using h3), Ev.yz1 (by simp; omega), Ev.yz1 (n 13 (by omega) (by omega)), Ev.yz1 (n 14 (by omega) (by omega)), n 17 (by omega) (by omega)]; exact l1
  ·rw [Ev.yz1 (by simpa using h3), Ev.yz1 (n 13 (by omega) (by omega)), Ev.yz1 (n 14 (by omega) (by omega)), n 17 (by omega) (by omega)]; exact l1
 all_goals simp [znr, zhs, zhp, zgx, Ev.pif, Ev.zz1, z27]
noncomputable def zm9 (op : Int) (v : yz0) (nm : List UInt8) : Bool :=
 if op = 1 then z1l v == 0 && (v.kind != 4 && nm.isEmpty) else if op = 2 then zd0 nm && eqB v v0 else nm.isEmpty && eqB v v0
def zcy (op : Int) (k : Nat) : Bool := z27 op != -2 && (decide (z27 op < 0) || (k : Int) == z27 op)
mutual
noncomputable def z2p : kz0 → Bool
 | ⟨op, v, nm, l⟩ => zcy op l.length && (zm9 op v nm && zaq l)
noncomputable def zaq : List kz0 → Bool
 | [] => true
 | x :: l => z2p x && zaq l
end
theorem zii (e : kz0) : z2p e = (zcy e.op e.args.length && (zm9 e.op e.value e.name && zaq e.args)) := by cases e; rw [z2p]
theorem y64 (l : List kz0) : zaq l = l.all z2p := by
 induction l with
 | nil => rfl
 | cons x l ih => simp [zaq, ih]
noncomputable def z97 (e : kz0) : Int := if 100 < z45 e ∨ 12 < zd2 e then 4 else if z2p e then 0 else 8
theorem y03 {e : kz0} (h : e.wf) : e.value.wf := by rw [kz0.z99] at h; exact h.2.1
theorem y79 {e : kz0} (h : e.wf) : ∀ x ∈ e.args, x.wf := by rw [kz0.z99] at h; exact h.2.2.2
theorem y1v (s : List UInt8) : (!(s == [])) = !s.isEmpty := by cases s <;> rfl
theorem yqi : ∀ e : kz0, e.wf → e.size ≤ 8388608 → Ev (fun n => z8a n e) (z2p e) := zt6 fun e ih hw hs => by
 have hsl := z5y e
 have hlen := zao e.args
 have idx : ∀ k, k ≤ e.args.length → ∃ i : Int, Ev (fun n => yz8 n (k : Int) e.args (e.args.length : Int)) i ∧ decide (i ≥ 0) = !zaq (e.args.drop k) :=
  down ⟨-1, by rw [z06, Ev.yz1 (by simp), Ev.zz1], by simp [zaq]⟩ fun k hk ihk => by
   have hx := List.getElem_mem hk
   have hsx := zcx hx
   have hf1 : Ev (fun n => z7c n e.args[k]) (!z2p e.args[k]) := by
    rw [zsg, kz0.kz2, Ev.zz0 (ih _ hx (y79 hw _ hx) (by omega)), Ev.zz1]
   obtain ⟨i, h1, h2⟩ := ihk
   rw [← List.getElem_cons_drop (h := hk), zaq]
   cases hf : z2p e.args[k]
   ·refine ⟨k, ?_, by simp⟩
    rw [z06, Ev.kz1 (by simpa using hk), Ev.yz2 (yzb hk), kz0.kz2, Ev.zz0 hf1, Ev.kz1 (by rw [hf]; rfl), Ev.zz1]
   ·refine ⟨i, ?_, by rw [h2]; rfl⟩
    rw [z06, Ev.kz1 (by simpa using hk), Ev.yz2 (yzb hk), kz0.kz2, Ev.zz0 hf1, Ev.yz1 (by rw [hf]; rfl), wrk (by omega)]
    exact h1
 have l4 : Ev (fun n => z2x n e) (zaq e.args) := by
  obtain ⟨i, h1, h2⟩ := idx 0 (Nat.zero_le _)
  have hi : Ev (fun n => kzb n e.args) i := by rw [z7q]; exact h1
  have hc : Ev (fun n => zzb n e.args) (!zaq e.args) := by
   rw [z6a, Ev.zz0 hi, Ev.zz1, h2]; rfl
  rw [zqu, Ev.zz0 hc, Ev.zz1, Bool.not_not]
 have l1 : ∀ b, Ev (fun n => z2u n b e) (!b && zaq e.args) := fun b => by
  rw [zqt]; cases b
  ·rw [Ev.yz1 (by rfl), kz0.kz2]; exact l4
  ·rw [Ev.kz1 (by rfl), Ev.zz1]; rfl
 have l2 : ∀ b, Ev (fun n => z4w n b e) (!b && zaq e.args) := fun b => by
  rw [zqk]; cases b
  ·rw [Ev.yz1 (by rfl), kz0.kz2]; exact l4
  ·rw [Ev.kz1 (by rfl), Ev.zz1]; rfl
 have l3 : ∀ b, Ev (fun n => z4x n b e) (!b && zaq e.args) := fun b => by
  rw [zqo]; cases b
  ·rw [Ev.yz1 (by rfl), kz0.kz2]; exact l4
  ·rw [Ev.kz1 (by rfl), Ev.zz1]; rfl
 have l0 : ∀ b, Ev (fun n => z2v n b e) (!b && (zm9 e.op e.value e.name && zaq e.args)) := fun b => by
  rw [zqj]; cases b
  case true => rw [Ev.kz1 (by rfl), Ev.zz1]; rfl
  rw [Ev.yz1 (by rfl)]
  have hsame : Ev (fun n => z1v n e.value (yz0.mk 0 (zz2.mk 0 0) false [] [])) (eqB e.value v0) := y52 e.value v0 (by omega)
  by_cases h1 : e.op = 1
  ·rw [Ev.kz1 (by simpa using h1), yz0.kz2, Ev.zz0 (zce (y03 hw) (by omega)), kz0.kz2, y1v]
   simp only [zm9, if_pos h1]
   by_cases hc : z1l e.value = 0
   ·rw [Ev.yz1 (by simpa using hc)]
    by_cases hk : e.value.kind = 4
    ·rw [Ev.kz1 (by simpa using hk)]
     refine (l1 true).to ?_; simp [hc, hk]
    ·rw [Ev.yz1 (by simpa using hk)]
     have hk' : (e.value.kind != 4) = true := by simpa using hk
     refine (l1 _).to ?_; simp [hc, hk']
   ·rw [Ev.kz1 (by simpa using hc)]
    refine (l1 true).to ?_; simp [hc]
  rw [Ev.yz1 (by simpa using h1)]
  by_cases h2 : e.op = 2
  ·rw [Ev.kz1 (by simpa using h2), Ev.zz0 (yn1 (by omega)), yz0.kz2, kz0.kz2]
   simp only [zm9, if_neg h1, if_pos h2]
   cases hn : zd0 e.name
   ·rw [Ev.kz1 (by rfl)]
    exact (l2 true).to (by simp)
   ·rw [Ev.yz1 (by rfl), Ev.zz0 hsame]
    exact (l2 _).to (by simp)
  ·rw [Ev.yz1 (by simpa using h2), y1v, yz0.kz2, kz0.kz2]
   simp only [zm9, if_neg h1, if_neg h2]
   cases hn : e.name.isEmpty
   ·rw [Ev.kz1 (by rfl)]
    exact (l3 true).to (by simp)
   ·rw [Ev.yz1 (by rfl), Ev.zz0 hsame]
    exact (l3 _).to (by simp)
 rw [zym, Ev.zz0 ymz, zii, kz0.kz2]
 unfold zcy
 by_cases c1 : z27 e.op = -2
 ·rw [Ev.kz1 (by simpa using c1)]
  exact (l0 true).to (by simp [c1])
 rw [Ev.yz1 (by simpa using c1)]
 by_cases c2 : z27 e.op ≥ 0
 ·rw [Ev.kz1 (by simpa using c2)]
  refine (l0 _).to ?_
  rw [show decide (z27 e.op < 0) = false by simpa using c2, show (z27 e.op != -2) = true by simpa using c1]
  simp only [bne, Bool.not_not, Bool.true_and, Bool.false_or]
 ·rw [Ev.yz1 (by simpa using c2)]
  refine (l0 _).to ?_
  rw [show decide (z27 e.op < 0) = true by simp; omega, show (z27 e.op != -2) = true by simpa using c1]
  simp
theorem yma : ∀ e : kz0, e.size ≤ 8388608 → Ev (fun n => z6p n e) (z2p e) := zt6 fun e ih hs => by
 have hsl := z5y e
 have hlen := zao e.args
 have loop : ∀ k, k ≤ e.args.length → Ev (fun n => z3j n (k : Int) e) (zaq (e.args.drop k)) :=
  down (by rw [zhm, Ev.yz1 (by simp), Ev.zz1]; simp [zaq]) fun k hk ihk => by
   have hx := List.getElem_mem hk
   have hsx := zcx hx
   rw [← List.getElem_cons_drop (h := hk), zaq]
   rw [zhm, Ev.kz1 (by simpa using hk), Ev.yz2 (yzb hk), kz0.kz2, Ev.zz0 (ih _ hx (by omega))]
   cases hf : z2p e.args[k]
   ·rw [Ev.kz1 (by rfl), Ev.zz1]; rfl
   ·rw [Ev.yz1 (by rfl), wrk (by omega), kz0.kz2, Bool.true_and]; exact ihk
 have l2 : ∀ b, Ev (fun n => z0g n b e) (!b && zaq e.args) := fun b => by
  rw [zoc]; cases b
  ·rw [Ev.yz1 (by rfl), kz0.kz2]; exact loop 0 (Nat.zero_le _)
  ·rw [Ev.kz1 (by rfl), Ev.zz1]; rfl
 have hgn : decide ((e.name.length : Int) > 0) = !e.name.isEmpty := by cases e.name <;> simp
 have l1 : ∀ b, Ev (fun n => z01 n b e) (!b && ((if e.op = 2 then zd0 e.name else e.name.isEmpty) && zaq e.args)) := fun b => by
  rw [zp6]; cases b
  case true => rw [Ev.kz1 (by rfl), Ev.zz1]; rfl
  rw [Ev.yz1 (by rfl), kz0.kz2, hgn]
  by_cases h2 : e.op = 2
  ·rw [Ev.kz1 (by simpa using h2), if_pos h2, Ev.zz0 (yiy (by omega))]
   cases hn : zd0 e.name
   ·rw [Ev.kz1 (by rfl)]; exact (l2 true).to (by simp)
   ·rw [Ev.yz1 (by rfl), Ev.yz1 (by simpa using h2)]; exact (l2 false).to (by simp)
  ·rw [Ev.yz1 (by simpa using h2), Ev.kz1 (by simpa using h2), if_neg h2]; exact (l2 _).to (by simp)
 have l0 : ∀ b, Ev (fun n => z1z n b e) (!b && (zm9 e.op e.value e.name && zaq e.args)) := fun b => by
  rw [zof]; cases b
  case true => rw [Ev.kz1 (by rfl), Ev.zz1]; rfl
  rw [Ev.yz1 (by rfl), yz0.kz2, kz0.kz2]
  have hsame : Ev (fun n => z19 n e.value (yz0.mk 0 (zz2.mk 0 0) false [] [])) (eqB e.value v0) := y5x e.value v0 (by omega)
  by_cases h1 : e.op = 1
  ·rw [Ev.kz1 (by simpa using h1), Ev.zz0 (yit (by omega))]
   simp only [zm9, if_pos h1]
   by_cases hc : z1l e.value = 0
   ·rw [Ev.yz1 (by simpa using hc)]
    by_cases hk : e.value.kind = 4
    ·rw [Ev.kz1 (by simpa using hk)]
     refine (l1 true).to ?_; simp [hc, hk]
    ·rw [Ev.yz1 (by simpa using hk), Ev.yz1 (by simpa using h1)]
     have hk' : (e.value.kind != 4) = true := by simpa using hk
     refine (l1 _).to ?_; simp [hc, hk', h1]
   ·rw [Ev.kz1 (by simpa using hc)]
    refine (l1 true).to ?_; simp [hc]
  ·rw [Ev.yz1 (by simpa using h1), Ev.kz1 (by simpa using h1), Ev.zz0 hsame]
   refine (l1 _).to ?_
   simp only [zm9, if_neg h1]
   split
   ·cases eqB e.value v0 <;> cases zd0 e.name <;> simp
   ·cases eqB e.value v0 <;> cases e.name.isEmpty <;> simp
 rw [zve, Ev.zz0 ykx, zii, kz0.kz2]
 unfold zcy
 by_cases c1 : z27 e.op = -2
 ·rw [Ev.kz1 (by simpa using c1)]
  exact (l0 true).to (by simp [c1])
 rw [Ev.yz1 (by simpa using c1)]
 by_cases c2 : z27 e.op ≥ 0
 ·rw [Ev.kz1 (by simpa using c2)]
  refine (l0 _).to ?_
  rw [show decide (z27 e.op < 0) = false by simpa using c2, show (z27 e.op != -2) = true by simpa using c1]
  simp only [bne, Bool.not_not, Bool.true_and, Bool.false_or]
 ·rw [Ev.yz1 (by simpa using c2)]
  refine (l0 _).to ?_
  rw [show decide (z27 e.op < 0) = true by simp; omega, show (z27 e.op != -2) = true by simpa using c1]
  simp
theorem zps {e : kz0} (hw : e.wf) (hs : e.size ≤ 8388608) : Ev (fun n => z2y n e) (z97 e) := by
 have l0 : ∀ b, Ev (fun n => z3d n b e) (if b then 4 else if z2p e then 0 else 8) := fun b => by
  rw [zoo]
  cases b
  ·rw [Ev.yz1 (by rfl), kz0.kz2, Ev.zz0 (yqi e hw hs)]
   cases z2p e
   ·rw [Ev.kz1 (by rfl), Ev.zz1]; rfl
   ·rw [Ev.yz1 (by rfl), Ev.zz1]; rfl
  ·rw [Ev.kz1 (by rfl), Ev.zz1]; rfl
 rw [zv9, kz0.kz2, Ev.zz0 (yf8 e hs)]
 unfold z97
 simp only [Ev.pif]
 by_cases h1 : 100 < z45 e
 ·rw [if_pos (by simp; omega), if_pos (.inl h1)]; exact l0 true
 ·rw [if_neg (by simp; omega)]
  by_cases h2 : 12 < zd2 e
  ·rw [if_pos (.inr h2), show decide ((zd2 e : Int) > 12) = true by simp; omega]; exact l0 true
  ·rw [if_neg (by omega), show decide ((zd2 e : Int) > 12) = false by simp; omega]; exact l0 false
theorem zj1 {e : kz0} (hs : e.size ≤ 8388608) : Ev (fun n => z1p n e) (z97 e) := by
 have l0 : ∀ b, Ev (fun n => z2i n b e) (if b then 4 else if z2p e then 0 else 8) := fun b => by
  rw [zn9]
  cases b
  ·rw [Ev.yz1 (by rfl), kz0.kz2, Ev.zz0 (yma e hs)]
   cases z2p e
   ·rw [Ev.kz1 (by rfl), Ev.zz1]; rfl
   ·rw [Ev.yz1 (by rfl), Ev.zz1]; rfl
  ·rw [Ev.kz1 (by rfl), Ev.zz1]; rfl
 rw [zsh, kz0.kz2, Ev.zz0 (y1n e hs)]
 unfold z97
 by_cases h1 : 100 < z45 e
 ·rw [Ev.kz1 (by simp; omega), if_pos (.inl h1)]; exact l0 true
 ·rw [Ev.yz1 (by simp; omega), Ev.zz0 (ymt e hs)]
  by_cases h2 : 12 < zd2 e
  ·rw [if_pos (.inr h2), show decide ((zd2 e : Int) > 12) = true by simp; omega]; exact l0 true
  ·rw [if_neg (by omega), show decide ((zd2 e : Int) > 12) = false by simp; omega]; exact l0 false
theorem zir {e : kz0} (h : z97 e = 0) : z2p e = true ∧ z45 e ≤ 100 ∧ zd2 e ≤ 12 := by
 unfold z97 at h
 split at h
 ·cases h
 ·split at h
  ·exact ⟨‹_›, by omega, by omega⟩
  ·cases h
theorem yj1 : ∀ e : kz0, e.size ≤ 8388608 → ∀ d : Int, ∃ b, Ev (fun n => z61 n e d) b := zt6 fun e ih hs d => by
 have hsl := z5y e
 have hlen := zao e.args
 have loop : ∀ k, k ≤ e.args.length → ∀ d : Int, ∃ b, Ev (fun n => z2l n (k : Int) d e) b :=
  down (fun d => ⟨false, by rw [zg3, Ev.yz1 (by simp), Ev.zz1]⟩) fun k hk ihk d => by
   have hx := List.getElem_mem hk
   have hsx := zcx hx
   obtain ⟨b, hb⟩ := ih _ hx (by omega) (IntKind.i64.wrap (d - 1))
   obtain ⟨c, hc⟩ := ihk d
   refine ⟨if b then true else c, ?_⟩
   rw [zg3, Ev.kz1 (by simpa using hk), Ev.yz2 (yzb hk), kz0.kz2, Ev.zz0 hb, kz0.kz2, wrk (by omega)]
   cases b
   ·rw [Ev.yz1 (by rfl)]; exact hc
   ·rw [Ev.kz1 (by rfl), Ev.zz1]; rfl
 have l0 : ∀ d b, ∃ c, Ev (fun n => z0j n d b e) c := fun d b => by
  cases b
  ·obtain ⟨c, hc⟩ := loop 0 (Nat.zero_le _) d
   exact ⟨c, by rw [zgk, Ev.yz1 (by rfl), kz0.kz2]; exact hc⟩
  ·exact ⟨true, by rw [zgk, Ev.kz1 (by rfl), Ev.zz1]⟩
 obtain ⟨g, hg⟩ := yk3 (v := e.value) (by omega)
 simp only [zt7, kz0.kz2, yz0.kz2, Ev.pif, Ev.zz0 hg]
 split
 ·exact l0 _ _
 split
 ·exact l0 _ _
 split
 ·exact l0 _ _
 ·exact l0 _ _
theorem y2h {e : kz0} (hs : e.size ≤ 8388608) : ∃ b, Ev (fun n => z5t n e) b := by
 obtain ⟨b, hb⟩ := yj1 e hs 16
 cases b
 ·exact ⟨_, by rw [zky, kz0.kz2, Ev.zz0 hb, Ev.yz1 (by rfl), Ev.zz0 (y1n e hs)]; exact Ev.zz1.2 rfl⟩
 ·exact ⟨true, by rw [zky, kz0.kz2, Ev.zz0 hb, Ev.kz1 (by rfl), Ev.zz1]⟩
end Go.Proofs.YtfhpamcehnfhoaaGreatDoor


namespace Go.Proofs.YtfhpamcehnfhoaaGreatDoor
open Go Go.Ab
set_option linter.unusedVariables false
set_option linter.unusedSimpArgs false
theorem za0 (a b : List UInt8) : yza (a ++ b) = yza a ++ yza b := by simp [yza]
theorem z95 (a : List UInt8) : (yza a).length = a.length := by simp [yza]
theorem zfc : ∀ s : List UInt8, zr2 (yza s) = some s
 | [] => rfl
 | c :: s => by
   have h : Nat.ble c.toNat 255 = true := Nat.ble_eq_true_of_le (by have := c.toNat_lt; omega)
   show (match Int.ofNat c.toNat, zr2 (yza s) with
     | .ofNat m, some s => match Nat.ble m 255 with
       | true => some (m.toUInt8 :: s)
       | false => none
     | _, _ => none) = _
   rw [zfc s]
   simp only [h]
   simp [Nat.toUInt8]
theorem y6l (s : List Int) : Ev (fun n => kzl n s) s := ⟨0, fun _ _ => rfl⟩
theorem ws {s t : List UInt8} (h : s.length + t.length ≤ 268435456) : Ev (fun n => kz4 n t (yza s)) ((t.length : Int), yza (s ++ t)) := by
 rw [z6f, Ev.zz0 (y6l _), Ev.yz2 (zpd (by rw [z95, z95]; exact h)), Ev.zz1, za0]
theorem wb {s : List UInt8} {c : UInt8} {k : Int} (hk : k = (c.toNat : Int)) (h : s.length + 1 ≤ 268435456) : Ev (fun n => zz8 n k (yza s)) (yza (s ++ [c])) := by
 subst hk
 rw [z82, Ev.zz0 (y6l _), Ev.yz2 (zpd (by rw [z95]; exact h)), Ev.zz1, za0]
 rfl
theorem w8 {k : Int} (h : 0 ≤ k ∧ k ≤ 255) : IntKind.u8.wrap k = k := by
 unfold IntKind.wrap
 simp only [IntKind.bits, IntKind.signed, Bool.false_and, Bool.false_eq_true, if_false]
 omega
theorem w32 {k : Int} (h : 0 ≤ k ∧ k ≤ 255) : IntKind.u32.wrap k = k := by
 unfold IntKind.wrap
 simp only [IntKind.bits, IntKind.signed, Bool.false_and, Bool.false_eq_true, if_false]
 omega
theorem wr {s : List UInt8} {c : UInt8} {k : Int} (hk : k = (c.toNat : Int)) (hc : c.toNat < 128) (h : s.length + 1 ≤ 268435456) : ∃ q, Ev (fun n => yzg n k (yza s)) (q, yza (s ++ [c])) := by
 subst hk
 have ha : Ev (fun n => kzk n (c.toNat : Int) (yza s)) (yza (s ++ [c])) := by
  rw [z92, w32 (by omega), Ev.kz1 (by simp; omega), w8 (by omega), Ev.yz2 (zpd (by rw [z95]; exact h)), Ev.zz1, za0]
  rfl
 refine ⟨IntKind.i64.wrap (((yza (s ++ [c])).length : Int) - ((yza s).length : Int)), ?_⟩
 rw [z7v, Ev.zz0 (y6l _), Ev.zz0 ha, Ev.zz1]
theorem ysi {s : List UInt8} : Ev (fun n => zzo n (yza s)) ((s.length : Int), yza s) := by rw [zbe, Ev.zz1, z95]
theorem yp1 {s : List UInt8} : Ev (fun n => zzu n (yza s)) s := ⟨0, fun _ _ => zfc s⟩
theorem zku {k : Nat} (h : k < 10) : (UInt8.ofNat (48 + k)).toNat = 48 + k := by
 rw [UInt8.toNat_ofNat']; omega
theorem ysz {k : Nat} (h : k < 10) : zr2 [IntKind.u8.wrap (IntKind.i64.wrap (48 + (k : Int)))] = some [UInt8.ofNat (48 + k)] := by
 rw [wI (by omega), w8 (by omega)]
 have := zfc [UInt8.ofNat (48 + k)]
 simp only [yza, List.map_cons, List.map_nil, zku h] at this
 rw [← this]
 congr 2
theorem zkr {u : Nat} (h : u < 10) : Lib.decDigits u = [UInt8.ofNat (48 + u)] := by rw [Lib.decDigits, dif_pos h]
theorem zx5 {u : Nat} (h : ¬ u < 10) : Lib.decDigits u = Lib.decDigits (u / 10) ++ [UInt8.ofNat (48 + u % 10)] := by rw [Lib.decDigits, dif_neg h]
theorem yu3 {u : Nat} (h : u < 18446744073709551616) : (Lib.decDigits u).length ≤ 20 := by rw [Lib.decDigits_length]; exact Lib.nDigits_le20 u h
theorem yua {u : Nat} (h : u ≤ 9223372036854775807) : rem .i64 (u : Int) 10 = some ((u % 10 : Nat) : Int) := by
 unfold rem
 rw [if_neg (by decide)]
 congr 1
theorem yts {u : Nat} (h : u ≤ 9223372036854775807) : quo .i64 (u : Int) 10 = some ((u / 10 : Nat) : Int) := by
 have := ytx (k := .i64) (a := u) (b := 10) (fun c hc => wI (by omega)) (by decide)
 exact this
theorem yrr : ∀ (u : Nat) (acc : List UInt8), u ≤ 9223372036854775807 → acc.length + Lib.nDigits u ≤ 1000 → Ev (fun n => z07 n (u : Int) acc) (Lib.decDigits u ++ acc) := by
 intro u
 induction u using Nat.strongRecOn with
 | _ u ih =>
   intro acc hu ha
   have hp := Lib.nDigits_pos u
   rw [zu8, Ev.yz2 (yua hu), Ev.yz2 (ysz (Nat.mod_lt _ (by decide))), Ev.yz2 (z3o (by simp; omega)), Ev.yz2 (yts hu)]
   by_cases h : u < 10
   · have h0 : ((u / 10 : Nat) : Int) = 0 := by omega
     rw [Ev.kz1 (beq_iff_eq.2 h0), Ev.zz1, zkr h, Nat.mod_eq_of_lt h]
   · have h0 : ((u / 10 : Nat) : Int) ≠ 0 := by omega
     rw [Ev.yz1 (beq_eq_false_iff_ne.2 h0), zx5 h, List.append_assoc]
     rw [Lib.nDigits_big h] at ha
     exact ih (u / 10) (by omega) _ (by omega) (by simp; omega)
theorem zmk {u : Nat} (h : u ≤ 9223372036854775807) : Ev (fun n => z02 n (u : Int)) (Lib.decDigits u) := by
 rw [zow, Ev.yz1 (by simp)]
 refine (yrr u [] h ?_).to (List.append_nil _)
 have := Lib.nDigits_le20 u (by omega)
 simp; omega
theorem zic {x : Int} (h : -9223372036854775807 ≤ x ∧ x ≤ 9223372036854775807) : Ev (fun n => z02 n x) (Lib.itoa x) := by
 unfold Lib.itoa
 by_cases hx : x < 0
 ·rw [if_pos hx, zow, Ev.kz1 (by simpa using hx), wI (by omega)]
  have := zmk (u := x.natAbs) (by omega)
  rw [show ((x.natAbs : Nat) : Int) = 0 - x by omega] at this
  rw [Ev.zz0 this, Ev.yz2 (z3o (by have := yu3 (u := x.natAbs) (by omega); simp; omega)), Ev.zz1]
  rfl
 ·rw [if_neg hx]
  have := zmk (u := x.toNat) (by omega)
  rwa [show ((x.toNat : Nat) : Int) = x by omega] at this
theorem zm2 {x : Int} (h : -9223372036854775807 ≤ x ∧ x ≤ 9223372036854775807) : Ev (fun n => kzj n x 10) (Lib.itoa x) := ⟨0, fun _ _ => by
 unfold kzj; rw [if_pos ⟨rfl, by omega, h.2⟩]⟩
theorem zcw {x : Int} (h : -9223372036854775807 ≤ x ∧ x ≤ 9223372036854775807) : (Lib.itoa x).length ≤ 21 := Lib.itoa_length_le x (by omega) h.2
def z1n (r : zz2) : List UInt8 := if r.den = 1 then Lib.itoa r.num else Lib.itoa r.num ++ 47 :: Lib.itoa r.den
theorem zkq {r : zz2} (h : rok r = true) : (z1n r).length ≤ 43 := by
 obtain ⟨h1, h2, h3⟩ := zyj h
 unfold z1n
 have a := zcw (x := r.num) (by omega)
 have b := zcw (x := r.den) (by omega)
 split
 ·omega
 ·simp; omega
theorem zgv {r : zz2} (h : rok r = true) : Ev (fun n => z4k n r) (z1n r, 0) := by
 obtain ⟨h1, h2, h3⟩ := zyj h
 have a := zcw (x := r.num) (by omega)
 have b := zcw (x := r.den) (by omega)
 have hc := zfb (r := r) (by unfold I64; omega)
 rw [if_pos h] at hc
 rw [zno, Ev.zz0 hc, Ev.yz1 (by rfl), Ev.zz0 (zm2 (by omega))]
 unfold z1n
 by_cases hd : r.den = 1
 ·rw [Ev.yz1 (by simpa using hd), zau, Ev.zz1, if_pos hd]
 ·rw [Ev.kz1 (by simpa using hd), Ev.zz0 (zm2 (by omega)), Ev.yz2 (z3o (by simp; omega)), Ev.yz2 (z3o (by simp; omega)), zau, Ev.zz1, if_neg hd]
  rfl
theorem ym3 {r : zz2} (h : rok r = true) : Ev (fun n => zbp n r) (z1n r, 0) := by
 obtain ⟨h1, h2, h3⟩ := zyj h
 have a := zcw (x := r.num) (by omega)
 have b := zcw (x := r.den) (by omega)
 have hc := zmu (r := r)
 rw [if_pos h] at hc
 rw [yae, Ev.zz0 hc, Ev.yz1 (by rfl)]
 unfold z1n
 by_cases hd : r.den = 1
 ·rw [Ev.kz1 (by simpa using hd), Ev.zz0 (zic (by omega)), Ev.zz1, if_pos hd]
 ·rw [Ev.yz1 (by simpa using hd), Ev.zz0 (zic (by omega)), Ev.yz2 (z3o (by simp; omega)), Ev.zz0 (zic (by omega)), Ev.yz2 (z3o (by simp; omega)), Ev.zz1, if_neg hd]
  simp
end Go.Proofs.YtfhpamcehnfhoaaGreatDoor


namespace Go.Proofs.YtfhpamcehnfhoaaGreatDoor
open Go Go.Ab
set_option linter.unusedVariables false
set_option linter.unusedSimpArgs false
theorem z8z : yza [] = [] := rfl
theorem zl0 (c d : UInt8) : (((c.toNat : Nat) : Int) == ((d.toNat : Nat) : Int)) = (c == d) := by
 rw [Bool.eq_iff_iff, beq_iff_eq, beq_iff_eq]
 exact ⟨fun h => UInt8.toNat_inj.1 (by omega), fun h => by rw [h]⟩
theorem b34 (c : UInt8) : (((c.toNat : Nat) : Int) == 34) = (c == 34) := zl0 c 34
theorem b92 (c : UInt8) : (((c.toNat : Nat) : Int) == 92) = (c == 92) := zl0 c 92
theorem b40 (c : UInt8) : (((c.toNat : Nat) : Int) == 40) = (c == 40) := zl0 c 40
theorem b91 (c : UInt8) : (((c.toNat : Nat) : Int) == 91) = (c == 91) := zl0 c 91
theorem b45 (c : UInt8) : (((c.toNat : Nat) : Int) == 45) = (c == 45) := zl0 c 45
theorem b47 (c : UInt8) : (((c.toNat : Nat) : Int) == 47) = (c == 47) := zl0 c 47
theorem b48 (c : UInt8) : (((c.toNat : Nat) : Int) == 48) = (c == 48) := zl0 c 48
def esc : List UInt8 → List UInt8
 | [] => []
 | c :: s => if c = 34 ∨ c = 92 then 92 :: c :: esc s else c :: esc s
def z9r (v : yz0) : List UInt8 := if v.kind = 1 then z1n v.num else if v.kind = 2 then (if v.truth then [116, 114, 117, 101] else [102, 97, 108, 115, 101]) else 34 :: (esc v.str ++ [34])
theorem zyf : ∀ s : List UInt8, (esc s).length ≤ 2 * s.length
 | [] => Nat.le_refl _
 | c :: s => by have := zyf s; unfold esc; split <;> simp <;> omega
theorem drop_cons {s : List UInt8} {k : Nat} (h : k < s.length) : s.drop k = s[k] :: s.drop (k + 1) := (List.getElem_cons_drop (h := h)).symm
theorem zqf {s : List UInt8} (hs : s.length ≤ 60) (ha : s.all zj6 = true) : ∀ k, k ≤ s.length → ∀ acc : List UInt8, acc.length ≤ 1000 - 2 * (s.length - k) → Ev (fun n => z1c n (yza acc) s k) (yza (acc ++ (esc (s.drop k) ++ [34]))) :=
 down (fun acc hl => by
  rw [z9m, Ev.yz1 (by simp), Ev.zz0 (wb (k := 34) (c := 34) rfl (by omega)), Ev.zz1]
  simp [esc]) fun k hk ih acc hl => by
  have hc := List.all_eq_true.1 ha _ (List.getElem_mem hk)
  have hlow : s[k].toNat < 128 := by
   unfold zj6 at hc; simp at hc; omega
  rw [z9m, Ev.kz1 (by simpa using hk), zyh hk hlow]
  have l2 : ∀ acc' : List UInt8, acc'.length + 1 ≤ 1000 - 2 * (s.length - (k + 1)) → Ev (fun n => z1d n (s[k].toNat : Int) (yza acc') s (k + 1)) (yza (acc' ++ (s[k] :: (esc (s.drop (k + 1)) ++ [34])))) := fun acc' h' => by
   obtain ⟨q, hq⟩ := wr (s := acc') (c := s[k]) rfl hlow (by omega)
   rw [zfv, Ev.zz0 hq]
   refine (ih (acc' ++ [s[k]]) (by simp; omega)).to ?_
   simp
  have l1 : (s[k] = 34 ∨ s[k] = 92) → Ev (fun n => z1b n (s[k].toNat : Int) (yza acc) s (k + 1)) (yza (acc ++ (esc (s.drop k) ++ [34]))) := fun h => by
   rw [zgi, Ev.zz0 (wb (k := 92) (c := 92) rfl (by omega))]
   refine (l2 (acc ++ [92]) (by simp; omega)).to ?_
   rw [drop_cons hk]
   simp [esc, h]
  simp only [b34, b92]
  by_cases h34 : s[k] = 34
  ·rw [Ev.kz1 (by simpa using h34)]; exact l1 (.inl h34)
  ·rw [Ev.yz1 (by simpa using h34)]
   by_cases h92 : s[k] = 92
   ·rw [Ev.kz1 (by simpa using h92)]; exact l1 (.inr h92)
   ·rw [Ev.yz1 (by simpa using h92)]
    refine (l2 acc (by omega)).to ?_
    rw [drop_cons hk]
    simp [esc, h34, h92]
theorem y6w {v : yz0} (h : z8k v = true) (hk : v.kind = 3) : v.str.length ≤ 60 ∧ v.str.all zj6 = true := by
 rw [z7i, if_neg (by omega), if_neg (by omega), if_pos hk] at h
 simp only [Bool.and_eq_true, decide_eq_true_eq] at h
 exact h.2.2.2
theorem zh3 {v : yz0} (h : z1l v = 0) : (z9r v).length ≤ 130 := by
 obtain ⟨hf, _, _⟩ := z9n h
 unfold z9r
 split
 ·rename_i hk; have := zkq (zhd hf hk); omega
 split
 ·split <;> decide
 ·have := zyf v.str
  rcases zcl hf with hk | hk | hk | hk
  ·contradiction
  ·contradiction
  ·obtain ⟨a, b⟩ := y6w hf hk
   simp; omega
  ·obtain ⟨_, _, _, a⟩ := yra hf hk
   rw [a]; decide
theorem zu1 {v : yz0} (hf : z8k v = true) (hk : v.kind = 3) : v.str.length ≤ 60 ∧ v.str.all zj6 = true := y6w hf hk
theorem zww {v : yz0} (hw : v.wf) (hs : v.size ≤ 8388608) (h : z1l v = 0) (hk : v.kind ≠ 4) : Ev (fun n => z79 n v) (z9r v, 0) := by
 obtain ⟨hf, _, _⟩ := z9n h
 have hl := zh3 h
 have hwr : Ev (fun n => z4m n v []) (yza (z9r v)) := by
  rw [zlr]
  unfold z9r
  by_cases h1 : v.kind = 1
  ·have hr := zhd hf h1
   have := ws (s := []) (t := z1n v.num) (by have := zkq hr; simp; omega)
   rw [z8z, List.nil_append] at this
   rw [Ev.kz1 (by simpa using h1), Ev.zz0 (zgv hr), Ev.zz0 this, Ev.zz1, if_pos h1]
  rw [Ev.yz1 (by simpa using h1), if_neg h1]
  by_cases h2 : v.kind = 2
  ·rw [Ev.kz1 (by simpa using h2), if_pos h2]
   cases ht : v.truth
   ·have := ws (s := []) (t := [102, 97, 108, 115, 101]) (by decide)
    rw [z8z, List.nil_append] at this
    rw [Ev.yz1 (by rfl), Ev.zz0 this, Ev.zz1]; rfl
   ·have := ws (s := []) (t := [116, 114, 117, 101]) (by decide)
    rw [z8z, List.nil_append] at this
    rw [Ev.kz1 (by rfl), Ev.zz0 this, Ev.zz1]; rfl
  rw [Ev.yz1 (by simpa using h2), if_neg h2]
  have h3 : v.kind = 3 := by rcases zcl hf with a | a | a | a <;> first | contradiction | exact a
  obtain ⟨q1, q2⟩ := zu1 hf h3
  have := wb (s := []) (k := 34) (c := 34) rfl (by decide)
  rw [z8z, List.nil_append] at this
  rw [Ev.kz1 (by simpa using h3), Ev.zz0 this]
  exact zqf q1 q2 0 (Nat.zero_le _) [34] (by simp; omega)
 have hc := zce hw hs
 rw [h] at hc
 rw [znw, yz0.kz2, Ev.zz0 hc, Ev.yz1 (by rfl), Ev.zz0 hwr, Ev.zz0 ysi, Ev.yz1 (by simp; omega), Ev.zz0 yp1, Ev.zz1]
theorem ysq {s : List UInt8} {k : Nat} (h : k < s.length) (hb : s.length ≤ 4611686018427387904) : sub s (k : Int) (IntKind.i64.wrap ((k : Int) + 1)) = some [s[k]] := by
 rw [wrk (by omega), zb8 (by omega) (by omega)]
 congr 1
 rw [List.drop_take, show k + 1 - k = 1 by omega, drop_cons h]
 rfl
theorem y99 {v : yz0} (h : z1l v = 0) (hk : v.kind ≠ 4) : Ev (fun n => z6h n v) (z9r v) := by
 obtain ⟨hf, _, _⟩ := z9n h
 rw [y0c]
 unfold z9r
 by_cases h1 : v.kind = 1
 ·rw [Ev.kz1 (by simpa using h1), Ev.zz0 (ym3 (zhd hf h1)), Ev.zz1, if_pos h1]
 rw [Ev.yz1 (by simpa using h1), if_neg h1]
 by_cases h2 : v.kind = 2
 ·rw [Ev.kz1 (by simpa using h2), if_pos h2]
  cases ht : v.truth
  ·rw [Ev.yz1 (by rfl), Ev.zz1]; rfl
  ·rw [Ev.kz1 (by rfl), Ev.zz1]; rfl
 rw [Ev.yz1 (by simpa using h2), if_neg h2]
 have h3 : v.kind = 3 := by rcases zcl hf with a | a | a | a <;> first | contradiction | exact a
 obtain ⟨q1, q2⟩ := zu1 hf h3
 rw [Ev.kz1 (by simpa using h3), yz0.kz2]
 have loop : ∀ k, k ≤ v.str.length → ∀ acc : List UInt8, acc.length ≤ 1000 - 2 * (v.str.length - k) → Ev (fun n => z42 n (k : Int) acc v) (acc ++ (esc (v.str.drop k) ++ [34])) :=
  down (fun acc hl => by
   rw [zjt, Ev.yz1 (by simp), Ev.yz2 (z3o (by simp; omega)), Ev.zz1]
   simp [esc]) fun k hk ih acc hl => by
   have l2 : ∀ acc' : List UInt8, acc'.length + 1 ≤ 1000 - 2 * (v.str.length - (k + 1)) → Ev (fun n => z4b n (k : Int) acc' v) (acc' ++ (v.str[k] :: (esc (v.str.drop (k + 1)) ++ [34]))) := fun acc' h' => by
    rw [zu9, Ev.yz2 (ysq hk (by omega)), Ev.yz2 (z3o (by simp; omega)), wrk (by omega), yz0.kz2]
    refine (ih (acc' ++ [v.str[k]]) (by simp; omega)).to ?_
    simp
   have l1 : ∀ b : Bool, (b = true ↔ (v.str[k] = 34 ∨ v.str[k] = 92)) → Ev (fun n => z4d n (k : Int) acc b v) (acc ++ (esc (v.str.drop k) ++ [34])) := fun b hb => by
    rw [zua, drop_cons hk]
    cases b
    ·have hn : ¬ (v.str[k] = 34 ∨ v.str[k] = 92) := fun h => by have := hb.2 h; cases this
     rw [Ev.yz1 (by rfl), yz0.kz2]
     refine (l2 acc (by omega)).to ?_
     simp [esc, hn]
    ·have hn := hb.1 rfl
     rw [Ev.kz1 (by rfl), Ev.yz2 (z3o (by simp; omega)), yz0.kz2]
     refine (l2 (acc ++ [92]) (by simp; omega)).to ?_
     simp [esc, hn]
   rw [zjt, Ev.kz1 (by simpa using hk), Ev.yz2 (yzb hk)]
   simp only [b34, b92]
   by_cases h34 : v.str[k] = 34
   ·rw [Ev.kz1 (by simpa using h34), yz0.kz2]; exact l1 true (by simp [h34])
   ·rw [Ev.yz1 (by simpa using h34), Ev.yz2 (yzb hk), yz0.kz2]
    exact l1 _ (by simp [h34])
 exact loop 0 (Nat.zero_le _) [34] (by simp; omega)
end Go.Proofs.YtfhpamcehnfhoaaGreatDoor


namespace Go.Proofs.YtfhpamcehnfhoaaGreatDoor
open Go Go.Ab
set_option linter.unusedVariables false
set_option linter.unusedSimpArgs false
def y7t : List (List UInt8) := [[43], [45], [42], [47], [60], [61], [97, 110, 100], [111, 114]]
def z3l : List (List UInt8) := [[110, 111, 116], [105, 102], [109, 105, 110], [109, 97, 120], [102, 108, 111, 111, 114], [108, 101, 110], [97, 116]]
def z3x (op : Int) : List UInt8 := if 3 ≤ op ∧ op ≤ 10 then y7t.getD (op - 3).toNat [] else []
def z4q (op : Int) : List UInt8 := if 11 ≤ op ∧ op ≤ 17 then z3l.getD (op - 11).toNat [] else []
theorem y0p : kzd 0 [43, 32, 45, 32, 42, 32, 47, 32, 60, 32, 61, 32, 97, 110, 100, 32, 111, 114] = some y7t := by decide +kernel
theorem y5d : Ev (fun n => kzd n [43, 32, 45, 32, 42, 32, 47, 32, 60, 32, 61, 32, 97, 110, 100, 32, 111, 114]) y7t := ⟨0, fun _ _ => y0p⟩
theorem y1e : kzd 0 [110, 111, 116, 32, 105, 102, 32, 109, 105, 110, 32, 109, 97, 120, 32, 102, 108, 111, 111, 114, 32, 108, 101, 110, 32, 97, 116] = some z3l := by decide +kernel
theorem zsx : Ev (fun n => kzd n [110, 111, 116, 32, 105, 102, 32, 109, 105, 110, 32, 109, 97, 120, 32, 102, 108, 111, 111, 114, 32, 108, 101, 110, 32, 97, 116]) z3l := ⟨0, fun _ _ => y1e⟩
theorem op8 {op : Int} (h : 3 ≤ op ∧ op ≤ 10) : op = 3 ∨ op = 4 ∨ op = 5 ∨ op = 6 ∨ op = 7 ∨ op = 8 ∨ op = 9 ∨ op = 10 := by omega
theorem op7 {op : Int} (h : 11 ≤ op ∧ op ≤ 17) : op = 11 ∨ op = 12 ∨ op = 13 ∨ op = 14 ∨ op = 15 ∨ op = 16 ∨ op = 17 := by omega
theorem zdn {op : Int} : Ev (fun n => z5s n op) (z3x op) := by
 have l0 : ∀ b, (b = true ↔ ¬ (3 ≤ op ∧ op ≤ 10)) → Ev (fun n => z2w n op b) (z3x op) := fun b hb => by
  rw [zjo]
  cases b
  ·have h : 3 ≤ op ∧ op ≤ 10 := Classical.not_not.1 fun h => by have := hb.2 h; cases this
   rw [Ev.yz1 (by rfl), Ev.zz0 y5d]
   unfold z3x
   rw [if_pos h]
   rcases op8 h with rfl | rfl | rfl | rfl | rfl | rfl | rfl | rfl <;> exact ⟨0, fun _ _ => rfl⟩
  ·rw [Ev.kz1 (by rfl), Ev.zz1]; unfold z3x; rw [if_neg (hb.1 rfl)]
 rw [zpw]
 by_cases h : op < 3
 ·rw [Ev.kz1 (by simpa using h)]; exact l0 true (by simp; omega)
 ·rw [Ev.yz1 (by simpa using h)]; exact l0 _ (by simp; omega)
theorem zwa {op : Int} : Ev (fun n => z6r n op) (z3x op) := by
 rw [y8w]
 unfold z3x
 by_cases h : 3 ≤ op ∧ op ≤ 10
 ·rw [if_pos h, Ev.kz1 (by simpa using h.1), zi8, Ev.kz1 (by simpa using h.2)]
  rcases op8 h with rfl | rfl | rfl | rfl | rfl | rfl | rfl | rfl <;> exact ⟨0, fun _ _ => rfl⟩
 ·rw [if_neg h]
  by_cases h3 : op ≥ 3
  ·rw [Ev.kz1 (by simpa using h3), zi8, Ev.yz1 (by simp; omega), Ev.zz1]
  ·rw [Ev.yz1 (by simpa using h3), zi8, Ev.yz1 (by rfl), Ev.zz1]
theorem zq8 {op : Int} : Ev (fun n => z7x n op) (z4q op) := by
 rw [y2r]
 unfold z4q
 by_cases h : 11 ≤ op ∧ op ≤ 17
 ·rw [if_pos h, Ev.kz1 (by simpa using h.1), zen, Ev.kz1 (by simpa using h.2)]
  rcases op7 h with rfl | rfl | rfl | rfl | rfl | rfl | rfl <;> exact ⟨0, fun _ _ => rfl⟩
 ·rw [if_neg h]
  by_cases h3 : op ≥ 11
  ·rw [Ev.kz1 (by simpa using h3), zen, Ev.yz1 (by simp; omega), Ev.zz1]
  ·rw [Ev.yz1 (by simpa using h3), zen, Ev.yz1 (by rfl), Ev.zz1]
def z32 (op : Int) : List UInt8 := if z3x op ≠ [] then [40] else if op ≠ 18 then z4q op ++ [40] else [91]
def zal (op : Int) : List UInt8 := if z3x op ≠ [] then 32 :: (z3x op ++ [32]) else [44, 32]
def z0s (op : Int) : List UInt8 := if z3x op ≠ [] then [41] else if op ≠ 18 then [41] else [93]
mutual
def z0i : kz0 → List UInt8
 | ⟨op, v, nm, l⟩ => if op = 1 then z9r v else if op = 2 then nm else z32 op ++ (kzv (zal op) false l ++ z0s op)
def kzv (mid : List UInt8) : Bool → List kz0 → List UInt8
 | _, [] => []
 | b, e :: l => (if b then mid else []) ++ (z0i e ++ kzv mid true l)
end
theorem zcz (e : kz0) : z0i e = if e.op = 1 then z9r e.value else if e.op = 2 then e.name else z32 e.op ++ (kzv (zal e.op) false e.args ++ z0s e.op) := by cases e; rw [z0i]
theorem zaf (op : Int) : (z3x op).length ≤ 3 := by
 unfold z3x
 split
 ·rename_i h; rcases op8 h with rfl | rfl | rfl | rfl | rfl | rfl | rfl | rfl <;> decide
 ·decide
theorem zfa (op : Int) : (z4q op).length ≤ 5 := by
 unfold z4q
 split
 ·rename_i h; rcases op7 h with rfl | rfl | rfl | rfl | rfl | rfl | rfl <;> decide
 ·decide
theorem zkn (op : Int) : (z32 op).length ≤ 6 := by
 have := zfa op
 unfold z32
 split
 ·decide
 split
 ·simp; omega
 ·decide
theorem zt3 (op : Int) : (zal op).length ≤ 5 := by
 have := zaf op
 unfold zal
 split
 ·simp; omega
 ·decide
theorem zlb (op : Int) : (z0s op).length = 1 := by
 unfold z0s
 split
 ·rfl
 split <;> rfl
theorem z7r {e : kz0} (h : z2p e = true) : ∀ x ∈ e.args, z2p x = true := by
 rw [zii, y64] at h
 simp only [Bool.and_eq_true, List.all_eq_true] at h
 exact h.2.2
theorem zbo {e : kz0} (h : z2p e = true) : zm9 e.op e.value e.name = true := by
 rw [zii] at h
 simp only [Bool.and_eq_true] at h
 exact h.2.1
theorem zb9 {e : kz0} (h : z2p e = true) : zcy e.op e.args.length = true := by
 rw [zii] at h
 simp only [Bool.and_eq_true] at h
 exact h.1
theorem yfl {v : yz0} {nm : List UInt8} (h : zm9 1 v nm = true) : z1l v = 0 ∧ v.kind ≠ 4 ∧ nm = [] := by
 unfold zm9 at h
 simpa using h
theorem ymc {v : yz0} {nm : List UInt8} (h : zm9 2 v nm = true) : zd0 nm = true ∧ v = v0 := by
 unfold zm9 at h
 simp at h
 exact ⟨h.1, zbj.1 h.2⟩
theorem yh3 {op : Int} {v : yz0} {nm : List UInt8} (h1 : op ≠ 1) (h2 : op ≠ 2) (h : zm9 op v nm = true) : nm = [] ∧ v = v0 := by
 unfold zm9 at h
 rw [if_neg h1, if_neg h2] at h
 simp at h
 exact ⟨h.1, zbj.1 h.2⟩
theorem zoh {s : List UInt8} (h : zd0 s = true) : s.length ≤ 40 := by
 unfold zd0 z9w at h
 cases s with
 | nil => simp at h
 | cons c t => simp at h ⊢; omega
theorem ymi {op : Int} {k : Nat} (h : zcy op k = true) (ho : 3 ≤ op ∧ op ≤ 10) : k = 2 := by
 unfold zcy at h
 have hc : z27 op = 2 := by unfold z27; rw [if_neg (by omega), if_pos (.inl ho)]
 rw [hc] at h
 simp at h
 omega
theorem zm0 {mid : List UInt8} (hm : mid.length ≤ 5) : ∀ (l : List kz0) (b : Bool), (∀ x ∈ l, (z0i x).length + 8 ≤ 200 * z45 x) → (kzv mid b l).length ≤ 200 * zzq l
 | [], b, _ => by simp [kzv]
 | e :: l, b, h => by
   have h1 := h e List.mem_cons_self
   have h2 := zm0 hm l true fun x hx => h x (List.mem_cons_of_mem _ hx)
   rw [kzv, zzq]
   simp only [List.length_append]
   cases b <;> simp <;> omega
theorem zko : ∀ e : kz0, z2p e = true → (z0i e).length + 8 ≤ 200 * z45 e := zt6 fun e ih hf => by
 rw [zcz, z9i]
 have ho := zbo hf
 split
 ·rename_i h; rw [h] at ho; have := zh3 (yfl ho).1; omega
 split
 ·rename_i h; rw [h] at ho; have := zoh (ymc ho).1; omega
 ·have h1 := zkn e.op
  have h2 := zlb e.op
  have h3 := zm0 (zt3 e.op) e.args false fun x hx => ih x hx (z7r hf x hx)
  simp only [List.length_append]
  omega
end Go.Proofs.YtfhpamcehnfhoaaGreatDoor


namespace Go.Proofs.YtfhpamcehnfhoaaGreatDoor
open Go Go.Ab
set_option linter.unusedVariables false
set_option linter.unusedSimpArgs false
theorem zhb {op : Int} (h : 3 ≤ op ∧ op ≤ 10) : z3x op ≠ [] := by
 rcases op8 h with rfl | rfl | rfl | rfl | rfl | rfl | rfl | rfl <;> decide
theorem zi9 {op : Int} (h : ¬ (3 ≤ op ∧ op ≤ 10)) : z3x op = [] := by unfold z3x; rw [if_neg h]
theorem zna {op : Int} {k : Nat} (h : zcy op k = true) : ((op = 1 ∨ op = 2) ∧ k = 0) ∨ (z27 op = 2 ∧ k = 2) ∨ (z27 op = 1 ∧ k = 1) ∨ (op = 12 ∧ k = 3) ∨ op = 18 := by
 unfold zcy at h
 simp only [Bool.and_eq_true, bne_iff_ne, ne_eq, Bool.or_eq_true, decide_eq_true_eq, beq_iff_eq] at h
 unfold z27 at h ⊢
 by_cases h1 : op = 1 ∨ op = 2
 ·rw [if_pos h1] at h; exact .inl ⟨h1, by omega⟩
 rw [if_neg h1] at h ⊢
 by_cases h2 : (3 ≤ op ∧ op ≤ 10) ∨ op = 13 ∨ op = 14 ∨ op = 17
 ·rw [if_pos h2] at h ⊢; exact .inr (.inl ⟨rfl, by omega⟩)
 rw [if_neg h2] at h ⊢
 by_cases h3 : op = 11 ∨ op = 15 ∨ op = 16
 ·rw [if_pos h3] at h ⊢; exact .inr (.inr (.inl ⟨rfl, by omega⟩))
 rw [if_neg h3] at h ⊢
 by_cases h4 : op = 12
 ·rw [if_pos h4] at h; exact .inr (.inr (.inr (.inl ⟨h4, by omega⟩)))
 rw [if_neg h4] at h
 by_cases h5 : op = 18
 ·exact .inr (.inr (.inr (.inr h5)))
 ·rw [if_neg h5] at h; omega
theorem zgb {op : Int} {k : Nat} (h : zcy op k = true) (h1 : op ≠ 1) (h2 : op ≠ 2) (h3 : ¬ (3 ≤ op ∧ op ≤ 10)) (h4 : op ≠ 18) : 11 ≤ op ∧ op ≤ 17 := by
 rcases zna h with ⟨a | a, _⟩ | ⟨a, _⟩ | ⟨a, _⟩ | ⟨a, _⟩ | a
 ·exact (h1 a).elim
 ·exact (h2 a).elim
 ·unfold z27 at a
  repeat' split at a
  all_goals omega
 ·unfold z27 at a
  repeat' split at a
  all_goals omega
 ·omega
 ·exact (h4 a).elim
theorem y1g {op : Int} (h : 11 ≤ op ∧ op ≤ 17) : ix z3l (IntKind.u8.wrap (op - 11)) = some (z4q op) := by
 rcases op7 h with rfl | rfl | rfl | rfl | rfl | rfl | rfl <;> rfl
theorem zwg : ∀ e : kz0, e.wf → e.size ≤ 8388608 → z2p e = true → ∀ acc : List UInt8, acc.length + 200 * z45 e ≤ 1000000 → Ev (fun n => z5i n e (yza acc)) (yza (acc ++ z0i e)) := zt6 fun e ih hw hs hf acc hl => by
 have ho := zbo hf
 have har := zb9 hf
 have hsz := z5y e
 have hp := z9i e
 have hln := zao e.args
 rw [zns, zcz]
 by_cases h1 : e.op = 1
 ·rw [h1] at ho
  obtain ⟨o1, o2, _⟩ := yfl ho
  have := zh3 o1
  rw [Ev.kz1 (by simpa using h1), yz0.kz2, Ev.zz0 (zww (y03 hw) (by omega) o1 o2), Ev.kz1 (by rfl), Ev.zz0 (ws (t := z9r e.value) (by omega)), Ev.zz1, if_pos h1]
 rw [Ev.yz1 (by simpa using h1), if_neg h1]
 by_cases h2 : e.op = 2
 ·rw [h2] at ho
  have := zoh (ymc ho).1
  rw [Ev.kz1 (by simpa using h2), Ev.zz0 (ws (by omega)), Ev.zz1, if_pos h2]
 rw [Ev.yz1 (by simpa using h2), if_neg h2]
 have q1 := zkn e.op
 have q2 := zt3 e.op
 have q3 := zlb e.op
 have loop : ∀ k, k ≤ e.args.length → ∀ acc' : List UInt8, acc'.length + 200 * zzq (e.args.drop k) + 190 ≤ 1000000 → Ev (fun n => z22 n (k : Int) (zal e.op) e.args (z0s e.op) (e.args.length : Int) (yza acc')) (yza (acc' ++ (kzv (zal e.op) (decide (0 < k)) (e.args.drop k) ++ z0s e.op))) :=
  down (fun acc' h' => by
   rw [zaj, Ev.yz1 (by simp), Ev.zz0 (ws (by omega)), Ev.zz1]
   simp [kzv]) fun k hk ihk acc' h' => by
   have hm := List.getElem_mem hk
   have hd : e.args.drop k = e.args[k] :: e.args.drop (k + 1) := (List.getElem_cons_drop (h := hk)).symm
   rw [hd] at h' ⊢
   rw [zzq] at h'
   have hx := zko _ (z7r hf _ hm)
   have l2 : ∀ acc'' : List UInt8, acc''.length + 200 * z45 e.args[k] + 200 * zzq (e.args.drop (k + 1)) + 185 ≤ 1000000 → Ev (fun n => z1w n (zal e.op) e.args (z0s e.op) (e.args.length : Int) (k : Int) (yza acc'') e.args[k]) (yza (acc'' ++ (z0i e.args[k] ++ (kzv (zal e.op) true (e.args.drop (k + 1)) ++ z0s e.op)))) := fun acc'' g1 => by
    rw [zhf, kz0.kz2, Ev.zz0 (ih _ hm (y79 hw _ hm) (by have := zcx hm; omega) (z7r hf _ hm) acc'' (by omega)), wrk (by omega)]
    have := ihk (acc'' ++ z0i e.args[k]) (by simp; omega)
    rw [show decide (0 < k + 1) = true by simp] at this
    refine this.to ?_
    simp
   rw [zaj, Ev.kz1 (by simpa using hk), Ev.yz2 (yzb hk), kz0.kz2, kzv]
   by_cases hk0 : 0 < k
   ·rw [Ev.kz1 (by simpa using hk0), Ev.zz0 (ws (by omega))]
    refine (l2 (acc' ++ zal e.op) (by simp; omega)).to ?_
    simp [hk0]
   ·rw [Ev.yz1 (by simpa using hk0)]
    refine (l2 acc' (by omega)).to ?_
    simp [hk0]
 have l0 : Ev (fun n => z11 n (zal e.op) (z0s e.op) (z32 e.op) (yza acc) e) (yza (acc ++ (z32 e.op ++ (kzv (zal e.op) false e.args ++ z0s e.op)))) := by
  rw [zi0, Ev.zz0 (ws (by omega))]
  refine (loop 0 (Nat.zero_le _) (acc ++ z32 e.op) (by simp; omega)).to ?_
  simp
 rw [Ev.zz0 zdn]
 by_cases h3 : 3 ≤ e.op ∧ e.op ≤ 10
 ·have hn := zhb h3
  have hl3 := zaf e.op
  rw [Ev.kz1 (by simpa using hn), Ev.zz0 zdn, Ev.yz2 (z3o (by simp; omega)), Ev.yz2 (z3o (by simp; omega)), kz0.kz2]
  have e1 : [32] ++ z3x e.op ++ [32] = zal e.op := by unfold zal; rw [if_pos hn]; simp
  have e2 : [41] = z0s e.op := by unfold z0s; rw [if_pos hn]
  have e3 : [40] = z32 e.op := by unfold z32; rw [if_pos hn]
  rw [e1, e2, e3]
  exact l0
 ·have hn := zi9 h3
  rw [Ev.yz1 (by simp [hn]), kz0.kz2]
  have e1 : [44, 32] = zal e.op := by unfold zal; rw [if_neg (by simpa using hn)]
  by_cases h18 : e.op = 18
  ·have e2 : [93] = z0s e.op := by unfold z0s; rw [if_neg (by simpa using hn), if_neg (by simpa using h18)]
   have e3 : [91] = z32 e.op := by unfold z32; rw [if_neg (by simpa using hn), if_neg (by simpa using h18)]
   rw [Ev.yz1 (by simpa using h18), e1, e2, e3]
   exact l0
  ·have hr := zgb har h1 h2 h3 h18
   have hcl := zfa e.op
   have e2 : [41] = z0s e.op := by unfold z0s; rw [if_neg (by simpa using hn), if_pos (by simpa using h18)]
   have e3 : z4q e.op ++ [40] = z32 e.op := by unfold z32; rw [if_neg (by simpa using hn), if_pos (by simpa using h18)]
   rw [Ev.kz1 (by simpa using h18), Ev.zz0 zsx, Ev.yz2 (y1g hr), Ev.yz2 (z3o (by simp; omega)), e1, e2, e3]
   exact l0
theorem y8u : ∀ e : kz0, e.size ≤ 8388608 → z2p e = true → z45 e ≤ 5000 → Ev (fun n => z1x n e) (z0i e) := zt6 fun e ih hs hf hpp => by
 have ho := zbo hf
 have har := zb9 hf
 have hsz := z5y e
 have hp := z9i e
 have hln := zao e.args
 have ihx : ∀ x, x ∈ e.args → Ev (fun n => z1x n x) (z0i x) := fun x hx => ih x hx (by have := zcx hx; omega) (z7r hf x hx) (by
  have : ∀ l : List kz0, x ∈ l → z45 x ≤ zzq l := fun l => by
   induction l with
   | nil => simp
   | cons y l ihl =>
     intro hm
     rw [zzq]
     rcases List.mem_cons.1 hm with rfl | hm
     · omega
     · have := ihl hm; omega
  have := this e.args hx
  omega)
 rw [zyv, zcz]
 by_cases h1 : e.op = 1
 ·rw [h1] at ho
  obtain ⟨o1, o2, _⟩ := yfl ho
  rw [Ev.kz1 (by simpa using h1), yz0.kz2, Ev.zz0 (y99 o1 o2), Ev.zz1, if_pos h1]
 rw [Ev.yz1 (by simpa using h1), if_neg h1]
 by_cases h2 : e.op = 2
 ·rw [Ev.kz1 (by simpa using h2), Ev.zz1, if_pos h2]
 rw [Ev.yz1 (by simpa using h2), if_neg h2, Ev.zz0 zwa]
 by_cases h3 : 3 ≤ e.op ∧ e.op ≤ 10
 ·have hn := zhb h3
  have hl3 := zaf e.op
  have h2' := ymi har h3
  obtain ⟨a, b, hab⟩ : ∃ a b, e.args = [a, b] := by
   match e.args, h2' with
   | [a, b], _ => exact ⟨a, b, rfl⟩
  have ha : a ∈ e.args := by rw [hab]; simp
  have hb : b ∈ e.args := by rw [hab]; simp
  have la := zko _ (z7r hf _ ha)
  have lb := zko _ (z7r hf _ hb)
  have hpl : zzq e.args = z45 a + z45 b := by rw [hab]; simp [zzq]
  rw [Ev.kz1 (by have := List.length_pos_iff.2 hn; simp; omega), hab]
  rw [Ev.yz2 (show ix [a, b] 0 = some a by rfl), kz0.kz2, Ev.zz0 (ihx a ha), Ev.yz2 (z3o (by simp; omega)), Ev.yz2 (z3o (by simp; omega)), Ev.zz0 zwa, Ev.yz2 (z3o (by simp; omega)), Ev.yz2 (z3o (by simp; omega)),
   Ev.yz2 (show ix [a, b] 1 = some b by rfl), kz0.kz2, Ev.zz0 (ihx b hb), Ev.yz2 (z3o (by simp; omega)), Ev.yz2 (z3o (by simp; omega)), Ev.zz1]
  unfold z32 zal z0s
  rw [if_pos hn, if_pos hn, if_pos hn]
  simp [kzv]
 ·have hn := zi9 h3
  have q2 : zal e.op = [44, 32] := by unfold zal; rw [if_neg (by simpa using hn)]
  rw [Ev.yz1 (by simp [hn]), kz0.kz2]
  have loop : ∀ k, k ≤ e.args.length → ∀ acc : List UInt8, acc.length + 200 * zzq (e.args.drop k) + 190 ≤ 2000000 → Ev (fun n => z41 n (k : Int) acc e) (acc ++ (kzv (zal e.op) (decide (0 < k)) (e.args.drop k) ++ z0s e.op)) :=
   down (fun acc h' => by
    rw [zjy, Ev.yz1 (by simp)]
    unfold z0s
    rw [if_neg (by simpa using hn)]
    by_cases h18 : e.op = 18
    ·rw [Ev.kz1 (by simpa using h18), Ev.yz2 (z3o (by simp; omega)), Ev.zz1, if_neg (by simpa using h18)]
     simp [kzv]
    ·rw [Ev.yz1 (by simpa using h18), Ev.yz2 (z3o (by simp; omega)), Ev.zz1, if_pos (by simpa using h18)]
     simp [kzv]) fun k hk ihk acc h' => by
    have hm := List.getElem_mem hk
    have hd : e.args.drop k = e.args[k] :: e.args.drop (k + 1) := (List.getElem_cons_drop (h := hk)).symm
    rw [hd] at h' ⊢
    rw [zzq] at h'
    have hx := zko _ (z7r hf _ hm)
    have l2 : ∀ acc'' : List UInt8, acc''.length + 200 * z45 e.args[k] + 200 * zzq (e.args.drop (k + 1)) + 185 ≤ 2000000 → Ev (fun n => z47 n (k : Int) acc'' e) (acc'' ++ (z0i e.args[k] ++ (kzv (zal e.op) true (e.args.drop (k + 1)) ++ z0s e.op))) := fun acc'' g1 => by
     rw [zu7, Ev.yz2 (yzb hk), kz0.kz2, Ev.zz0 (ihx _ hm), Ev.yz2 (z3o (by omega)), wrk (by omega), kz0.kz2]
     have := ihk (acc'' ++ z0i e.args[k]) (by simp; omega)
     rw [show decide (0 < k + 1) = true by simp] at this
     refine this.to ?_
     simp
    rw [zjy, Ev.kz1 (by simpa using hk), kzv]
    by_cases hk0 : 0 < k
    ·rw [Ev.kz1 (by simpa using hk0), Ev.yz2 (z3o (by simp; omega)), kz0.kz2, ← q2]
     refine (l2 (acc ++ zal e.op) (by rw [q2]; simp; omega)).to ?_
     simp [hk0]
    ·rw [Ev.yz1 (by simpa using hk0), kz0.kz2]
     refine (l2 acc (by omega)).to ?_
     simp [hk0]
  have l0 : Ev (fun n => z4a n (z32 e.op) e) (z32 e.op ++ (kzv (zal e.op) false e.args ++ z0s e.op)) := by
   have q1 := zkn e.op
   rw [zux, kz0.kz2]
   refine (loop 0 (Nat.zero_le _) (z32 e.op) (by simp; omega)).to ?_
   simp
  by_cases h18 : e.op = 18
  ·have e3 : [91] = z32 e.op := by unfold z32; rw [if_neg (by simpa using hn), if_neg (by simpa using h18)]
   rw [Ev.yz1 (by simpa using h18), e3]
   exact l0
  ·have hcl := zfa e.op
   have e3 : z4q e.op ++ [40] = z32 e.op := by unfold z32; rw [if_neg (by simpa using hn), if_pos (by simpa using h18)]
   rw [Ev.kz1 (by simpa using h18), Ev.zz0 zq8, Ev.yz2 (z3o (by simp; omega)), e3]
   exact l0
noncomputable def zrf (e : kz0) : List UInt8 × Int := if z97 e ≠ 0 then ([], z97 e) else if 4000 < (z0i e).length then ([], 4) else (z0i e, 0)
theorem y0v {e : kz0} (hw : e.wf) (hs : e.size ≤ 8388608) : Ev (fun n => z6u n e) (zrf e) := by
 unfold zrf
 rw [zpq, kz0.kz2, Ev.zz0 (zps hw hs)]
 by_cases hc : z97 e = 0
 ·obtain ⟨hf, hp, _⟩ := zir hc
  have h := zwg e hw hs hf [] (by simp; omega)
  rw [z8z, List.nil_append] at h
  rw [Ev.yz1 (by simpa using hc), Ev.zz0 h, Ev.zz0 ysi, if_neg (by simpa using hc)]
  by_cases hl : 4000 < (z0i e).length
  ·rw [Ev.kz1 (by simp; omega), Ev.zz1, if_pos hl]
  ·rw [Ev.yz1 (by simp; omega), Ev.zz0 yp1, Ev.zz1, if_neg hl]
 ·rw [Ev.kz1 (by simpa using hc), Ev.zz1, if_pos (by simpa using hc)]
theorem ynf {e : kz0} (hs : e.size ≤ 8388608) : Ev (fun n => zbv n e) (zrf e) := by
 unfold zrf
 rw [yai, kz0.kz2, Ev.zz0 (zj1 hs)]
 by_cases hc : z97 e = 0
 ·obtain ⟨hf, hp, _⟩ := zir hc
  rw [Ev.yz1 (by simpa using hc), Ev.zz0 (y8u e hs hf (by omega)), if_neg (by simpa using hc)]
  by_cases hl : 4000 < (z0i e).length
  ·rw [Ev.kz1 (by simp; omega), Ev.zz1, if_pos hl]
  ·rw [Ev.yz1 (by simp; omega), Ev.zz1, if_neg hl]
 ·rw [Ev.kz1 (by simpa using hc), Ev.zz0 (zj1 hs), Ev.zz1, if_pos (by simpa using hc)]
end Go.Proofs.YtfhpamcehnfhoaaGreatDoor


namespace Go.Proofs.YtfhpamcehnfhoaaGreatDoor
open Go Go.Ab
set_option linter.unusedVariables false
set_option linter.unusedSimpArgs false
theorem zxn {p s : List UInt8} : p.isPrefixOf s = (s.take p.length == p) := by
 rw [Bool.eq_iff_iff, List.isPrefixOf_iff_prefix, List.prefix_iff_eq_take, beq_iff_eq]
 exact eq_comm
theorem hasPrefix {s p : List UInt8} : Ev (fun n => kz6 n s p) (p.isPrefixOf s) := by
 rw [z9c, zxn]
 by_cases h : p.length ≤ s.length
 ·rw [Ev.kz1 (by simp; omega), Ev.yz2 (zd8 h), Ev.zz1]
 ·rw [Ev.yz1 (by simp; omega), Ev.zz1, eq_comm, beq_eq_false_iff_ne]
  intro e
  have := congrArg List.length e
  simp at this; omega
theorem zph {s p : List UInt8} : Ev (fun n => z0m n s p) (p.isPrefixOf s) := by rw [zit, Ev.zz0 hasPrefix, Ev.zz1]
theorem zxh {p s : List UInt8} (h : p.isPrefixOf s = true) : p.length ≤ s.length := by
 rw [List.isPrefixOf_iff_prefix] at h; exact h.length_le
theorem zol {s p : List UInt8} : Ev (fun n => zzy n s p) (if p.isPrefixOf s then s.drop p.length else s, p.isPrefixOf s) := by
 have h : Ev (fun n => zze n s p) (if p.isPrefixOf s then s.drop p.length else s, p.isPrefixOf s) := by
  rw [z9a, Ev.zz0 hasPrefix]
  cases hp : p.isPrefixOf s
  ·rw [Ev.kz1 (by rfl), Ev.zz1]; rfl
  ·rw [Ev.yz1 (by rfl), Ev.yz2 (zb8 (zxh hp) (Nat.le_refl _)), Ev.zz1]
   simp
 rw [ziy, Ev.zz0 h, Ev.zz1]
theorem yte {s : List UInt8} (hl : s.length ≤ 1000000) : Ev (fun n => z7k n s [47]) (cutAt 47 s) := by
 have hi : Ev (fun n => yzp n s [47]) (Lib.indexByte s 47) := ⟨0, fun _ _ => rfl⟩
 have h : Ev (fun n => kzm n s [47]) (cutAt 47 s) := by
  rw [zc4, Ev.zz0 hi, zy6]
  cases ha : s.any (· == 47)
  ·rw [ynh ha, Ev.yz1 (by rfl), Ev.zz1]
  ·obtain ⟨c1, c2, c3⟩ := yok ha
   rw [if_pos rfl, Ev.kz1 (by simp), Ev.yz2 (zd8 (by omega))]
   simp only [List.length_cons, List.length_nil]
   rw [show (((0 + 1 : Nat) : Nat) : Int) = 1 by rfl, wrk (by omega), Ev.yz2 (zb8 (by omega) (Nat.le_refl _)), Ev.zz1, c2]
   unfold cutAt
   rw [ha]
   simp [c3]
 rw [ztb, Ev.zz0 h, Ev.zz1]
def yr2 (a : Nat) (c : UInt8) : Nat := 10 * a + (c.toNat - 48)
def val (a : Nat) (s : List UInt8) : Nat := s.foldl yr2 a
theorem y46 (a : Nat) : val a [] = a := by unfold val; rw [List.foldl_nil]
theorem zyn (a : Nat) (c : UInt8) (s : List UInt8) : val a (c :: s) = val (10 * a + (c.toNat - 48)) s := by unfold val; rw [List.foldl_cons, yr2]
theorem ykl (a : Nat) (s : List UInt8) (c : UInt8) : val a (s ++ [c]) = 10 * val a s + (c.toNat - 48) := by unfold val; rw [List.foldl_append, List.foldl_cons, List.foldl_nil, yr2]
theorem z7s {c : UInt8} : z7u c = true ↔ 48 ≤ c.toNat ∧ c.toNat ≤ 57 := by unfold z7u; simp
theorem yqp : ∀ (s : List UInt8) (a k : Nat), s.all z7u = true → a < 10 ^ k → val a s < 10 ^ (k + s.length)
 | [], a, k, _, h => by rw [y46, List.length_nil, Nat.add_zero]; exact h
 | c :: s, a, k, hs, h => by
   simp only [List.all_cons, Bool.and_eq_true] at hs
   have hc := z7s.1 hs.1
   have := yqp s (10 * a + (c.toNat - 48)) (k + 1) hs.2 (by rw [Nat.pow_succ]; omega)
   rw [zyn, List.length_cons, show k + (s.length + 1) = k + 1 + s.length by omega]
   exact this
theorem w32i {k : Int} (h : -1000 ≤ k ∧ k ≤ 1000) : IntKind.i32.wrap k = k := IntWalk.i32_in _ (by omega)
def zt9 (s : List UInt8) : Int × Bool := if s.length = 0 ∨ 10 < s.length ∨ (s.head? = some 48 ∧ 1 < s.length) then (0, false) else if s.all z7u then ((val 0 s : Nat), true) else (0, false)
theorem zye {k : Nat} (h : k ≤ 10) : 10 ^ k ≤ 10000000000 := Nat.pow_le_pow_right (by decide) h
theorem yhd {s : List UInt8} (hs : s.length ≤ 10) : ∀ k, k ≤ s.length → ∀ a : Nat, a < 10 ^ k → Ev (fun n => z1i n (a : Int) s k) (if (s.drop k).all z7u then ((val a (s.drop k) : Nat), true) else (0, false)) :=
 down (fun a ha => by
  rw [zey, Ev.yz1 (by simp), Ev.zz1, List.drop_length, y46]
  rfl) fun k hk ih a ha => by
  have hp := zye (k := k) (by omega)
  have hd : s.drop k = s[k] :: s.drop (k + 1) := (List.getElem_cons_drop (h := hk)).symm
  have bad : ∀ (c : Int) (j : Nat), z7u s[k] = false → Ev (fun n => z1g n c (a : Int) true s j) (if (s.drop k).all z7u then (((val a (s.drop k) : Nat) : Int), true) else (0, false)) := fun c j hb => by
   rw [zex, Ev.kz1 (by rfl), Ev.zz1, hd]
   simp only [List.all_cons, hb, Bool.false_and]
   rfl
  rw [zey, Ev.kz1 (by simpa using hk)]
  by_cases hlow : s[k].toNat < 128
  ·rw [zyh hk hlow]
   by_cases h48 : s[k].toNat < 48
   ·rw [Ev.kz1 (by simp; omega)]
    exact bad _ _ (by cases h : z7u s[k]; rfl; have := z7s.1 h; omega)
   ·rw [Ev.yz1 (by simp; omega)]
    by_cases h57 : 57 < s[k].toNat
    ·rw [show decide (((s[k].toNat : Nat) : Int) > 57) = true by simp; omega]
     exact bad _ _ (by cases h : z7u s[k]; rfl; have := z7s.1 h; omega)
    ·rw [show decide (((s[k].toNat : Nat) : Int) > 57) = false by simp; omega, zex, Ev.yz1 (by rfl), w32i (by omega), wI (x := (s[k].toNat : Int) - 48) (by omega), wI (x := 10 * (a : Int)) (by omega), wI (by omega)]
     have hdig : z7u s[k] = true := z7s.2 (by omega)
     have := ih (10 * a + (s[k].toNat - 48)) (by rw [Nat.pow_succ]; omega)
     rw [show ((10 * a + (s[k].toNat - 48) : Nat) : Int) = 10 * (a : Int) + ((s[k].toNat : Int) - 48) by omega] at this
     refine this.to ?_
     rw [hd]
     simp only [List.all_cons, hdig, Bool.true_and, zyn]
  ·obtain ⟨g1, g2⟩ := yce hk (by omega)
   rw [Ev.yz1 (by simp; omega), show decide ((((zat s k).1 : Nat) : Int) > 57) = true by simp; omega]
   exact bad _ _ (by cases h : z7u s[k]; rfl; have := z7s.1 h; omega)
theorem zd5 {s : List UInt8} : Ev (fun n => z4n n s) (zt9 s) := by
 have l0 : ∀ b, (b = true ↔ (s.length = 0 ∨ 10 < s.length ∨ (s.head? = some 48 ∧ 1 < s.length))) → Ev (fun n => z05 n s b) (zt9 s) := fun b hb => by
  rw [zlk]
  unfold zt9
  cases b
  ·have hn : ¬ (s.length = 0 ∨ 10 < s.length ∨ (s.head? = some 48 ∧ 1 < s.length)) := fun h => by have := hb.2 h; cases this
   rw [Ev.yz1 (by rfl), if_neg hn]
   exact (yhd (by omega) 0 (Nat.zero_le _) 0 (by decide)).to (by simp)
  ·rw [Ev.kz1 (by rfl), Ev.zz1, if_pos (hb.1 rfl)]
 rw [zqn]
 by_cases h0 : s.length = 0
 ·rw [Ev.kz1 (by simpa using h0)]; exact l0 true (by simp [h0])
 rw [Ev.yz1 (by simpa using h0)]
 by_cases h10 : 10 < s.length
 ·rw [Ev.kz1 (by simp; omega)]; exact l0 true (by simp [h10])
 have hlt : 0 < s.length := by omega
 rw [Ev.yz1 (by simp; omega), Ev.yz2 (show ix s 0 = some s[0] from yzb (k := 0) hlt), b48]
 have hh : s.head? = some s[0] := by
  cases s with
  | nil => simp at hlt
  | cons c t => rfl
 by_cases h48 : s[0] = 48
 ·rw [Ev.kz1 (by simpa using h48)]
  refine l0 _ ⟨fun h => .inr (.inr ⟨by rw [hh, h48], by have := of_decide_eq_true h; omega⟩), fun h => ?_⟩
  rcases h with h | h | h
  ·omega
  ·omega
  ·exact decide_eq_true (by omega)
 ·rw [Ev.yz1 (by simpa using h48)]
  refine l0 _ ⟨fun h => (by cases h), fun h => ?_⟩
  rcases h with h | h | h
  ·omega
  ·omega
  ·rw [hh] at h; exact (h48 (Option.some.inj h.1)).elim
theorem yoh : ∀ (k u : Nat), u < 10 ^ (k + 1) → Lib.nDigits u ≤ k + 1
 | 0, u, h => by rw [Lib.nDigits_small (by simpa using h)]; exact Nat.le_refl _
 | k + 1, u, h => by
   by_cases hu : u < 10
   · rw [Lib.nDigits_small hu]; omega
   · rw [Lib.nDigits_big hu]
     have := yoh k (u / 10) (by rw [Nat.pow_succ] at h; omega)
     omega
theorem zej : ∀ u : Nat, (Lib.decDigits u).all z7u = true := by
 intro u
 induction u using Nat.strongRecOn with
 | _ u ih =>
   have hd : ∀ k, k < 10 → z7u (UInt8.ofNat (48 + k)) = true := fun k hk => z7s.2 (by rw [zku hk]; omega)
   by_cases h : u < 10
   · rw [zkr h]; simp only [List.all_cons, List.all_nil, Bool.and_true]; exact hd u h
   · rw [zx5 h]
     simp only [List.all_append, List.all_cons, List.all_nil, Bool.and_true, Bool.and_eq_true]
     exact ⟨ih _ (by omega), hd _ (Nat.mod_lt _ (by decide))⟩
theorem zya : ∀ u : Nat, val 0 (Lib.decDigits u) = u := by
 intro u
 induction u using Nat.strongRecOn with
 | _ u ih =>
   by_cases h : u < 10
   · rw [zkr h]; rw [zyn, y46, zku h]; omega
   · rw [zx5 h, ykl, ih _ (by omega), zku (Nat.mod_lt _ (by decide))]; omega
theorem zs6 (u : Nat) : Lib.decDigits u ≠ [] := fun h => by
 have := Lib.decDigits_length u
 rw [h] at this
 have := Lib.nDigits_pos u
 simp at *; omega
theorem ysy : ∀ u : Nat, 1 ≤ u → (Lib.decDigits u).head? ≠ some 48 := by
 intro u
 induction u using Nat.strongRecOn with
 | _ u ih =>
   intro h1
   by_cases h : u < 10
   · rw [zkr h]
     simp only [List.head?_cons, ne_eq, Option.some.injEq]
     intro e
     have := congrArg UInt8.toNat e
     rw [zku h] at this
     simp at this; omega
   · rw [zx5 h, List.head?_append]
     have := ih (u / 10) (by omega) (by omega)
     cases hq : (Lib.decDigits (u / 10)).head? with
     | none => rw [List.head?_eq_none_iff] at hq; exact (zs6 _ hq).elim
     | some c => rw [hq] at this; simpa using this
theorem yi1 {u : Nat} (h : u < 10000000000) : zt9 (Lib.decDigits u) = (((u : Nat) : Int), true) := by
 have hl := Lib.decDigits_length u
 have h1 := Lib.nDigits_pos u
 have h2 := yoh 9 u (by simpa using h)
 unfold zt9
 rw [if_neg, if_pos (zej u), zya]
 rintro (h' | h' | ⟨h', h''⟩)
 ·omega
 ·omega
 ·by_cases hu : 1 ≤ u
  ·exact ysy u hu h'
  ·have : u = 0 := by omega
   subst this
   rw [zkr (by decide)] at h''
   simp at h''
end Go.Proofs.YtfhpamcehnfhoaaGreatDoor

