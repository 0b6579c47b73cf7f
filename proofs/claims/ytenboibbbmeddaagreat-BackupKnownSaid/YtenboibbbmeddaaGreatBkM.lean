/- The law BackupKnown, walked. -/
import Derived.Test.YtenboibbbmeddaaGreatBkL
namespace Go.Proofs.YtenboibbbmeddaaGreat
open Go.RowKit Go.Maps
set_option linter.unusedVariables false
set_option linter.unusedSimpArgs false
set_option maxRecDepth 20000
attribute [local irreducible] qT1 qS1 qB1 qC1 qG1 qL1 exG0 rT2 rS2 rB2 rC2 rT3 rC3 rC4 rC5 rG

section
variable {w W W' : World} {pb l b db bb : Nat} {d d' : Dsk} {B : Bk} {X X' : Nat → Prop}
set_option maxHeartbeats 1000000 in
set_option maxRecDepth 20000 in
theorem backupKnown_any (w : World) : Calls Tryz.prog 3 #[] w fun e w' => e = .returned (.bool true) ∧ Below w.heap.size w w' := by
  have FR := hid (fresh_px w)
  have NW := hid (fun W => mk_new W)
  have WK := hid (fun W => bkworks_any W)
  go_enter Tryz.func3, Tryz.ntmps3
  go_upto_region 8 with (first
    | (go_at_call 7; refine (FR.out).mono ?_; rintro e w1 ⟨pb, l, b, rfl, hp1⟩; have HP1 := hid hp1; clear hp1 FR)
    | (go_at_call 8; refine (NW.out _).mono ?_; rintro e w2 ⟨db, rfl, hd2⟩; have HP2 := hid (PgX.pd HP1.out hd2); clear hd2 NW HP1)
    | (go_at_call 9; refine (WK.out _).mono ?_; rintro e w3 ⟨rfl, hb3⟩; have HP3 := hid (HP2.out.below hb3); clear hb3 WK HP2)
    | (go_at_call 10; refine (u_s0 HP3.out).mono ?_; rintro e w4 ⟨rfl, hp4⟩; have HP4 := hid hp4; clear hp4 HP3)
    | (go_at_call 11; refine (u_t1 HP4.out).mono ?_; rintro e w5 ⟨rfl, hp5, -⟩; have HP5 := hid hp5; clear hp5 HP4)
    | (go_at_call 11; refine (u_t2 HP5.out).mono ?_; rintro e w6 ⟨rfl, hp6, -⟩; have HP6 := hp6; rw [u_d0] at HP6; replace HP6 := hid HP6; clear hp6 HP5)
    | go_in)
  go_upto_region 11 with (first
    | (go_at_call 10; refine (u_s2 HP6.out).mono ?_; rintro e w7 ⟨bb, rfl, hp7, hb7, hg7⟩; have HP7 := hid hp7; have HB7 := hid hb7; have HG := hid hg7; clear hp7 hb7 hg7 HP6)
    | (go_at_call 12; refine (u_l2 HB7.out).mono ?_; rintro e w8 ⟨rfl, hb⟩; have HP8 := hid (HP7.out.below hb); have HB8 := hid ((hb.block _ (lt_of_block HB7.out)).trans HB7.out); clear hb HP7 HB7)
    | (go_at_call 13; refine (u_k2 HB8.out).mono ?_; rintro e w9 ⟨rfl, hw⟩; obtain rfl := hw.symm)
    | (go_at_call 14; refine (u_n2 HB8.out).mono ?_; rintro e w9 ⟨rfl, hw⟩; obtain rfl := hw.symm)
    | (go_at_call 15; refine (u_c2 HP8.out HB8.out HG.out).mono ?_; rintro e w9 ⟨rfl, hp, hb⟩; have HP9 := hid hp; have HB9 := hid hb; clear hp hb HP8 HB8)
    | (go_at_call 12; refine (u_lc2 HB9.out).mono ?_; rintro e w10 ⟨rfl, hb⟩; have HP10 := hid (HP9.out.below hb); have HB10 := hid ((hb.block _ (lt_of_block HB9.out)).trans HB9.out); clear hb HP9 HB9)
    | go_in)
  go_upto_region 13 with (first
    | (go_at_call 16; refine (u_o HP10.out.dsk).mono ?_; rintro e w11 ⟨pb2, l2, rfl, hm, hb⟩; have HM11 := hid hm; have HP11 := hid (HP10.out.below hb); have HB11 := hid ((hb.block _ (lt_of_block HB10.out)).trans HB10.out); clear hm hb HP10 HB10)
    | (go_at_call 17; refine (u_r HM11.out).mono ?_; rintro e w12 ⟨f, c, k, r0, r1, r2, r3, r4, r5, r6, r7, rfl, hb⟩; have hb2 := hb.alloc hb.size (.cells #[.int .i64 f, .int .i64 c, .int .u64 k, .int .i64 r0, .int .i64 r1, .int .i64 r2, .int .i64 r3, .int .i64 r4, .int .i64 r5, .int .i64 r6, .int .i64 r7] 41); have HP12 := hid (HP11.out.below hb2); have HB12 := hid ((hb2.block _ (lt_of_block HB11.out)).trans HB11.out); clear hb hb2 HP11 HB11 HM11)
    | go_in)
  go_upto_region 15 with (first
    | (go_at_call 11; refine (u_t3 HP12.out).mono ?_; rintro e w13 ⟨rfl, hp, hk⟩; have HP13 := hid hp; have HB13 := hid ((hk _ rfl).trans HB12.out); clear hp hk HP12 HB12)
    | (go_at_call 15; refine (u_c3 HP13.out HB13.out HG.out).mono ?_; rintro e w14 ⟨rfl, hp, hb⟩; have HP14 := hid hp; have HB14 := hid hb; clear hp hb HP13 HB13)
    | (go_at_call 18; refine (u_rs HB14.out).mono ?_; rintro e w15 ⟨rfl, hw⟩; obtain rfl := hw.symm)
    | (go_at_call 12; refine (u_l3 HB14.out).mono ?_; rintro e w15 ⟨rfl, hb⟩; have HP15 := hid (HP14.out.below hb); have HB15 := hid ((hb.block _ (lt_of_block HB14.out)).trans HB14.out); clear hb HP14 HB14)
    | (go_at_call 15; refine (u_c4 HP15.out HB15.out HG.out).mono ?_; rintro e w16 ⟨rfl, hp, hb⟩; have HP16 := hid hp; have HB16 := hid hb; clear hp hb HP15 HB15)
    | (go_at_call 14; refine (u_n4 HB16.out).mono ?_; rintro e w17 ⟨rfl, hw⟩; obtain rfl := hw.symm)
    | (go_at_call 12; refine (u_l4 HB16.out).mono ?_; rintro e w17 ⟨rfl, hb⟩; have HP17 := hid (HP16.out.below hb); have HB17 := hid ((hb.block _ (lt_of_block HB16.out)).trans HB16.out); clear hb HP16 HB16)
    | (go_at_call 15; refine (u_c5 HP17.out HB17.out HG.out).mono ?_; rintro e w18 ⟨rfl, hp, hb⟩; have HP18 := hid hp; clear hp hb HP17 HB17)
    | go_in)
  go_wp2_with (first
    | (go_at_call 10; refine (u_so HP18.out).mono ?_; rintro e w19 ⟨rfl, hp⟩; have HP19 := hid hp.bel; clear hp HP18)
    | (go_at_call 10; have hq := HP19.out; refine (start_nil _ _).mono ?_; rintro e w20 ⟨rfl, hb⟩; have HP20 := hid (then_below HP19.out hb); clear hb HP19 hq)
    | (go_at_call 10; have hq2 := HP20.out; refine (start_nild _ _).mono ?_; rintro e w21 ⟨rfl, hb⟩; have HP21 := hid (then_below HP20.out hb); clear hb HP20 hq2)
    | (go_at_call 15; refine (bstep_nil _ _).mono ?_; rintro e w22 ⟨rfl, hw⟩; obtain rfl := hw.symm)
    | (go_at_call 14; refine (bdone_nil _).mono ?_; rintro e w22 ⟨rfl, hw⟩; obtain rfl := hw.symm)
    | (go_at_call 13; refine (bcommits_nil _).mono ?_; rintro e w22 ⟨rfl, hw⟩; obtain rfl := hw.symm)
    | (go_at_call 12; refine (bleft_nil _).mono ?_; rintro e w22 ⟨rfl, hw⟩; obtain rfl := hw.symm)
    | (go_at_call 18; refine (brestarts_nil _).mono ?_; rintro e w22 ⟨rfl, hw⟩; obtain rfl := hw.symm)
    | go_in)
  go_ret
  exact ⟨rfl, HP21.out⟩
end
end Go.Proofs.YtenboibbbmeddaaGreat
