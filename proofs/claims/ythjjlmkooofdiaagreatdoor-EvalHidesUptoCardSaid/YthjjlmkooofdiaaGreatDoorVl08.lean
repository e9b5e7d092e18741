/-
  a part of the proof: the texts VlGen, joined: helper laws; none of them is the statement.
-/
import Derived.Test.YthjjlmkooofdiaaGreatDoorProg
import Derived.KernelRfl
import Derived.Test.YthjjlmkooofdiaaGreatDoorVl07

/-
  VlGen: PRINTED BY PROGRAM (wip/dev/Gen.lean): the walks of the program's functions in the layer, and each function's contract out of its walk.
-/
namespace Go.Proofs.YthjjlmkooofdiaaGreatDoor
open Go Go.VL
set_option maxRecDepth 100000
set_option maxHeartbeats 4000000
-- 3 tapestry/tapestrylaw18.EvalFuel: not covered
/-- tapestry/tapestrylaw18.EvalRest -/
def sc4 : SC :=
  (.seq (.reg [.boxl 2 15 (.t 0),
    .pf 4 (.mv (.k (.bool false)))])
  (.seq (.seq (.reg [.pf 10 (.ld true (.t 2) 15 true),
    .call (some 11) 6 [(.t 10)]])
  (.cond (.t 11)
    (.seq (.reg [.call (some 12) 7 [],
      .pf 4 (.mv (.t 12))])
    .ret)
    .skip))
  (.seq (.reg [.pf 13 (.ld true (.t 2) 15 true),
    .call (some 14) 8 [(.t 13)],
    .boxl 5 3 (.k (.agg [(.sl [] [] true none), (.int .i64 0), (.int .i64 0)])),
    .st true (.t 5) (.t 14) 3])
  (.seq (.reg [.pf 15 (.ld true (.t 5) 3 true),
    .pf 16 (.fa (.t 2) 3),
    .pf 17 (.ld true (.t 16) 1 false),
    .pf 18 (.fa (.t 2) 4),
    .pf 19 (.ld true (.t 18) 10 true),
    .call (some 20) 9 [(.t 15), (.t 17), (.t 19)],
    .boxl 6 11 (.k (.agg [(.int .u8 0), (.int .u8 0), (.int .i64 0), (.str []), (.sl [] [] true none), (.sl [] [] true none), (.int .u8 0), (.str []), (.bool false), (.str []), (.int .i64 0)])),
    .st true (.t 6) (.t 20) 11])
  (.seq (.seq (.reg [.pf 7 (.mv (.k (.int .i64 0)))])
  (.block 0
    (.loop
      (.seq (.seq (.reg [.pf 21 (.mv (.t 7)),
        .pf 22 (.fa (.t 2) 0),
        .pf 23 (.ld true (.t 22) 1 false),
        .pf 24 (.len false (.t 23)),
        .pf 25 (.bin .lss (.t 21) (.t 24))])
      (.cond (.t 25)
        .skip
        (.exit 0)))
      (.seq (.block 1
        (.reg [.p 28 (.fa (.t 5) 0),
          .p 29 (.ld true (.t 28) 1 false),
          .p 30 (.fa (.t 2) 0),
          .p 31 (.ld true (.t 30) 1 false),
          .p 32 (.mv (.t 7)),
          .p 33 (.ia (.t 31) (.t 32) 10),
          .p 34 (.fa (.t 33) 0),
          .p 35 (.ld false (.t 34) 1 false),
          .p 36 (.fa (.t 2) 0),
          .p 37 (.ld true (.t 36) 1 false),
          .p 38 (.mv (.t 7)),
          .p 39 (.ia (.t 37) (.t 38) 10),
          .p 40 (.fa (.t 39) 1),
          .p 41 (.ld false (.t 40) 1 false),
          .p 42 (.not (.t 41)),
          .p 43 (.build [(.str []), (.bool false), (.int .u8 0), (.int .i64 0), (.str []), (.sl [] [] true none), (.sl [] [] true none), (.int .u8 0), (.str []), (.bool false)] [(0, 1, (.t 35)), (1, 1, (.t 42))]),
          .bsl 44 1 10 [(.str []), (.bool false), (.int .u8 0), (.int .i64 0), (.str []), (.sl [] [] true none), (.sl [] [] true none), (.int .u8 0), (.str []), (.bool false)] [(0, (.t 43))],
          .app 45 10 (.t 29) (.t 44),
          .p 46 (.fa (.t 5) 0),
          .st true (.t 46) (.t 45) 1]))
      (.reg [.pf 26 (.mv (.t 7)),
        .pf 27 (.bin .add (.t 26) (.k (.int .i64 1))),
        .pf 7 (.mv (.t 27))]))))))
  (.seq (.reg [.pf 47 (.ld true (.t 5) 3 true),
    .pf 48 (.fa (.t 2) 3),
    .pf 49 (.ld true (.t 48) 1 false),
    .pf 50 (.fa (.t 2) 4),
    .pf 51 (.ld true (.t 50) 10 true),
    .call (some 52) 9 [(.t 47), (.t 49), (.t 51)],
    .boxl 8 11 (.k (.agg [(.int .u8 0), (.int .u8 0), (.int .i64 0), (.str []), (.sl [] [] true none), (.sl [] [] true none), (.int .u8 0), (.str []), (.bool false), (.str []), (.int .i64 0)])),
    .st true (.t 8) (.t 52) 11])
  (.seq (.seq (.reg [.pf 53 (.ld true (.t 6) 11 true),
    .pf 54 (.ld true (.t 8) 11 true),
    .call (some 55) 10 [(.t 53), (.t 54)],
    .pf 56 (.not (.t 55))])
  (.cond (.t 56)
    (.seq (.reg [.pf 4 (.mv (.k (.bool false)))])
    .ret)
    .skip))
  (.seq (.seq (.reg [.pf 57 (.fa (.t 6) 0),
    .pf 58 (.ld true (.t 57) 1 false),
    .pf 59 (.bin .neq (.t 58) (.k (.int .u8 2)))])
  (.cond (.t 59)
    (.seq (.reg [.call (some 60) 7 [],
      .pf 4 (.mv (.t 60))])
    .ret)
    .skip))
  (.seq (.reg [.pf 61 (.fa (.t 5) 0),
    .pf 62 (.ld true (.t 61) 1 false),
    .pf 63 (.fa (.t 6) 9),
    .pf 64 (.ld true (.t 63) 1 false),
    .pf 65 (.build [(.int .u8 0), (.int .i64 0), (.str []), (.sl [] [] true none), (.sl [] [] true none), (.int .u8 0), (.str []), (.bool false)] [(0, 1, (.k (.int .u8 1))), (1, 1, (.k (.int .i64 7)))]),
    .pf 66 (.build [(.str []), (.bool false), (.int .u8 0), (.int .i64 0), (.str []), (.sl [] [] true none), (.sl [] [] true none), (.int .u8 0), (.str []), (.bool false)] [(0, 1, (.t 64)), (2, 8, (.t 65))]),
    .bsl 67 1 10 [(.str []), (.bool false), (.int .u8 0), (.int .i64 0), (.str []), (.sl [] [] true none), (.sl [] [] true none), (.int .u8 0), (.str []), (.bool false)] [(0, (.t 66))],
    .app 68 10 (.t 62) (.t 67),
    .pf 69 (.fa (.t 5) 0),
    .st true (.t 69) (.t 68) 1])
  (.seq (.reg [.pf 70 (.ld true (.t 5) 3 true),
    .pf 71 (.fa (.t 2) 3),
    .pf 72 (.ld true (.t 71) 1 false),
    .pf 73 (.fa (.t 2) 4),
    .pf 74 (.ld true (.t 73) 10 true),
    .call (some 75) 9 [(.t 70), (.t 72), (.t 74)],
    .boxl 9 11 (.k (.agg [(.int .u8 0), (.int .u8 0), (.int .i64 0), (.str []), (.sl [] [] true none), (.sl [] [] true none), (.int .u8 0), (.str []), (.bool false), (.str []), (.int .i64 0)])),
    .st true (.t 9) (.t 75) 11])
  (.seq (.reg [.pf 76 (.fa (.t 9) 0),
    .pf 77 (.ld true (.t 76) 1 false),
    .pf 78 (.bin .neq (.t 77) (.k (.int .u8 2))),
    .pf 79 (.mv (.t 78)),
    .gd 79 false [.pf 80 (.fa (.t 9) 9)],
    .gd 79 false [.pf 81 (.ld true (.t 80) 1 false)],
    .gd 79 false [.pf 82 (.fa (.t 6) 9)],
    .gd 79 false [.pf 83 (.ld true (.t 82) 1 false)],
    .gd 79 false [.pf 84 (.bin .neq (.t 81) (.t 83))],
    .pf 85 (.pick (.t 79) (.k (.bool true)) (.t 84)),
    .pf 86 (.mv (.t 85)),
    .gd 86 true [.pf 87 (.fa (.t 9) 10)],
    .gd 86 true [.pf 88 (.ld true (.t 87) 1 false)],
    .gd 86 true [.pf 89 (.fa (.t 6) 10)],
    .gd 86 true [.pf 90 (.ld true (.t 89) 1 false)],
    .gd 86 true [.pf 91 (.bin .geq (.t 88) (.t 90))],
    .pf 92 (.pick (.t 86) (.t 91) (.k (.bool false))),
    .pf 93 (.mv (.t 92)),
    .gd 93 true [.call (some 94) 7 []],
    .pf 95 (.pick (.t 93) (.t 94) (.k (.bool false))),
    .pf 4 (.mv (.t 95))])
  .ret)))))))))))
theorem ac4 {args : List V} {s : H} {Q : V → H → Prop} (hn : args.length ≤ 96) (h : wpS Tryz.prog sc4 (bodyQ [.t 4] Q) (initT args) (fun _ => (0, [])) s) : AC Tryz.prog 4 args s Q :=
  ac_of_wpS [2, 5, 6, 8, 9, 16, 18, 22, 28, 30, 36, 46, 48, 50, 57, 61, 63, 69, 71, 73, 76, 80, 82, 87, 89] Tryz.func4 rfl (by kernel_rfl) (by kernel_rfl) (by kernel_rfl) hn h

/-- tapestry/tapestrylaw18.EvalHides -/
def sc5 : SC :=
  (.seq (.reg [.boxl 3 15 (.t 0),
    .boxl 5 8 (.t 2),
    .pf 6 (.mv (.k (.bool false)))])
  (.seq (.seq (.reg [.pf 11 (.ld true (.t 3) 15 true),
    .call (some 12) 6 [(.t 11)],
    .pf 13 (.mv (.t 12)),
    .gd 13 false [.pf 14 (.mv (.t 1))],
    .gd 13 false [.pf 15 (.len true (.t 14))],
    .gd 13 false [.pf 16 (.bin .eql (.t 15) (.k (.int .i64 0)))],
    .pf 17 (.pick (.t 13) (.k (.bool true)) (.t 16)),
    .pf 18 (.mv (.t 17)),
    .gd 18 false [.pf 19 (.mv (.t 1))],
    .gd 18 false [.pf 20 (.len true (.t 19))],
    .gd 18 false [.pf 21 (.bin .gtr (.t 20) (.k (.int .i64 4096)))],
    .pf 22 (.pick (.t 18) (.k (.bool true)) (.t 21))])
  (.cond (.t 22)
    (.seq (.reg [.call (some 23) 7 [],
      .pf 6 (.mv (.t 23))])
    .ret)
    .skip))
  (.seq (.reg [.pf 24 (.ld true (.t 3) 15 true),
    .call (some 25) 8 [(.t 24)],
    .boxl 7 3 (.k (.agg [(.sl [] [] true none), (.int .i64 0), (.int .i64 0)])),
    .st true (.t 7) (.t 25) 3])
  (.seq (.reg [.pf 26 (.fa (.t 7) 1),
    .st true (.t 26) (.k (.int .i64 10)) 1])
  (.seq (.reg [.pf 8 (.mv (.k (.sl [] [] true none)))])
  (.seq (.reg [.pf 27 (.mv (.t 8)),
    .pf 28 (.fa (.t 3) 3),
    .pf 29 (.ld true (.t 28) 1 false),
    .app 30 9 (.t 27) (.t 29),
    .pf 8 (.mv (.t 30))])
  (.seq (.reg [.pf 31 (.mv (.t 8)),
    .pf 32 (.mv (.t 1)),
    .pf 33 (.ld true (.t 5) 8 true),
    .pf 34 (.build [(.str []), (.int .u8 0), (.int .i64 0), (.str []), (.sl [] [] true none), (.sl [] [] true none), (.int .u8 0), (.str []), (.bool false)] [(0, 1, (.t 32)), (1, 8, (.t 33))]),
    .bsl 35 1 9 [(.str []), (.int .u8 0), (.int .i64 0), (.str []), (.sl [] [] true none), (.sl [] [] true none), (.int .u8 0), (.str []), (.bool false)] [(0, (.t 34))],
    .app 36 9 (.t 31) (.t 35),
    .pf 8 (.mv (.t 36))])
  (.seq (.reg [.pf 37 (.ld true (.t 7) 3 true),
    .pf 38 (.mv (.t 8)),
    .pf 39 (.mv (.t 1)),
    .pf 40 (.build [(.int .u8 0), (.int .i64 0), (.str []), (.sl [] [] true none), (.sl [] [] true none), (.sl [] [] true none), (.int .u8 0), (.sl [] [] true none), (.sl [] [] true none), (.str [])] [(0, 1, (.k (.int .u8 4))), (2, 1, (.t 39))]),
    .call (some 41) 9 [(.t 37), (.t 38), (.t 40)],
    .boxl 9 11 (.k (.agg [(.int .u8 0), (.int .u8 0), (.int .i64 0), (.str []), (.sl [] [] true none), (.sl [] [] true none), (.int .u8 0), (.str []), (.bool false), (.str []), (.int .i64 0)])),
    .st true (.t 9) (.t 41) 11])
  (.seq (.reg [.pf 42 (.ld true (.t 7) 3 true),
    .pf 43 (.mv (.t 1)),
    .pf 44 (.ld true (.t 5) 8 true),
    .pf 45 (.build [(.str []), (.int .u8 0), (.int .i64 0), (.str []), (.sl [] [] true none), (.sl [] [] true none), (.int .u8 0), (.str []), (.bool false)] [(0, 1, (.t 43)), (1, 8, (.t 44))]),
    .bsl 46 1 9 [(.str []), (.int .u8 0), (.int .i64 0), (.str []), (.sl [] [] true none), (.sl [] [] true none), (.int .u8 0), (.str []), (.bool false)] [(0, (.t 45))],
    .pf 47 (.mv (.t 1)),
    .pf 48 (.build [(.int .u8 0), (.int .i64 0), (.str []), (.sl [] [] true none), (.sl [] [] true none), (.sl [] [] true none), (.int .u8 0), (.sl [] [] true none), (.sl [] [] true none), (.str [])] [(0, 1, (.k (.int .u8 4))), (2, 1, (.t 47))]),
    .call (some 49) 9 [(.t 42), (.t 46), (.t 48)],
    .boxl 10 11 (.k (.agg [(.int .u8 0), (.int .u8 0), (.int .i64 0), (.str []), (.sl [] [] true none), (.sl [] [] true none), (.int .u8 0), (.str []), (.bool false), (.str []), (.int .i64 0)])),
    .st true (.t 10) (.t 49) 11])
  (.seq (.reg [.pf 50 (.ld true (.t 9) 11 true),
    .pf 51 (.ld true (.t 10) 11 true),
    .call (some 52) 10 [(.t 50), (.t 51)],
    .pf 53 (.mv (.t 52)),
    .gd 53 true [.call (some 54) 7 []],
    .pf 55 (.pick (.t 53) (.t 54) (.k (.bool false))),
    .pf 6 (.mv (.t 55))])
  .ret))))))))))
theorem ac5 {args : List V} {s : H} {Q : V → H → Prop} (hn : args.length ≤ 56) (h : wpS Tryz.prog sc5 (bodyQ [.t 6] Q) (initT args) (fun _ => (0, [])) s) : AC Tryz.prog 5 args s Q :=
  ac_of_wpS [3, 5, 7, 9, 10, 26, 28] Tryz.func5 rfl (by kernel_rfl) (by kernel_rfl) (by kernel_rfl) hn h

/-- tapestry/tapestrylaw18.beyond -/
def sc6 : SC :=
  (.seq (.reg [.boxl 1 15 (.t 0),
    .pf 2 (.mv (.k (.bool false)))])
  (.seq (.reg [.p 3 (.fa (.t 1) 1),
    .p 4 (.ld true (.t 3) 1 false),
    .p 5 (.bin .gtr (.t 4) (.k (.int .i64 5000))),
    .p 6 (.mv (.t 5)),
    .gd 6 false [.p 7 (.fa (.t 1) 0)],
    .gd 6 false [.p 8 (.ld true (.t 7) 1 false)],
    .gd 6 false [.p 10 (.fa (.t 1) 3)],
    .gd 6 false [.p 11 (.ld true (.t 10) 1 false)],
    .gd 6 false [.p 13 (.fa (.t 1) 4)],
    .gd 6 false [.p 14 (.ld true (.t 13) 10 true)],
    .gd 6 false [.p 16 (.fa (.t 1) 14)],
    .gd 6 false [.p 17 (.ld true (.t 16) 1 false)],
    .gd 6 false [.call (some 9) 12 [(.t 8)]],
    .gd 6 false [.call (some 12) 13 [(.t 11)]],
    .gd 6 false [.call (some 15) 14 [(.t 14)]],
    .gd 6 false [.call (some 18) 15 [(.t 17)]],
    .gd 6 false [.bsl 19 4 1 [(.int .i64 0)] [(0, (.t 9)), (1, (.t 12)), (2, (.t 15)), (3, (.t 18))]],
    .gd 6 false [.call (some 20) 11 [(.t 19)]],
    .p 21 (.pick (.t 6) (.k (.bool true)) (.t 20)),
    .p 2 (.mv (.t 21))])
  .ret))
theorem ac6 {args : List V} {s : H} {Q : V → H → Prop} (hn : args.length ≤ 22) (h : wpS Tryz.prog sc6 (bodyQ [.t 2] Q) (initT args) (fun _ => (0, [])) s) : AC Tryz.prog 6 args s Q :=
  ac_of_wpS [1, 3, 7, 10, 13, 16] Tryz.func6 rfl (by kernel_rfl) (by kernel_rfl) (by kernel_rfl) hn h

/-- tapestry/tapestrylaw18.lives -/
def sc7 : SC :=
  (.seq (.reg [.pf 0 (.mv (.k (.bool false)))])
  (.seq (.reg [.call (some 4) 16 [(.k (.int .i64 1))],
    .call (some 5) 16 [(.k (.int .i64 2))],
    .bsl 6 2 10 [(.int .u8 0), (.int .i64 0), (.str []), (.sl [] [] true none), (.sl [] [] true none), (.sl [] [] true none), (.int .u8 0), (.sl [] [] true none), (.sl [] [] true none), (.str [])] [(0, (.t 4)), (1, (.t 5))],
    .pf 7 (.build [(.int .u8 0), (.int .i64 0), (.str []), (.sl [] [] true none), (.sl [] [] true none), (.sl [] [] true none), (.int .u8 0), (.sl [] [] true none), (.sl [] [] true none), (.str [])] [(0, 1, (.k (.int .u8 5))), (2, 1, (.k (.str [97, 100, 100]))), (3, 1, (.t 6))]),
    .boxl 1 10 (.k (.agg [(.int .u8 0), (.int .i64 0), (.str []), (.sl [] [] true none), (.sl [] [] true none), (.sl [] [] true none), (.int .u8 0), (.sl [] [] true none), (.sl [] [] true none), (.str [])])),
    .st true (.t 1) (.t 7) 10])
  (.seq (.reg [.pf 8 (.build [(.sl [] [] true none), (.int .i64 0), (.int .i64 0)] [(1, 1, (.k (.int .i64 100)))]),
    .pf 9 (.ld true (.t 1) 10 true),
    .call (some 10) 9 [(.t 8), (.k (.sl [] [] true none)), (.t 9)],
    .boxl 2 11 (.k (.agg [(.int .u8 0), (.int .u8 0), (.int .i64 0), (.str []), (.sl [] [] true none), (.sl [] [] true none), (.int .u8 0), (.str []), (.bool false), (.str []), (.int .i64 0)])),
    .st true (.t 2) (.t 10) 11])
  (.seq (.reg [.pf 11 (.build [(.sl [] [] true none), (.int .i64 0), (.int .i64 0)] [(1, 1, (.k (.int .i64 2)))]),
    .pf 12 (.ld true (.t 1) 10 true),
    .call (some 13) 9 [(.t 11), (.k (.sl [] [] true none)), (.t 12)],
    .boxl 3 11 (.k (.agg [(.int .u8 0), (.int .u8 0), (.int .i64 0), (.str []), (.sl [] [] true none), (.sl [] [] true none), (.int .u8 0), (.str []), (.bool false), (.str []), (.int .i64 0)])),
    .st true (.t 3) (.t 13) 11])
  (.seq (.reg [.pf 14 (.fa (.t 2) 0),
    .pf 15 (.ld true (.t 14) 1 false),
    .pf 16 (.bin .eql (.t 15) (.k (.int .u8 0))),
    .pf 17 (.mv (.t 16)),
    .gd 17 true [.pf 18 (.fa (.t 2) 1)],
    .gd 17 true [.pf 19 (.fa (.t 18) 1)],
    .gd 17 true [.pf 20 (.ld true (.t 19) 1 false)],
    .gd 17 true [.pf 21 (.bin .eql (.t 20) (.k (.int .i64 3)))],
    .pf 22 (.pick (.t 17) (.t 21) (.k (.bool false))),
    .pf 23 (.mv (.t 22)),
    .gd 23 true [.pf 24 (.fa (.t 2) 10)],
    .gd 23 true [.pf 25 (.ld true (.t 24) 1 false)],
    .gd 23 true [.pf 26 (.bin .eql (.t 25) (.k (.int .i64 3)))],
    .pf 27 (.pick (.t 23) (.t 26) (.k (.bool false))),
    .pf 28 (.mv (.t 27)),
    .gd 28 true [.pf 29 (.fa (.t 3) 0)],
    .gd 28 true [.pf 30 (.ld true (.t 29) 1 false)],
    .gd 28 true [.pf 31 (.bin .eql (.t 30) (.k (.int .u8 1)))],
    .pf 32 (.pick (.t 28) (.t 31) (.k (.bool false))),
    .pf 33 (.mv (.t 32)),
    .gd 33 true [.pf 34 (.fa (.t 3) 1)],
    .gd 33 true [.pf 35 (.fa (.t 34) 2)],
    .gd 33 true [.pf 36 (.ld true (.t 35) 1 false)],
    .gd 33 true [.pf 37 (.bin .eql (.t 36) (.k (.str [102, 117, 101, 108])))],
    .pf 38 (.pick (.t 33) (.t 37) (.k (.bool false))),
    .pf 39 (.mv (.t 38)),
    .gd 39 true [.pf 40 (.fa (.t 3) 10)],
    .gd 39 true [.pf 41 (.ld true (.t 40) 1 false)],
    .gd 39 true [.pf 42 (.bin .eql (.t 41) (.k (.int .i64 2)))],
    .pf 43 (.pick (.t 39) (.t 42) (.k (.bool false))),
    .pf 0 (.mv (.t 43))])
  .ret)))))
theorem ac7 {args : List V} {s : H} {Q : V → H → Prop} (hn : args.length ≤ 44) (h : wpS Tryz.prog sc7 (bodyQ [.t 0] Q) (initT args) (fun _ => (0, [])) s) : AC Tryz.prog 7 args s Q :=
  ac_of_wpS [1, 2, 3, 14, 18, 19, 24, 29, 34, 35, 40] Tryz.func7 rfl (by kernel_rfl) (by kernel_rfl) (by kernel_rfl) hn h

/-- tapestry/tapestrylaw18.world -/
def sc8 : SC :=
  (.seq (.reg [.boxl 1 15 (.t 0),
    .boxl 2 3 (.k (.agg [(.sl [] [] true none), (.int .i64 0), (.int .i64 0)]))])
  (.seq (.reg [.p 3 (.fa (.t 1) 0),
    .p 4 (.ld true (.t 3) 1 false),
    .p 6 (.fa (.t 1) 1),
    .p 7 (.ld true (.t 6) 1 false),
    .p 8 (.fa (.t 1) 2),
    .p 9 (.ld true (.t 8) 1 false),
    .call (some 5) 17 [(.t 4)],
    .p 10 (.build [(.sl [] [] true none), (.int .i64 0), (.int .i64 0)] [(0, 1, (.t 5)), (1, 1, (.t 7)), (2, 1, (.t 9))]),
    .st true (.t 2) (.t 10) 3])
  .ret))
theorem ac8 {args : List V} {s : H} {Q : V → H → Prop} (hn : args.length ≤ 11) (h : wpS Tryz.prog sc8 (bodyQ [.c 2 3 true] Q) (initT args) (fun _ => (0, [])) s) : AC Tryz.prog 8 args s Q :=
  ac_of_wpS [1, 2, 3, 6, 8] Tryz.func8 rfl (by kernel_rfl) (by kernel_rfl) (by kernel_rfl) hn h

/-- what tapestry/eval.Eval defers -/
def scG9 : SC :=
  (.reg [.pf 2 (.ld false (.t 0) 1 false),
    .pf 3 (.nilck (.t 2)),
    .pf 4 (.fa (.t 3) 3),
    .pf 5 (.ld false (.t 4) 1 false),
    .pf 6 (.fa (.t 1) 10),
    .st false (.t 6) (.t 5) 1])
/-- tapestry/eval.Eval, which defers a call of 18 -/
def scX9 : SC :=
  (.reg [.boxl 3 3 (.t 0),
    .boxl 5 10 (.t 2),
    .boxh 6 11 (.k (.agg [(.int .u8 0), (.int .u8 0), (.int .i64 0), (.str []), (.sl [] [] true none), (.sl [] [] true none), (.int .u8 0), (.str []), (.bool false), (.str []), (.int .i64 0)]))])
def scY9 : SC :=
  (.reg [.pf 10 (.ld true (.t 3) 3 true),
    .pf 11 (.build [(.sl [] [] true none), (.int .i64 0), (.int .i64 0), (.int .i64 0), (.int .u8 0), (.int .u8 0), (.int .i64 0), (.str []), (.sl [] [] true none), (.sl [] [] true none), (.int .u8 0), (.str []), (.bool false), (.str []), (.int .i64 0)] [(0, 3, (.t 10))]),
    .boxh 12 15 (.t 11),
    .boxh 7 1 (.k .nilp),
    .st false (.t 7) (.t 12) 1])
def rD9 : R := .pf 13 (.mkfn 18 [] [(.t 7), (.t 6)])
def scZ9 : SC :=
  (.seq (.reg [.pf 15 (.ld false (.t 7) 1 false),
    .pf 16 (.mv (.t 1)),
    .pf 17 (.build [(.sl [] [] true none), (.int .i64 0)] [(0, 1, (.t 16)), (1, 1, (.k (.int .i64 0)))]),
    .pf 18 (.ld true (.t 5) 10 true),
    .call (some 19) 19 [(.t 15), (.t 17), (.t 18)],
    .pf 14 (.mv (.t 19)),
    .pf 20 (.ext (.t 14) 0),
    .pf 21 (.ext (.t 14) 1),
    .boxl 8 8 (.k (.agg [(.int .u8 0), (.int .i64 0), (.str []), (.sl [] [] true none), (.sl [] [] true none), (.int .u8 0), (.str []), (.bool false)])),
    .st true (.t 8) (.t 20) 8,
    .pf 9 (.mv (.t 21))])
  (.seq (.seq (.reg [.pf 22 (.mv (.t 9)),
    .pf 23 (.not (.t 22))])
  (.cond (.t 23)
    (.seq (.reg [.pf 24 (.ld false (.t 7) 1 false),
      .pf 25 (.nilck (.t 24)),
      .pf 26 (.fa (.t 25) 4),
      .pf 27 (.ld false (.t 26) 11 true),
      .st false (.t 6) (.t 27) 11])
    .ret)
    .skip))
  (.seq (.reg [.pf 28 (.ld true (.t 8) 8 true),
    .pf 29 (.build [(.int .u8 0), (.int .u8 0), (.int .i64 0), (.str []), (.sl [] [] true none), (.sl [] [] true none), (.int .u8 0), (.str []), (.bool false), (.str []), (.int .i64 0)] [(1, 8, (.t 28))]),
    .st false (.t 6) (.t 29) 11])
  .ret)))
theorem ac9 {args : List V} {s : H} {Q : V → H → Prop} (hn : args.length ≤ 30)
    (h : wpS Tryz.prog (.seq scX9 scY9) (fun e => match e with
      | .normal => wpR Tryz.prog rD9 fun T L s => ∃ ca, T 13 = .fn (.func 18) [] ca ∧ (∀ v ∈ ca, isPtr v = true) ∧ ca.length ≤ 7 ∧ wpS Tryz.prog scZ9 (fun e => match e with
        | .exit _ => fun _ _ _ => False
        | _ => fun T L s => wpS Tryz.prog scG9 (bodyQ [] fun _ s' => ∃ vs, resV T L s' [.c 6 11 true] = some vs ∧ Q (tupV vs) s') (initT ca) (fun _ => (0, [])) s) T L s
      | _ => fun _ _ _ => False) (initT args) (fun _ => (0, [])) s) : AC Tryz.prog 9 args s Q :=
  ac_of_defer [3, 5, 8] rfl Tryz.func9 rfl (by kernel_rfl) (by kernel_rfl) (by kernel_rfl) (by kernel_rfl) rfl rfl rfl rfl (by kernel_rfl) (by kernel_rfl) hn [] rfl Tryz.func18 rfl (by kernel_rfl) (by kernel_rfl) (by kernel_rfl) h

/-- tapestry/tapestrylaw01.SameResult -/
def sc10 : SC :=
  (.seq (.reg [.boxl 2 11 (.t 0),
    .boxl 3 11 (.t 1),
    .pf 4 (.mv (.k (.bool false)))])
  (.seq (.reg [.pf 5 (.fa (.t 2) 0),
    .pf 6 (.ld true (.t 5) 1 false),
    .pf 7 (.fa (.t 3) 0),
    .pf 8 (.ld true (.t 7) 1 false),
    .pf 9 (.bin .eql (.t 6) (.t 8)),
    .pf 10 (.mv (.t 9)),
    .gd 10 true [.pf 11 (.fa (.t 2) 1)],
    .gd 10 true [.pf 12 (.ld true (.t 11) 8 true)],
    .gd 10 true [.pf 13 (.fa (.t 3) 1)],
    .gd 10 true [.pf 14 (.ld true (.t 13) 8 true)],
    .gd 10 true [.call (some 15) 20 [(.t 12), (.t 14)]],
    .pf 16 (.pick (.t 10) (.t 15) (.k (.bool false))),
    .pf 17 (.mv (.t 16)),
    .gd 17 true [.pf 18 (.fa (.t 2) 9)],
    .gd 17 true [.pf 19 (.ld true (.t 18) 1 false)],
    .gd 17 true [.pf 20 (.fa (.t 3) 9)],
    .gd 17 true [.pf 21 (.ld true (.t 20) 1 false)],
    .gd 17 true [.pf 22 (.bin .eql (.t 19) (.t 21))],
    .pf 23 (.pick (.t 17) (.t 22) (.k (.bool false))),
    .pf 24 (.mv (.t 23)),
    .gd 24 true [.pf 25 (.fa (.t 2) 10)],
    .gd 24 true [.pf 26 (.ld true (.t 25) 1 false)],
    .gd 24 true [.pf 27 (.fa (.t 3) 10)],
    .gd 24 true [.pf 28 (.ld true (.t 27) 1 false)],
    .gd 24 true [.pf 29 (.bin .eql (.t 26) (.t 28))],
    .pf 30 (.pick (.t 24) (.t 29) (.k (.bool false))),
    .pf 4 (.mv (.t 30))])
  .ret))
theorem ac10 {args : List V} {s : H} {Q : V → H → Prop} (hn : args.length ≤ 31) (h : wpS Tryz.prog sc10 (bodyQ [.t 4] Q) (initT args) (fun _ => (0, [])) s) : AC Tryz.prog 10 args s Q :=
  ac_of_wpS [2, 3, 5, 7, 11, 13, 18, 20, 25, 27] Tryz.func10 rfl (by kernel_rfl) (by kernel_rfl) (by kernel_rfl) hn h

/-- tapestry/tapestrylaw01.Beyond -/
def sc11 : SC :=
  (.seq (.reg [.pf 2 (.mv (.k (.bool false)))])
  (.seq (.reg [.pf 3 (.mv (.k (.int .i64 0)))])
  (.seq (.seq (.reg [.pf 4 (.mv (.k (.int .i64 0)))])
  (.block 0
    (.loop
      (.seq (.seq (.reg [.pf 5 (.mv (.t 4)),
        .pf 6 (.mv (.t 0)),
        .pf 7 (.len false (.t 6)),
        .pf 8 (.bin .lss (.t 5) (.t 7))])
      (.cond (.t 8)
        .skip
        (.exit 0)))
      (.seq (.block 1
        (.seq (.reg [.pf 11 (.mv (.t 3)),
          .pf 12 (.mv (.t 0)),
          .pf 13 (.mv (.t 4)),
          .pf 14 (.ia (.t 12) (.t 13) 1),
          .pf 15 (.ld false (.t 14) 1 false),
          .pf 16 (.bin .add (.t 11) (.t 15)),
          .pf 3 (.mv (.t 16))])
        (.seq (.reg [.pf 17 (.mv (.t 3)),
          .pf 18 (.bin .gtr (.t 17) (.k (.int .i64 1048576)))])
        (.cond (.t 18)
          (.seq (.reg [.pf 2 (.mv (.k (.bool true)))])
          .ret)
          .skip))))
      (.reg [.pf 9 (.mv (.t 4)),
        .pf 10 (.bin .add (.t 9) (.k (.int .i64 1))),
        .pf 4 (.mv (.t 10))]))))))
  (.seq (.reg [.pf 2 (.mv (.k (.bool false)))])
  .ret))))
theorem ac11 {args : List V} {s : H} {Q : V → H → Prop} (hn : args.length ≤ 19) (h : wpS Tryz.prog sc11 (bodyQ [.t 2] Q) (initT args) (fun _ => (0, [])) s) : AC Tryz.prog 11 args s Q :=
  ac_of_wpS [] Tryz.func11 rfl (by kernel_rfl) (by kernel_rfl) (by kernel_rfl) hn h

/-- tapestry/tapestrylaw01.ResourcesSize -/
def sc12 : SC :=
  (.seq (.reg [.pf 2 (.mv (.k (.int .i64 0)))])
  (.seq (.reg [.pf 5 (.mv (.t 0)),
    .pf 6 (.len false (.t 5)),
    .pf 3 (.mv (.t 6))])
  (.seq (.seq (.reg [.pf 4 (.mv (.k (.int .i64 0)))])
  (.block 0
    (.loop
      (.seq (.seq (.reg [.pf 7 (.mv (.t 4)),
        .pf 8 (.mv (.t 0)),
        .pf 9 (.len false (.t 8)),
        .pf 10 (.bin .lss (.t 7) (.t 9)),
        .pf 11 (.mv (.t 10)),
        .gd 11 true [.pf 12 (.mv (.t 3))],
        .gd 11 true [.pf 13 (.bin .leq (.t 12) (.k (.int .i64 1048576)))],
        .pf 14 (.pick (.t 11) (.t 13) (.k (.bool false)))])
      (.cond (.t 14)
        .skip
        (.exit 0)))
      (.seq (.block 1
        (.reg [.pf 17 (.mv (.t 3)),
          .pf 18 (.mv (.t 0)),
          .pf 19 (.mv (.t 4)),
          .pf 20 (.ia (.t 18) (.t 19) 10),
          .pf 21 (.ld false (.t 20) 10 true),
          .call (some 22) 21 [(.t 21)],
          .pf 23 (.bin .add (.t 17) (.t 22)),
          .pf 3 (.mv (.t 23))]))
      (.reg [.pf 15 (.mv (.t 4)),
        .pf 16 (.bin .add (.t 15) (.k (.int .i64 1))),
        .pf 4 (.mv (.t 16))]))))))
  (.seq (.reg [.pf 24 (.mv (.t 3)),
    .pf 2 (.mv (.t 24))])
  .ret))))
theorem ac12 {args : List V} {s : H} {Q : V → H → Prop} (hn : args.length ≤ 25) (h : wpS Tryz.prog sc12 (bodyQ [.t 2] Q) (initT args) (fun _ => (0, [])) s) : AC Tryz.prog 12 args s Q :=
  ac_of_wpS [] Tryz.func12 rfl (by kernel_rfl) (by kernel_rfl) (by kernel_rfl) hn h

/-- tapestry/tapestrylaw01.FieldsSize -/
def sc13 : SC :=
  (.seq (.reg [.pf 2 (.mv (.k (.int .i64 0)))])
  (.seq (.reg [.pf 5 (.mv (.t 0)),
    .pf 6 (.len false (.t 5)),
    .pf 3 (.mv (.t 6))])
  (.seq (.seq (.reg [.pf 4 (.mv (.k (.int .i64 0)))])
  (.block 0
    (.loop
      (.seq (.seq (.reg [.pf 7 (.mv (.t 4)),
        .pf 8 (.mv (.t 0)),
        .pf 9 (.len false (.t 8)),
        .pf 10 (.bin .lss (.t 7) (.t 9)),
        .pf 11 (.mv (.t 10)),
        .gd 11 true [.pf 12 (.mv (.t 3))],
        .gd 11 true [.pf 13 (.bin .leq (.t 12) (.k (.int .i64 1048576)))],
        .pf 14 (.pick (.t 11) (.t 13) (.k (.bool false)))])
      (.cond (.t 14)
        .skip
        (.exit 0)))
      (.seq (.block 1
        (.reg [.pf 17 (.mv (.t 3)),
          .pf 18 (.mv (.t 0)),
          .pf 19 (.mv (.t 4)),
          .pf 20 (.ia (.t 18) (.t 19) 9),
          .pf 21 (.ld false (.t 20) 9 true),
          .call (some 22) 22 [(.t 21)],
          .pf 23 (.bin .add (.t 17) (.t 22)),
          .pf 3 (.mv (.t 23))]))
      (.reg [.pf 15 (.mv (.t 4)),
        .pf 16 (.bin .add (.t 15) (.k (.int .i64 1))),
        .pf 4 (.mv (.t 16))]))))))
  (.seq (.reg [.pf 24 (.mv (.t 3)),
    .pf 2 (.mv (.t 24))])
  .ret))))
theorem ac13 {args : List V} {s : H} {Q : V → H → Prop} (hn : args.length ≤ 25) (h : wpS Tryz.prog sc13 (bodyQ [.t 2] Q) (initT args) (fun _ => (0, [])) s) : AC Tryz.prog 13 args s Q :=
  ac_of_wpS [] Tryz.func13 rfl (by kernel_rfl) (by kernel_rfl) (by kernel_rfl) hn h

/-- tapestry/tapestrylaw01.ExprSize -/
def sc14 : SC :=
  (.seq (.reg [.boxl 1 10 (.t 0),
    .pf 2 (.mv (.k (.int .i64 0)))])
  (.seq (.reg [.pf 4 (.fa (.t 1) 2),
    .pf 5 (.ld true (.t 4) 1 false),
    .pf 6 (.len true (.t 5)),
    .pf 7 (.bin .add (.k (.int .i64 1)) (.t 6)),
    .pf 8 (.fa (.t 1) 9),
    .pf 9 (.ld true (.t 8) 1 false),
    .pf 10 (.len true (.t 9)),
    .pf 11 (.bin .add (.t 7) (.t 10)),
    .pf 3 (.mv (.t 11))])
  (.seq (.seq (.reg [.pf 12 (.mv (.t 3)),
    .pf 13 (.bin .leq (.t 12) (.k (.int .i64 1048576)))])
  (.cond (.t 13)
    (.reg [.pf 14 (.mv (.t 3)),
      .pf 15 (.fa (.t 1) 3),
      .pf 16 (.ld true (.t 15) 1 false),
      .call (some 17) 15 [(.t 16)],
      .pf 18 (.bin .add (.t 14) (.t 17)),
      .pf 3 (.mv (.t 18))])
    .skip))
  (.seq (.seq (.reg [.pf 19 (.mv (.t 3)),
    .pf 20 (.bin .leq (.t 19) (.k (.int .i64 1048576)))])
  (.cond (.t 20)
    (.reg [.pf 21 (.mv (.t 3)),
      .pf 22 (.fa (.t 1) 4),
      .pf 23 (.ld true (.t 22) 1 false),
      .call (some 24) 23 [(.t 23)],
      .pf 25 (.bin .add (.t 21) (.t 24)),
      .pf 3 (.mv (.t 25))])
    .skip))
  (.seq (.seq (.reg [.pf 26 (.mv (.t 3)),
    .pf 27 (.bin .leq (.t 26) (.k (.int .i64 1048576)))])
  (.cond (.t 27)
    (.reg [.pf 28 (.mv (.t 3)),
      .pf 29 (.fa (.t 1) 5),
      .pf 30 (.ld true (.t 29) 1 false),
      .call (some 31) 15 [(.t 30)],
      .pf 32 (.bin .add (.t 28) (.t 31)),
      .pf 3 (.mv (.t 32))])
    .skip))
  (.seq (.seq (.reg [.pf 33 (.mv (.t 3)),
    .pf 34 (.bin .leq (.t 33) (.k (.int .i64 1048576)))])
  (.cond (.t 34)
    (.reg [.pf 35 (.mv (.t 3)),
      .pf 36 (.fa (.t 1) 7),
      .pf 37 (.ld true (.t 36) 1 false),
      .call (some 38) 15 [(.t 37)],
      .pf 39 (.bin .add (.t 35) (.t 38)),
      .pf 3 (.mv (.t 39))])
    .skip))
  (.seq (.seq (.reg [.pf 40 (.mv (.t 3)),
    .pf 41 (.bin .leq (.t 40) (.k (.int .i64 1048576)))])
  (.cond (.t 41)
    (.reg [.pf 42 (.mv (.t 3)),
      .pf 43 (.fa (.t 1) 8),
      .pf 44 (.ld true (.t 43) 1 false),
      .call (some 45) 24 [(.t 44)],
      .pf 46 (.bin .add (.t 42) (.t 45)),
      .pf 3 (.mv (.t 46))])
    .skip))
  (.seq (.reg [.pf 47 (.mv (.t 3)),
    .pf 2 (.mv (.t 47))])
  .ret))))))))
theorem ac14 {args : List V} {s : H} {Q : V → H → Prop} (hn : args.length ≤ 48) (h : wpS Tryz.prog sc14 (bodyQ [.t 2] Q) (initT args) (fun _ => (0, [])) s) : AC Tryz.prog 14 args s Q :=
  ac_of_wpS [1, 4, 8, 15, 22, 29, 36, 43] Tryz.func14 rfl (by kernel_rfl) (by kernel_rfl) (by kernel_rfl) hn h

/-- tapestry/tapestrylaw01.ExprsSize -/
def sc15 : SC :=
  (.seq (.reg [.pf 2 (.mv (.k (.int .i64 0)))])
  (.seq (.reg [.pf 5 (.mv (.t 0)),
    .pf 6 (.len false (.t 5)),
    .pf 3 (.mv (.t 6))])
  (.seq (.seq (.reg [.pf 4 (.mv (.k (.int .i64 0)))])
  (.block 0
    (.loop
      (.seq (.seq (.reg [.pf 7 (.mv (.t 4)),
        .pf 8 (.mv (.t 0)),
        .pf 9 (.len false (.t 8)),
        .pf 10 (.bin .lss (.t 7) (.t 9)),
        .pf 11 (.mv (.t 10)),
        .gd 11 true [.pf 12 (.mv (.t 3))],
        .gd 11 true [.pf 13 (.bin .leq (.t 12) (.k (.int .i64 1048576)))],
        .pf 14 (.pick (.t 11) (.t 13) (.k (.bool false)))])
      (.cond (.t 14)
        .skip
        (.exit 0)))
      (.seq (.block 1
        (.reg [.pf 17 (.mv (.t 3)),
          .pf 18 (.mv (.t 0)),
          .pf 19 (.mv (.t 4)),
          .pf 20 (.ia (.t 18) (.t 19) 10),
          .pf 21 (.ld false (.t 20) 10 true),
          .call (some 22) 14 [(.t 21)],
          .pf 23 (.bin .add (.t 17) (.t 22)),
          .pf 3 (.mv (.t 23))]))
      (.reg [.pf 15 (.mv (.t 4)),
        .pf 16 (.bin .add (.t 15) (.k (.int .i64 1))),
        .pf 4 (.mv (.t 16))]))))))
  (.seq (.reg [.pf 24 (.mv (.t 3)),
    .pf 2 (.mv (.t 24))])
  .ret))))
theorem ac15 {args : List V} {s : H} {Q : V → H → Prop} (hn : args.length ≤ 25) (h : wpS Tryz.prog sc15 (bodyQ [.t 2] Q) (initT args) (fun _ => (0, [])) s) : AC Tryz.prog 15 args s Q :=
  ac_of_wpS [] Tryz.func15 rfl (by kernel_rfl) (by kernel_rfl) (by kernel_rfl) hn h

/-- tapestry/tapestrylaw18.whole -/
def sc16 : SC :=
  (.seq (.reg [.boxl 2 10 (.k (.agg [(.int .u8 0), (.int .i64 0), (.str []), (.sl [] [] true none), (.sl [] [] true none), (.sl [] [] true none), (.int .u8 0), (.sl [] [] true none), (.sl [] [] true none), (.str [])]))])
  (.seq (.reg [.pf 3 (.mv (.t 0)),
    .pf 4 (.build [(.int .u8 0), (.int .i64 0), (.str []), (.sl [] [] true none), (.sl [] [] true none), (.sl [] [] true none), (.int .u8 0), (.sl [] [] true none), (.sl [] [] true none), (.str [])] [(0, 1, (.k (.int .u8 1))), (1, 1, (.t 3))]),
    .st true (.t 2) (.t 4) 10])
  .ret))
theorem ac16 {args : List V} {s : H} {Q : V → H → Prop} (hn : args.length ≤ 5) (h : wpS Tryz.prog sc16 (bodyQ [.c 2 10 true] Q) (initT args) (fun _ => (0, [])) s) : AC Tryz.prog 16 args s Q :=
  ac_of_wpS [2] Tryz.func16 rfl (by kernel_rfl) (by kernel_rfl) (by kernel_rfl) hn h

/-- tapestry/tapestrylaw01.TwinResources -/
def sc17 : SC :=
  (.seq (.reg [.pf 2 (.mv (.k (.sl [] [] true none)))])
  (.seq (.reg [.pf 5 (.mv (.t 0)),
    .pf 6 (.len false (.t 5)),
    .pf 7 (.bin .add (.t 6) (.k (.int .i64 1))),
    .mksl 8 10 (.t 7),
    .pf 3 (.mv (.t 8))])
  (.seq (.seq (.reg [.pf 4 (.mv (.k (.int .i64 0)))])
  (.block 0
    (.loop
      (.seq (.seq (.reg [.pf 9 (.mv (.t 4)),
        .pf 10 (.mv (.t 0)),
        .pf 11 (.len false (.t 10)),
        .pf 12 (.bin .lss (.t 9) (.t 11))])
      (.cond (.t 12)
        .skip
        (.exit 0)))
      (.seq (.block 1
        (.reg [.pf 15 (.mv (.t 3)),
          .pf 16 (.mv (.t 0)),
          .pf 17 (.mv (.t 4)),
          .pf 18 (.ia (.t 16) (.t 17) 10),
          .pf 19 (.ld false (.t 18) 10 true),
          .call (some 20) 25 [(.t 19)],
          .bsl 21 1 10 [(.str []), (.bool false), (.int .u8 0), (.int .i64 0), (.str []), (.sl [] [] true none), (.sl [] [] true none), (.int .u8 0), (.str []), (.bool false)] [(0, (.t 20))],
          .app 22 10 (.t 15) (.t 21),
          .pf 3 (.mv (.t 22))]))
      (.reg [.pf 13 (.mv (.t 4)),
        .pf 14 (.bin .add (.t 13) (.k (.int .i64 1))),
        .pf 4 (.mv (.t 14))]))))))
  (.seq (.reg [.pf 23 (.mv (.t 3)),
    .pf 24 (.build [(.str []), (.bool false), (.int .u8 0), (.int .i64 0), (.str []), (.sl [] [] true none), (.sl [] [] true none), (.int .u8 0), (.str []), (.bool false)] [(0, 1, (.k (.str [115, 112, 97, 114, 101])))]),
    .bsl 25 1 10 [(.str []), (.bool false), (.int .u8 0), (.int .i64 0), (.str []), (.sl [] [] true none), (.sl [] [] true none), (.int .u8 0), (.str []), (.bool false)] [(0, (.t 24))],
    .app 26 10 (.t 23) (.t 25),
    .pf 27 (.mv (.t 0)),
    .pf 28 (.len false (.t 27)),
    .pf 29 (.slc false (.t 26) none (some (.t 28)) none 10),
    .pf 2 (.mv (.t 29))])
  .ret))))
theorem ac17 {args : List V} {s : H} {Q : V → H → Prop} (hn : args.length ≤ 30) (h : wpS Tryz.prog sc17 (bodyQ [.t 2] Q) (initT args) (fun _ => (0, [])) s) : AC Tryz.prog 17 args s Q :=
  ac_of_wpS [] Tryz.func17 rfl (by kernel_rfl) (by kernel_rfl) (by kernel_rfl) hn h

/-- tapestry/eval.Eval$1 -/
def sc18 : SC :=
  (.reg [.pf 2 (.ld false (.t 0) 1 false),
    .pf 3 (.nilck (.t 2)),
    .pf 4 (.fa (.t 3) 3),
    .pf 5 (.ld false (.t 4) 1 false),
    .pf 6 (.fa (.t 1) 10),
    .st false (.t 6) (.t 5) 1])
theorem ac18 {args : List V} {s : H} {Q : V → H → Prop} (hn : args.length ≤ 7) (h : wpS Tryz.prog sc18 (bodyQ [] Q) (initT args) (fun _ => (0, [])) s) : AC Tryz.prog 18 args s Q :=
  ac_of_wpS [] Tryz.func18 rfl (by kernel_rfl) (by kernel_rfl) (by kernel_rfl) hn h

/-- (*tapestry/eval.machine).eval -/
def sc19 : SC :=
  (.seq (.reg [.boxl 4 2 (.t 1),
    .boxl 5 10 (.t 2),
    .boxl 6 8 (.k (.agg [(.int .u8 0), (.int .i64 0), (.str []), (.sl [] [] true none), (.sl [] [] true none), (.int .u8 0), (.str []), (.bool false)])),
    .pf 7 (.mv (.k (.bool false)))])
  (.seq (.seq (.reg [.p 9 (.mv (.t 0)),
    .p 10 (.nilck (.t 9)),
    .p 11 (.fa (.t 10) 3),
    .p 12 (.ld false (.t 11) 1 false),
    .p 13 (.mv (.t 0)),
    .p 14 (.nilck (.t 13)),
    .p 15 (.fa (.t 14) 0),
    .p 16 (.fa (.t 15) 1),
    .p 17 (.ld false (.t 16) 1 false),
    .p 18 (.bin .geq (.t 12) (.t 17))])
  (.cond (.t 18)
    (.seq (.reg [.pf 19 (.mv (.t 0)),
      .call (some 20) 26 [(.t 19), (.k (.str [102, 117, 101, 108]))],
      .pf 21 (.ext (.t 20) 0),
      .pf 22 (.ext (.t 20) 1),
      .st true (.t 6) (.t 21) 8,
      .pf 7 (.mv (.t 22))])
    .ret)
    .skip))
  (.seq (.reg [.pf 23 (.mv (.t 0)),
    .pf 24 (.nilck (.t 23)),
    .pf 25 (.fa (.t 24) 3),
    .pf 26 (.ld false (.t 25) 1 false),
    .pf 27 (.bin .add (.t 26) (.k (.int .i64 1))),
    .pf 28 (.nilck (.t 23)),
    .pf 29 (.fa (.t 28) 3),
    .st false (.t 29) (.t 27) 1])
  (.seq (.seq (.reg [.pf 30 (.fa (.t 4) 1),
    .pf 31 (.ld true (.t 30) 1 false),
    .pf 32 (.bin .gtr (.t 31) (.k (.int .i64 64)))])
  (.cond (.t 32)
    (.seq (.reg [.pf 33 (.mv (.t 0)),
      .call (some 34) 26 [(.t 33), (.k (.str [100, 101, 101, 112]))],
      .pf 35 (.ext (.t 34) 0),
      .pf 36 (.ext (.t 34) 1),
      .st true (.t 6) (.t 35) 8,
      .pf 7 (.mv (.t 36))])
    .ret)
    .skip))
  (.seq (.reg [.call (some 37) 27 [],
    .boxl 8 26 (.k (.agg [.nilfn, .nilfn, .nilfn, .nilfn, .nilfn, .nilfn, .nilfn, .nilfn, .nilfn, .nilfn, .nilfn, .nilfn, .nilfn, .nilfn, .nilfn, .nilfn, .nilfn, .nilfn, .nilfn, .nilfn, .nilfn, .nilfn, .nilfn, .nilfn, .nilfn, .nilfn])),
    .st true (.t 8) (.t 37) 26])
  (.seq (.seq (.reg [.p 38 (.fa (.t 5) 0),
    .p 39 (.ld true (.t 38) 1 false),
    .p 40 (.cvi .i64 (.t 39)),
    .p 41 (.bin .geq (.t 40) (.k (.int .i64 13))),
    .p 42 (.mv (.t 41)),
    .gd 42 false [.p 43 (.fa (.t 5) 0)],
    .gd 42 false [.p 44 (.ld true (.t 43) 1 false)],
    .gd 42 false [.p 45 (.iaa (.t 8) (.t 44) 13 2)],
    .gd 42 false [.p 46 (.fa (.t 45) 0)],
    .gd 42 false [.p 47 (.ld true (.t 46) 1 false)],
    .gd 42 false [.p 48 (.ld true (.t 5) 10 true)],
    .gd 42 false [.callv (some 49) (.t 47) [(.t 48)]],
    .gd 42 false [.p 50 (.not (.t 49))],
    .p 51 (.pick (.t 42) (.k (.bool true)) (.t 50))])
  (.cond (.t 51)
    (.seq (.reg [.pf 52 (.mv (.t 0)),
      .call (some 53) 26 [(.t 52), (.k (.str [102, 111, 114, 109]))],
      .pf 54 (.ext (.t 53) 0),
      .pf 55 (.ext (.t 53) 1),
      .st true (.t 6) (.t 54) 8,
      .pf 7 (.mv (.t 55))])
    .ret)
    .skip))
  (.seq (.reg [.pf 56 (.fa (.t 4) 1),
    .pf 57 (.ld true (.t 56) 1 false),
    .pf 58 (.bin .add (.t 57) (.k (.int .i64 1))),
    .pf 59 (.fa (.t 4) 1),
    .st true (.t 59) (.t 58) 1])
  (.seq (.reg [.p 60 (.fa (.t 5) 0),
    .p 61 (.ld true (.t 60) 1 false),
    .p 62 (.iaa (.t 8) (.t 61) 13 2),
    .p 63 (.fa (.t 62) 1),
    .p 64 (.ld true (.t 63) 1 false),
    .p 65 (.mv (.t 0)),
    .p 66 (.ld true (.t 4) 2 true),
    .p 67 (.ld true (.t 5) 10 true),
    .callv (some 68) (.t 64) [(.t 65), (.t 66), (.t 67)],
    .p 69 (.ext (.t 68) 0),
    .p 70 (.ext (.t 68) 1),
    .st true (.t 6) (.t 69) 8,
    .p 7 (.mv (.t 70))])
  .ret))))))))
theorem ac19 {args : List V} {s : H} {Q : V → H → Prop} (hn : args.length ≤ 71) (h : wpS Tryz.prog sc19 (bodyQ [.c 6 8 true, .t 7] Q) (initT args) (fun _ => (0, [])) s) : AC Tryz.prog 19 args s Q :=
  ac_of_wpS [4, 5, 6, 8, 30, 38, 43, 45, 46, 56, 59, 60, 62, 63] Tryz.func19 rfl (by kernel_rfl) (by kernel_rfl) (by kernel_rfl) hn h

/-- tapestry/tapestrylaw01.SameValue -/
def sc20 : SC :=
  (.seq (.reg [.boxl 2 8 (.t 0),
    .boxl 3 8 (.t 1),
    .pf 4 (.mv (.k (.bool false)))])
  (.seq (.reg [.pf 5 (.fa (.t 2) 0),
    .pf 6 (.ld true (.t 5) 1 false),
    .pf 7 (.fa (.t 3) 0),
    .pf 8 (.ld true (.t 7) 1 false),
    .pf 9 (.bin .eql (.t 6) (.t 8)),
    .pf 10 (.mv (.t 9)),
    .gd 10 true [.pf 11 (.fa (.t 2) 1)],
    .gd 10 true [.pf 12 (.ld true (.t 11) 1 false)],
    .gd 10 true [.pf 13 (.fa (.t 3) 1)],
    .gd 10 true [.pf 14 (.ld true (.t 13) 1 false)],
    .gd 10 true [.pf 15 (.bin .eql (.t 12) (.t 14))],
    .pf 16 (.pick (.t 10) (.t 15) (.k (.bool false))),
    .pf 17 (.mv (.t 16)),
    .gd 17 true [.pf 18 (.fa (.t 2) 2)],
    .gd 17 true [.pf 19 (.ld true (.t 18) 1 false)],
    .gd 17 true [.pf 20 (.fa (.t 3) 2)],
    .gd 17 true [.pf 21 (.ld true (.t 20) 1 false)],
    .gd 17 true [.pf 22 (.bin .eql (.t 19) (.t 21))],
    .pf 23 (.pick (.t 17) (.t 22) (.k (.bool false))),
    .pf 24 (.mv (.t 23)),
    .gd 24 true [.pf 25 (.fa (.t 2) 3)],
    .gd 24 true [.pf 26 (.ld true (.t 25) 1 false)],
    .gd 24 true [.pf 27 (.fa (.t 3) 3)],
    .gd 24 true [.pf 28 (.ld true (.t 27) 1 false)],
    .gd 24 true [.call (some 29) 28 [(.t 26), (.t 28)]],
    .pf 30 (.pick (.t 24) (.t 29) (.k (.bool false))),
    .pf 31 (.mv (.t 30)),
    .gd 31 true [.pf 32 (.fa (.t 2) 4)],
    .gd 31 true [.pf 33 (.ld true (.t 32) 1 false)],
    .gd 31 true [.pf 34 (.fa (.t 3) 4)],
    .gd 31 true [.pf 35 (.ld true (.t 34) 1 false)],
    .gd 31 true [.call (some 36) 29 [(.t 33), (.t 35)]],
    .pf 37 (.pick (.t 31) (.t 36) (.k (.bool false))),
    .pf 38 (.mv (.t 37)),
    .gd 38 true [.pf 39 (.fa (.t 2) 5)],
    .gd 38 true [.pf 40 (.ld true (.t 39) 1 false)],
    .gd 38 true [.pf 41 (.fa (.t 3) 5)],
    .gd 38 true [.pf 42 (.ld true (.t 41) 1 false)],
    .gd 38 true [.pf 43 (.bin .eql (.t 40) (.t 42))],
    .pf 44 (.pick (.t 38) (.t 43) (.k (.bool false))),
    .pf 45 (.mv (.t 44)),
    .gd 45 true [.pf 46 (.fa (.t 2) 6)],
    .gd 45 true [.pf 47 (.ld true (.t 46) 1 false)],
    .gd 45 true [.pf 48 (.fa (.t 3) 6)],
    .gd 45 true [.pf 49 (.ld true (.t 48) 1 false)],
    .gd 45 true [.pf 50 (.bin .eql (.t 47) (.t 49))],
    .pf 51 (.pick (.t 45) (.t 50) (.k (.bool false))),
    .pf 52 (.mv (.t 51)),
    .gd 52 true [.pf 53 (.fa (.t 2) 7)],
    .gd 52 true [.pf 54 (.ld true (.t 53) 1 false)],
    .gd 52 true [.pf 55 (.fa (.t 3) 7)],
    .gd 52 true [.pf 56 (.ld true (.t 55) 1 false)],
    .gd 52 true [.pf 57 (.eqb false (.t 54) (.t 56))],
    .pf 58 (.pick (.t 52) (.t 57) (.k (.bool false))),
    .pf 4 (.mv (.t 58))])
  .ret))
theorem ac20 {args : List V} {s : H} {Q : V → H → Prop} (hn : args.length ≤ 59) (h : wpS Tryz.prog sc20 (bodyQ [.t 4] Q) (initT args) (fun _ => (0, [])) s) : AC Tryz.prog 20 args s Q :=
  ac_of_wpS [2, 3, 5, 7, 11, 13, 18, 20, 25, 27, 32, 34, 39, 41, 46, 48, 53, 55] Tryz.func20 rfl (by kernel_rfl) (by kernel_rfl) (by kernel_rfl) hn h

/-- tapestry/tapestrylaw01.ResourceSize -/
def sc21 : SC :=
  (.seq (.reg [.boxl 1 10 (.t 0),
    .pf 2 (.mv (.k (.int .i64 0)))])
  (.seq (.reg [.pf 4 (.fa (.t 1) 0),
    .pf 5 (.ld true (.t 4) 1 false),
    .pf 6 (.len true (.t 5)),
    .pf 7 (.bin .add (.k (.int .i64 1)) (.t 6)),
    .pf 3 (.mv (.t 7))])
  (.seq (.seq (.reg [.pf 8 (.mv (.t 3)),
    .pf 9 (.bin .leq (.t 8) (.k (.int .i64 1048576)))])
  (.cond (.t 9)
    (.reg [.pf 10 (.mv (.t 3)),
      .pf 11 (.fa (.t 1) 2),
      .pf 12 (.ld true (.t 11) 8 true),
      .call (some 13) 30 [(.t 12)],
      .pf 14 (.bin .add (.t 10) (.t 13)),
      .pf 3 (.mv (.t 14))])
    .skip))
  (.seq (.reg [.pf 15 (.mv (.t 3)),
    .pf 2 (.mv (.t 15))])
  .ret))))
theorem ac21 {args : List V} {s : H} {Q : V → H → Prop} (hn : args.length ≤ 16) (h : wpS Tryz.prog sc21 (bodyQ [.t 2] Q) (initT args) (fun _ => (0, [])) s) : AC Tryz.prog 21 args s Q :=
  ac_of_wpS [1, 4, 11] Tryz.func21 rfl (by kernel_rfl) (by kernel_rfl) (by kernel_rfl) hn h

/-- tapestry/tapestrylaw01.FieldSize -/
def sc22 : SC :=
  (.seq (.reg [.boxl 1 9 (.t 0),
    .pf 2 (.mv (.k (.int .i64 0)))])
  (.seq (.reg [.pf 4 (.fa (.t 1) 0),
    .pf 5 (.ld true (.t 4) 1 false),
    .pf 6 (.len true (.t 5)),
    .pf 7 (.bin .add (.k (.int .i64 1)) (.t 6)),
    .pf 3 (.mv (.t 7))])
  (.seq (.seq (.reg [.pf 8 (.mv (.t 3)),
    .pf 9 (.bin .leq (.t 8) (.k (.int .i64 1048576)))])
  (.cond (.t 9)
    (.reg [.pf 10 (.mv (.t 3)),
      .pf 11 (.fa (.t 1) 1),
      .pf 12 (.ld true (.t 11) 8 true),
      .call (some 13) 30 [(.t 12)],
      .pf 14 (.bin .add (.t 10) (.t 13)),
      .pf 3 (.mv (.t 14))])
    .skip))
  (.seq (.reg [.pf 15 (.mv (.t 3)),
    .pf 2 (.mv (.t 15))])
  .ret))))
theorem ac22 {args : List V} {s : H} {Q : V → H → Prop} (hn : args.length ≤ 16) (h : wpS Tryz.prog sc22 (bodyQ [.t 2] Q) (initT args) (fun _ => (0, [])) s) : AC Tryz.prog 22 args s Q :=
  ac_of_wpS [1, 4, 11] Tryz.func22 rfl (by kernel_rfl) (by kernel_rfl) (by kernel_rfl) hn h

/-- tapestry/tapestrylaw01.TextsSize -/
def sc23 : SC :=
  (.seq (.reg [.pf 2 (.mv (.k (.int .i64 0)))])
  (.seq (.reg [.pf 5 (.mv (.t 0)),
    .pf 6 (.len false (.t 5)),
    .pf 3 (.mv (.t 6))])
  (.seq (.seq (.reg [.pf 4 (.mv (.k (.int .i64 0)))])
  (.block 0
    (.loop
      (.seq (.seq (.reg [.pf 7 (.mv (.t 4)),
        .pf 8 (.mv (.t 0)),
        .pf 9 (.len false (.t 8)),
        .pf 10 (.bin .lss (.t 7) (.t 9)),
        .pf 11 (.mv (.t 10)),
        .gd 11 true [.pf 12 (.mv (.t 3))],
        .gd 11 true [.pf 13 (.bin .leq (.t 12) (.k (.int .i64 1048576)))],
        .pf 14 (.pick (.t 11) (.t 13) (.k (.bool false)))])
      (.cond (.t 14)
        .skip
        (.exit 0)))
      (.seq (.block 1
        (.reg [.pf 17 (.mv (.t 3)),
          .pf 18 (.mv (.t 0)),
          .pf 19 (.mv (.t 4)),
          .pf 20 (.ia (.t 18) (.t 19) 1),
          .pf 21 (.ld false (.t 20) 1 false),
          .pf 22 (.len true (.t 21)),
          .pf 23 (.bin .add (.t 17) (.t 22)),
          .pf 3 (.mv (.t 23))]))
      (.reg [.pf 15 (.mv (.t 4)),
        .pf 16 (.bin .add (.t 15) (.k (.int .i64 1))),
        .pf 4 (.mv (.t 16))]))))))
  (.seq (.reg [.pf 24 (.mv (.t 3)),
    .pf 2 (.mv (.t 24))])
  .ret))))
theorem ac23 {args : List V} {s : H} {Q : V → H → Prop} (hn : args.length ≤ 25) (h : wpS Tryz.prog sc23 (bodyQ [.t 2] Q) (initT args) (fun _ => (0, [])) s) : AC Tryz.prog 23 args s Q :=
  ac_of_wpS [] Tryz.func23 rfl (by kernel_rfl) (by kernel_rfl) (by kernel_rfl) hn h

/-- tapestry/tapestrylaw01.ActsSize -/
def sc24 : SC :=
  (.seq (.reg [.pf 2 (.mv (.k (.int .i64 0)))])
  (.seq (.reg [.pf 5 (.mv (.t 0)),
    .pf 6 (.len false (.t 5)),
    .pf 3 (.mv (.t 6))])
  (.seq (.seq (.reg [.pf 4 (.mv (.k (.int .i64 0)))])
  (.block 0
    (.loop
      (.seq (.seq (.reg [.pf 7 (.mv (.t 4)),
        .pf 8 (.mv (.t 0)),
        .pf 9 (.len false (.t 8)),
        .pf 10 (.bin .lss (.t 7) (.t 9)),
        .pf 11 (.mv (.t 10)),
        .gd 11 true [.pf 12 (.mv (.t 3))],
        .gd 11 true [.pf 13 (.bin .leq (.t 12) (.k (.int .i64 1048576)))],
        .pf 14 (.pick (.t 11) (.t 13) (.k (.bool false)))])
      (.cond (.t 14)
        .skip
        (.exit 0)))
      (.seq (.block 1
        (.reg [.pf 17 (.mv (.t 3)),
          .pf 18 (.mv (.t 0)),
          .pf 19 (.mv (.t 4)),
          .pf 20 (.ia (.t 18) (.t 19) 12),
          .pf 21 (.ld false (.t 20) 12 true),
          .call (some 22) 31 [(.t 21)],
          .pf 23 (.bin .add (.t 17) (.t 22)),
          .pf 3 (.mv (.t 23))]))
      (.reg [.pf 15 (.mv (.t 4)),
        .pf 16 (.bin .add (.t 15) (.k (.int .i64 1))),
        .pf 4 (.mv (.t 16))]))))))
  (.seq (.reg [.pf 24 (.mv (.t 3)),
    .pf 2 (.mv (.t 24))])
  .ret))))
theorem ac24 {args : List V} {s : H} {Q : V → H → Prop} (hn : args.length ≤ 25) (h : wpS Tryz.prog sc24 (bodyQ [.t 2] Q) (initT args) (fun _ => (0, [])) s) : AC Tryz.prog 24 args s Q :=
  ac_of_wpS [] Tryz.func24 rfl (by kernel_rfl) (by kernel_rfl) (by kernel_rfl) hn h

/-- tapestry/tapestrylaw01.TwinResource -/
def sc25 : SC :=
  (.seq (.reg [.boxl 1 10 (.t 0),
    .boxl 2 10 (.k (.agg [(.str []), (.bool false), (.int .u8 0), (.int .i64 0), (.str []), (.sl [] [] true none), (.sl [] [] true none), (.int .u8 0), (.str []), (.bool false)]))])
  (.seq (.reg [.p 3 (.fa (.t 1) 0),
    .p 4 (.ld true (.t 3) 1 false),
    .p 5 (.fa (.t 1) 1),
    .p 6 (.ld true (.t 5) 1 false),
    .p 7 (.fa (.t 1) 2),
    .p 8 (.ld true (.t 7) 8 true),
    .call (some 9) 32 [(.t 8)],
    .p 10 (.build [(.str []), (.bool false), (.int .u8 0), (.int .i64 0), (.str []), (.sl [] [] true none), (.sl [] [] true none), (.int .u8 0), (.str []), (.bool false)] [(0, 1, (.t 4)), (1, 1, (.t 6)), (2, 8, (.t 9))]),
    .st true (.t 2) (.t 10) 10])
  .ret))
theorem ac25 {args : List V} {s : H} {Q : V → H → Prop} (hn : args.length ≤ 11) (h : wpS Tryz.prog sc25 (bodyQ [.c 2 10 true] Q) (initT args) (fun _ => (0, [])) s) : AC Tryz.prog 25 args s Q :=
  ac_of_wpS [1, 2, 3, 5, 7] Tryz.func25 rfl (by kernel_rfl) (by kernel_rfl) (by kernel_rfl) hn h

/-- (*tapestry/eval.machine).fail -/
def sc26 : SC :=
  (.seq (.reg [.boxl 4 8 (.k (.agg [(.int .u8 0), (.int .i64 0), (.str []), (.sl [] [] true none), (.sl [] [] true none), (.int .u8 0), (.str []), (.bool false)])),
    .pf 5 (.mv (.k (.bool false)))])
  (.seq (.reg [.pf 6 (.mv (.t 0)),
    .pf 7 (.mv (.t 1)),
    .call (some 8) 34 [(.t 7)],
    .call (some 9) 33 [(.t 6), (.t 8)],
    .pf 10 (.ext (.t 9) 0),
    .pf 11 (.ext (.t 9) 1),
    .st true (.t 4) (.t 10) 8,
    .pf 5 (.mv (.t 11))])
  .ret))
theorem ac26 {args : List V} {s : H} {Q : V → H → Prop} (hn : args.length ≤ 12) (h : wpS Tryz.prog sc26 (bodyQ [.c 4 8 true, .t 5] Q) (initT args) (fun _ => (0, [])) s) : AC Tryz.prog 26 args s Q :=
  ac_of_wpS [4] Tryz.func26 rfl (by kernel_rfl) (by kernel_rfl) (by kernel_rfl) hn h

/-- tapestry/eval.rows -/
def sc27 : SC :=
  (.seq (.reg [.boxl 0 26 (.k (.agg [.nilfn, .nilfn, .nilfn, .nilfn, .nilfn, .nilfn, .nilfn, .nilfn, .nilfn, .nilfn, .nilfn, .nilfn, .nilfn, .nilfn, .nilfn, .nilfn, .nilfn, .nilfn, .nilfn, .nilfn, .nilfn, .nilfn, .nilfn, .nilfn, .nilfn, .nilfn]))])
  (.seq (.reg [.pf 1 (.build [.nilfn, .nilfn] [(0, 1, (.k (.fn (.func 35) [] []))), (1, 1, (.k (.fn (.func 36) [] [])))]),
    .pf 2 (.build [.nilfn, .nilfn] [(0, 1, (.k (.fn (.func 35) [] []))), (1, 1, (.k (.fn (.func 37) [] [])))]),
    .pf 3 (.build [.nilfn, .nilfn] [(0, 1, (.k (.fn (.func 35) [] []))), (1, 1, (.k (.fn (.func 38) [] [])))]),
    .pf 4 (.build [.nilfn, .nilfn] [(0, 1, (.k (.fn (.func 39) [] []))), (1, 1, (.k (.fn (.func 40) [] [])))]),
    .pf 5 (.build [.nilfn, .nilfn] [(0, 1, (.k (.fn (.func 41) [] []))), (1, 1, (.k (.fn (.func 43) [] [])))]),
    .pf 6 (.build [.nilfn, .nilfn] [(0, 1, (.k (.fn (.func 44) [] []))), (1, 1, (.k (.fn (.func 45) [] [])))]),
    .call (some 7) 46 [(.k (.int .i64 3))],
    .pf 8 (.build [.nilfn, .nilfn] [(0, 1, (.t 7)), (1, 1, (.k (.fn (.func 47) [] [])))]),
    .pf 9 (.build [.nilfn, .nilfn] [(0, 1, (.k (.fn (.func 48) [] []))), (1, 1, (.k (.fn (.func 49) [] [])))]),
    .call (some 10) 46 [(.k (.int .i64 1))],
    .pf 11 (.build [.nilfn, .nilfn] [(0, 1, (.t 10)), (1, 1, (.k (.fn (.func 50) [] [])))]),
    .call (some 12) 46 [(.k (.int .i64 1))],
    .pf 13 (.build [.nilfn, .nilfn] [(0, 1, (.t 12)), (1, 1, (.k (.fn (.func 51) [] [])))]),
    .pf 14 (.build [.nilfn, .nilfn] [(0, 1, (.k (.fn (.func 52) [] []))), (1, 1, (.k (.fn (.func 54) [] [])))]),
    .pf 15 (.build [.nilfn, .nilfn] [(0, 1, (.k (.fn (.func 55) [] []))), (1, 1, (.k (.fn (.func 56) [] [])))]),
    .pf 16 (.build [.nilfn, .nilfn] [(0, 1, (.k (.fn (.func 57) [] []))), (1, 1, (.k (.fn (.func 58) [] [])))]),
    .pf 17 (.build [.nilfn, .nilfn, .nilfn, .nilfn, .nilfn, .nilfn, .nilfn, .nilfn, .nilfn, .nilfn, .nilfn, .nilfn, .nilfn, .nilfn, .nilfn, .nilfn, .nilfn, .nilfn, .nilfn, .nilfn, .nilfn, .nilfn, .nilfn, .nilfn, .nilfn, .nilfn] [(0, 2, (.t 1)), (2, 2, (.t 2)), (4, 2, (.t 3)), (6, 2, (.t 4)), (8, 2, (.t 5)), (10, 2, (.t 6)), (12, 2, (.t 8)), (14, 2, (.t 9)), (16, 2, (.t 11)), (18, 2, (.t 13)), (20, 2, (.t 14)), (22, 2, (.t 15)), (24, 2, (.t 16))]),
    .st true (.t 0) (.t 17) 26])
  .ret))
theorem ac27 {args : List V} {s : H} {Q : V → H → Prop} (hn : args.length ≤ 18) (h : wpS Tryz.prog sc27 (bodyQ [.c 0 26 true] Q) (initT args) (fun _ => (0, [])) s) : AC Tryz.prog 27 args s Q :=
  ac_of_wpS [0] Tryz.func27 rfl (by kernel_rfl) (by kernel_rfl) (by kernel_rfl) hn h

/-- tapestry/tapestrylaw01.SameValues -/
def sc28 : SC :=
  (.seq (.reg [.pf 4 (.mv (.k (.bool false)))])
  (.seq (.seq (.reg [.pf 6 (.mv (.t 0)),
    .pf 7 (.len false (.t 6)),
    .pf 8 (.mv (.t 1)),
    .pf 9 (.len false (.t 8)),
    .pf 10 (.bin .neq (.t 7) (.t 9))])
  (.cond (.t 10)
    (.seq (.reg [.pf 4 (.mv (.k (.bool false)))])
    .ret)
    .skip))
  (.seq (.seq (.reg [.pf 5 (.mv (.k (.int .i64 0)))])
  (.block 0
    (.loop
      (.seq (.seq (.reg [.pf 11 (.mv (.t 5)),
        .pf 12 (.mv (.t 0)),
        .pf 13 (.len false (.t 12)),
        .pf 14 (.bin .lss (.t 11) (.t 13))])
      (.cond (.t 14)
        .skip
        (.exit 0)))
      (.seq (.block 1
        (.seq (.reg [.p 17 (.mv (.t 0)),
          .p 18 (.mv (.t 5)),
          .p 19 (.ia (.t 17) (.t 18) 8),
          .p 20 (.ld false (.t 19) 8 true),
          .p 21 (.mv (.t 1)),
          .p 22 (.mv (.t 5)),
          .p 23 (.ia (.t 21) (.t 22) 8),
          .p 24 (.ld false (.t 23) 8 true),
          .call (some 25) 20 [(.t 20), (.t 24)],
          .p 26 (.not (.t 25))])
        (.cond (.t 26)
          (.seq (.reg [.pf 4 (.mv (.k (.bool false)))])
          .ret)
          .skip)))
      (.reg [.pf 15 (.mv (.t 5)),
        .pf 16 (.bin .add (.t 15) (.k (.int .i64 1))),
        .pf 5 (.mv (.t 16))]))))))
  (.seq (.reg [.pf 4 (.mv (.k (.bool true)))])
  .ret))))
theorem ac28 {args : List V} {s : H} {Q : V → H → Prop} (hn : args.length ≤ 27) (h : wpS Tryz.prog sc28 (bodyQ [.t 4] Q) (initT args) (fun _ => (0, [])) s) : AC Tryz.prog 28 args s Q :=
  ac_of_wpS [] Tryz.func28 rfl (by kernel_rfl) (by kernel_rfl) (by kernel_rfl) hn h

/-- tapestry/tapestrylaw01.SameFields -/
def sc29 : SC :=
  (.seq (.reg [.pf 4 (.mv (.k (.bool false)))])
  (.seq (.seq (.reg [.pf 6 (.mv (.t 0)),
    .pf 7 (.len false (.t 6)),
    .pf 8 (.mv (.t 1)),
    .pf 9 (.len false (.t 8)),
    .pf 10 (.bin .neq (.t 7) (.t 9))])
  (.cond (.t 10)
    (.seq (.reg [.pf 4 (.mv (.k (.bool false)))])
    .ret)
    .skip))
  (.seq (.seq (.reg [.pf 5 (.mv (.k (.int .i64 0)))])
  (.block 0
    (.loop
      (.seq (.seq (.reg [.pf 11 (.mv (.t 5)),
        .pf 12 (.mv (.t 0)),
        .pf 13 (.len false (.t 12)),
        .pf 14 (.bin .lss (.t 11) (.t 13))])
      (.cond (.t 14)
        .skip
        (.exit 0)))
      (.seq (.block 1
        (.seq (.reg [.p 17 (.mv (.t 0)),
          .p 18 (.mv (.t 5)),
          .p 19 (.ia (.t 17) (.t 18) 9),
          .p 20 (.ld false (.t 19) 9 true),
          .p 21 (.mv (.t 1)),
          .p 22 (.mv (.t 5)),
          .p 23 (.ia (.t 21) (.t 22) 9),
          .p 24 (.ld false (.t 23) 9 true),
          .call (some 25) 59 [(.t 20), (.t 24)],
          .p 26 (.not (.t 25))])
        (.cond (.t 26)
          (.seq (.reg [.pf 4 (.mv (.k (.bool false)))])
          .ret)
          .skip)))
      (.reg [.pf 15 (.mv (.t 5)),
        .pf 16 (.bin .add (.t 15) (.k (.int .i64 1))),
        .pf 5 (.mv (.t 16))]))))))
  (.seq (.reg [.pf 4 (.mv (.k (.bool true)))])
  .ret))))
theorem ac29 {args : List V} {s : H} {Q : V → H → Prop} (hn : args.length ≤ 27) (h : wpS Tryz.prog sc29 (bodyQ [.t 4] Q) (initT args) (fun _ => (0, [])) s) : AC Tryz.prog 29 args s Q :=
  ac_of_wpS [] Tryz.func29 rfl (by kernel_rfl) (by kernel_rfl) (by kernel_rfl) hn h

/-- tapestry/tapestrylaw01.ValueSize -/
def sc30 : SC :=
  (.seq (.reg [.boxl 1 8 (.t 0),
    .pf 2 (.mv (.k (.int .i64 0)))])
  (.seq (.reg [.pf 4 (.fa (.t 1) 2),
    .pf 5 (.ld true (.t 4) 1 false),
    .pf 6 (.len true (.t 5)),
    .pf 7 (.bin .add (.k (.int .i64 1)) (.t 6)),
    .pf 8 (.fa (.t 1) 6),
    .pf 9 (.ld true (.t 8) 1 false),
    .pf 10 (.len true (.t 9)),
    .pf 11 (.bin .add (.t 7) (.t 10)),
    .pf 3 (.mv (.t 11))])
  (.seq (.seq (.reg [.pf 12 (.mv (.t 3)),
    .pf 13 (.bin .leq (.t 12) (.k (.int .i64 1048576)))])
  (.cond (.t 13)
    (.reg [.pf 14 (.mv (.t 3)),
      .pf 15 (.fa (.t 1) 3),
      .pf 16 (.ld true (.t 15) 1 false),
      .call (some 17) 60 [(.t 16)],
      .pf 18 (.bin .add (.t 14) (.t 17)),
      .pf 3 (.mv (.t 18))])
    .skip))
  (.seq (.seq (.reg [.pf 19 (.mv (.t 3)),
    .pf 20 (.bin .leq (.t 19) (.k (.int .i64 1048576)))])
  (.cond (.t 20)
    (.reg [.pf 21 (.mv (.t 3)),
      .pf 22 (.fa (.t 1) 4),
      .pf 23 (.ld true (.t 22) 1 false),
      .call (some 24) 13 [(.t 23)],
      .pf 25 (.bin .add (.t 21) (.t 24)),
      .pf 3 (.mv (.t 25))])
    .skip))
  (.seq (.reg [.pf 26 (.mv (.t 3)),
    .pf 2 (.mv (.t 26))])
  .ret)))))
theorem ac30 {args : List V} {s : H} {Q : V → H → Prop} (hn : args.length ≤ 27) (h : wpS Tryz.prog sc30 (bodyQ [.t 2] Q) (initT args) (fun _ => (0, [])) s) : AC Tryz.prog 30 args s Q :=
  ac_of_wpS [1, 4, 8, 15, 22] Tryz.func30 rfl (by kernel_rfl) (by kernel_rfl) (by kernel_rfl) hn h

/-- tapestry/tapestrylaw01.ActSize -/
def sc31 : SC :=
  (.seq (.reg [.boxl 1 12 (.t 0),
    .pf 2 (.mv (.k (.int .i64 0)))])
  (.seq (.reg [.pf 4 (.fa (.t 1) 1),
    .pf 5 (.ld true (.t 4) 1 false),
    .pf 6 (.len true (.t 5)),
    .pf 7 (.bin .add (.k (.int .i64 1)) (.t 6)),
    .pf 3 (.mv (.t 7))])
  (.seq (.seq (.reg [.pf 8 (.mv (.t 3)),
    .pf 9 (.bin .leq (.t 8) (.k (.int .i64 1048576)))])
  (.cond (.t 9)
    (.reg [.pf 10 (.mv (.t 3)),
      .pf 11 (.fa (.t 1) 2),
      .pf 12 (.ld true (.t 11) 10 true),
      .call (some 13) 14 [(.t 12)],
      .pf 14 (.bin .add (.t 10) (.t 13)),
      .pf 3 (.mv (.t 14))])
    .skip))
  (.seq (.reg [.pf 15 (.mv (.t 3)),
    .pf 2 (.mv (.t 15))])
  .ret))))
theorem ac31 {args : List V} {s : H} {Q : V → H → Prop} (hn : args.length ≤ 16) (h : wpS Tryz.prog sc31 (bodyQ [.t 2] Q) (initT args) (fun _ => (0, [])) s) : AC Tryz.prog 31 args s Q :=
  ac_of_wpS [1, 4, 11] Tryz.func31 rfl (by kernel_rfl) (by kernel_rfl) (by kernel_rfl) hn h

/-- tapestry/tapestrylaw01.TwinValue -/
def sc32 : SC :=
  (.seq (.reg [.boxl 1 8 (.t 0),
    .boxl 2 8 (.k (.agg [(.int .u8 0), (.int .i64 0), (.str []), (.sl [] [] true none), (.sl [] [] true none), (.int .u8 0), (.str []), (.bool false)]))])
  (.seq (.reg [.p 3 (.fa (.t 1) 0),
    .p 4 (.ld true (.t 3) 1 false),
    .p 5 (.fa (.t 1) 1),
    .p 6 (.ld true (.t 5) 1 false),
    .p 7 (.fa (.t 1) 2),
    .p 8 (.ld true (.t 7) 1 false),
    .p 9 (.fa (.t 1) 3),
    .p 10 (.ld true (.t 9) 1 false),
    .p 12 (.fa (.t 1) 4),
    .p 13 (.ld true (.t 12) 1 false),
    .p 15 (.fa (.t 1) 5),
    .p 16 (.ld true (.t 15) 1 false),
    .p 17 (.fa (.t 1) 6),
    .p 18 (.ld true (.t 17) 1 false),
    .p 19 (.fa (.t 1) 7),
    .p 20 (.ld true (.t 19) 1 false),
    .call (some 11) 61 [(.t 10)],
    .call (some 14) 62 [(.t 13)],
    .p 21 (.build [(.int .u8 0), (.int .i64 0), (.str []), (.sl [] [] true none), (.sl [] [] true none), (.int .u8 0), (.str []), (.bool false)] [(0, 1, (.t 4)), (1, 1, (.t 6)), (2, 1, (.t 8)), (3, 1, (.t 11)), (4, 1, (.t 14)), (5, 1, (.t 16)), (6, 1, (.t 18)), (7, 1, (.t 20))]),
    .st true (.t 2) (.t 21) 8])
  .ret))
theorem ac32 {args : List V} {s : H} {Q : V → H → Prop} (hn : args.length ≤ 22) (h : wpS Tryz.prog sc32 (bodyQ [.c 2 8 true] Q) (initT args) (fun _ => (0, [])) s) : AC Tryz.prog 32 args s Q :=
  ac_of_wpS [1, 2, 3, 5, 7, 9, 12, 15, 17, 19] Tryz.func32 rfl (by kernel_rfl) (by kernel_rfl) (by kernel_rfl) hn h

/-- (*tapestry/eval.machine).throw -/
def sc33 : SC :=
  (.seq (.reg [.boxl 3 8 (.t 1),
    .boxl 4 8 (.k (.agg [(.int .u8 0), (.int .i64 0), (.str []), (.sl [] [] true none), (.sl [] [] true none), (.int .u8 0), (.str []), (.bool false)])),
    .pf 5 (.mv (.k (.bool false)))])
  (.seq (.reg [.pf 6 (.mv (.t 0)),
    .pf 7 (.ld true (.t 3) 8 true),
    .pf 8 (.build [(.int .u8 0), (.int .u8 0), (.int .i64 0), (.str []), (.sl [] [] true none), (.sl [] [] true none), (.int .u8 0), (.str []), (.bool false), (.str []), (.int .i64 0)] [(0, 1, (.k (.int .u8 1))), (1, 8, (.t 7))]),
    .pf 9 (.nilck (.t 6)),
    .pf 10 (.fa (.t 9) 4),
    .st false (.t 10) (.t 8) 11])
  (.seq (.reg [.pf 11 (.build [(.int .u8 0), (.int .i64 0), (.str []), (.sl [] [] true none), (.sl [] [] true none), (.int .u8 0), (.str []), (.bool false)] []),
    .st true (.t 4) (.t 11) 8,
    .pf 5 (.mv (.k (.bool false)))])
  .ret)))
theorem ac33 {args : List V} {s : H} {Q : V → H → Prop} (hn : args.length ≤ 12) (h : wpS Tryz.prog sc33 (bodyQ [.c 4 8 true, .t 5] Q) (initT args) (fun _ => (0, [])) s) : AC Tryz.prog 33 args s Q :=
  ac_of_wpS [3, 4] Tryz.func33 rfl (by kernel_rfl) (by kernel_rfl) (by kernel_rfl) hn h

/-- tapestry/eval.text -/
def sc34 : SC :=
  (.seq (.reg [.boxl 2 8 (.k (.agg [(.int .u8 0), (.int .i64 0), (.str []), (.sl [] [] true none), (.sl [] [] true none), (.int .u8 0), (.str []), (.bool false)]))])
  (.seq (.reg [.pf 3 (.mv (.t 0)),
    .pf 4 (.build [(.int .u8 0), (.int .i64 0), (.str []), (.sl [] [] true none), (.sl [] [] true none), (.int .u8 0), (.str []), (.bool false)] [(0, 1, (.k (.int .u8 3))), (2, 1, (.t 3))]),
    .st true (.t 2) (.t 4) 8])
  .ret))
theorem ac34 {args : List V} {s : H} {Q : V → H → Prop} (hn : args.length ≤ 5) (h : wpS Tryz.prog sc34 (bodyQ [.c 2 8 true] Q) (initT args) (fun _ => (0, [])) s) : AC Tryz.prog 34 args s Q :=
  ac_of_wpS [2] Tryz.func34 rfl (by kernel_rfl) (by kernel_rfl) (by kernel_rfl) hn h

/-- tapestry/eval.yes -/
def sc35 : SC :=
  (.seq (.reg [.boxl 1 10 (.t 0),
    .pf 2 (.mv (.k (.bool false)))])
  (.seq (.reg [.pf 2 (.mv (.k (.bool true)))])
  .ret))
theorem ac35 {args : List V} {s : H} {Q : V → H → Prop} (hn : args.length ≤ 3) (h : wpS Tryz.prog sc35 (bodyQ [.t 2] Q) (initT args) (fun _ => (0, [])) s) : AC Tryz.prog 35 args s Q :=
  ac_of_wpS [1] Tryz.func35 rfl (by kernel_rfl) (by kernel_rfl) (by kernel_rfl) hn h

/-- (*tapestry/eval.machine).none -/
def sc36 : SC :=
  (.seq (.reg [.boxl 4 2 (.t 1),
    .boxl 5 10 (.t 2),
    .boxl 6 8 (.k (.agg [(.int .u8 0), (.int .i64 0), (.str []), (.sl [] [] true none), (.sl [] [] true none), (.int .u8 0), (.str []), (.bool false)])),
    .pf 7 (.mv (.k (.bool false)))])
  (.seq (.reg [.pf 8 (.build [(.int .u8 0), (.int .i64 0), (.str []), (.sl [] [] true none), (.sl [] [] true none), (.int .u8 0), (.str []), (.bool false)] []),
    .st true (.t 6) (.t 8) 8,
    .pf 7 (.mv (.k (.bool true)))])
  .ret))
theorem ac36 {args : List V} {s : H} {Q : V → H → Prop} (hn : args.length ≤ 9) (h : wpS Tryz.prog sc36 (bodyQ [.c 6 8 true, .t 7] Q) (initT args) (fun _ => (0, [])) s) : AC Tryz.prog 36 args s Q :=
  ac_of_wpS [4, 5, 6] Tryz.func36 rfl (by kernel_rfl) (by kernel_rfl) (by kernel_rfl) hn h

/-- (*tapestry/eval.machine).whole -/
def sc37 : SC :=
  (.seq (.reg [.boxl 4 2 (.t 1),
    .boxl 5 10 (.t 2),
    .boxl 6 8 (.k (.agg [(.int .u8 0), (.int .i64 0), (.str []), (.sl [] [] true none), (.sl [] [] true none), (.int .u8 0), (.str []), (.bool false)])),
    .pf 7 (.mv (.k (.bool false)))])
  (.seq (.reg [.pf 8 (.fa (.t 5) 1),
    .pf 9 (.ld true (.t 8) 1 false),
    .pf 10 (.build [(.int .u8 0), (.int .i64 0), (.str []), (.sl [] [] true none), (.sl [] [] true none), (.int .u8 0), (.str []), (.bool false)] [(0, 1, (.k (.int .u8 1))), (1, 1, (.t 9))]),
    .st true (.t 6) (.t 10) 8,
    .pf 7 (.mv (.k (.bool true)))])
  .ret))
theorem ac37 {args : List V} {s : H} {Q : V → H → Prop} (hn : args.length ≤ 11) (h : wpS Tryz.prog sc37 (bodyQ [.c 6 8 true, .t 7] Q) (initT args) (fun _ => (0, [])) s) : AC Tryz.prog 37 args s Q :=
  ac_of_wpS [4, 5, 6, 8] Tryz.func37 rfl (by kernel_rfl) (by kernel_rfl) (by kernel_rfl) hn h

/-- (*tapestry/eval.machine).truth -/
def sc38 : SC :=
  (.seq (.reg [.boxl 4 2 (.t 1),
    .boxl 5 10 (.t 2),
    .boxl 6 8 (.k (.agg [(.int .u8 0), (.int .i64 0), (.str []), (.sl [] [] true none), (.sl [] [] true none), (.int .u8 0), (.str []), (.bool false)])),
    .pf 7 (.mv (.k (.bool false)))])
  (.seq (.reg [.pf 9 (.build [(.int .u8 0), (.int .i64 0), (.str []), (.sl [] [] true none), (.sl [] [] true none), (.int .u8 0), (.str []), (.bool false)] [(0, 1, (.k (.int .u8 2)))]),
    .boxl 8 8 (.k (.agg [(.int .u8 0), (.int .i64 0), (.str []), (.sl [] [] true none), (.sl [] [] true none), (.int .u8 0), (.str []), (.bool false)])),
    .st true (.t 8) (.t 9) 8])
  (.seq (.seq (.reg [.pf 10 (.fa (.t 5) 1),
    .pf 11 (.ld true (.t 10) 1 false),
    .pf 12 (.bin .neq (.t 11) (.k (.int .i64 0)))])
  (.cond (.t 12)
    (.reg [.pf 13 (.fa (.t 8) 1),
      .st true (.t 13) (.k (.int .i64 1)) 1])
    .skip))
  (.seq (.reg [.pf 14 (.ld true (.t 8) 8 true),
    .st true (.t 6) (.t 14) 8,
    .pf 7 (.mv (.k (.bool true)))])
  .ret))))
theorem ac38 {args : List V} {s : H} {Q : V → H → Prop} (hn : args.length ≤ 15) (h : wpS Tryz.prog sc38 (bodyQ [.c 6 8 true, .t 7] Q) (initT args) (fun _ => (0, [])) s) : AC Tryz.prog 38 args s Q :=
  ac_of_wpS [4, 5, 6, 8, 10, 13] Tryz.func38 rfl (by kernel_rfl) (by kernel_rfl) (by kernel_rfl) hn h

/-- tapestry/eval.rows$1 -/
def sc39 : SC :=
  (.seq (.reg [.boxl 1 10 (.t 0),
    .pf 2 (.mv (.k (.bool false)))])
  (.seq (.reg [.pf 3 (.fa (.t 1) 2),
    .pf 4 (.ld true (.t 3) 1 false),
    .pf 5 (.len true (.t 4)),
    .pf 6 (.bin .leq (.t 5) (.k (.int .i64 4096))),
    .pf 2 (.mv (.t 6))])
  .ret))
theorem ac39 {args : List V} {s : H} {Q : V → H → Prop} (hn : args.length ≤ 7) (h : wpS Tryz.prog sc39 (bodyQ [.t 2] Q) (initT args) (fun _ => (0, [])) s) : AC Tryz.prog 39 args s Q :=
  ac_of_wpS [1, 3] Tryz.func39 rfl (by kernel_rfl) (by kernel_rfl) (by kernel_rfl) hn h

/-- (*tapestry/eval.machine).text -/
def sc40 : SC :=
  (.seq (.reg [.boxl 4 2 (.t 1),
    .boxl 5 10 (.t 2),
    .boxl 6 8 (.k (.agg [(.int .u8 0), (.int .i64 0), (.str []), (.sl [] [] true none), (.sl [] [] true none), (.int .u8 0), (.str []), (.bool false)])),
    .pf 7 (.mv (.k (.bool false)))])
  (.seq (.reg [.pf 8 (.fa (.t 5) 2),
    .pf 9 (.ld true (.t 8) 1 false),
    .call (some 10) 34 [(.t 9)],
    .st true (.t 6) (.t 10) 8,
    .pf 7 (.mv (.k (.bool true)))])
  .ret))
theorem ac40 {args : List V} {s : H} {Q : V → H → Prop} (hn : args.length ≤ 11) (h : wpS Tryz.prog sc40 (bodyQ [.c 6 8 true, .t 7] Q) (initT args) (fun _ => (0, [])) s) : AC Tryz.prog 40 args s Q :=
  ac_of_wpS [4, 5, 6, 8] Tryz.func40 rfl (by kernel_rfl) (by kernel_rfl) (by kernel_rfl) hn h

/-- tapestry/eval.rows$2 -/
def sc41 : SC :=
  (.seq (.reg [.boxl 1 10 (.t 0),
    .pf 2 (.mv (.k (.bool false)))])
  (.seq (.reg [.pf 3 (.fa (.t 1) 2),
    .pf 4 (.ld true (.t 3) 1 false),
    .call (some 5) 42 [(.t 4)],
    .pf 2 (.mv (.t 5))])
  .ret))
theorem ac41 {args : List V} {s : H} {Q : V → H → Prop} (hn : args.length ≤ 6) (h : wpS Tryz.prog sc41 (bodyQ [.t 2] Q) (initT args) (fun _ => (0, [])) s) : AC Tryz.prog 41 args s Q :=
  ac_of_wpS [1, 3] Tryz.func41 rfl (by kernel_rfl) (by kernel_rfl) (by kernel_rfl) hn h

/-- tapestry/eval.name -/
def sc42 : SC :=
  (.seq (.reg [.pf 2 (.mv (.k (.bool false)))])
  (.seq (.reg [.pf 3 (.mv (.t 0)),
    .pf 4 (.bin .neq (.t 3) (.k (.str []))),
    .pf 5 (.mv (.t 4)),
    .gd 5 true [.pf 6 (.mv (.t 0))],
    .gd 5 true [.pf 7 (.len true (.t 6))],
    .gd 5 true [.pf 8 (.bin .leq (.t 7) (.k (.int .i64 4096)))],
    .pf 9 (.pick (.t 5) (.t 8) (.k (.bool false))),
    .pf 2 (.mv (.t 9))])
  .ret))
theorem ac42 {args : List V} {s : H} {Q : V → H → Prop} (hn : args.length ≤ 10) (h : wpS Tryz.prog sc42 (bodyQ [.t 2] Q) (initT args) (fun _ => (0, [])) s) : AC Tryz.prog 42 args s Q :=
  ac_of_wpS [] Tryz.func42 rfl (by kernel_rfl) (by kernel_rfl) (by kernel_rfl) hn h

/-- (*tapestry/eval.machine).name -/
def sc43 : SC :=
  (.seq (.reg [.boxl 4 2 (.t 1),
    .boxl 5 10 (.t 2),
    .boxl 6 8 (.k (.agg [(.int .u8 0), (.int .i64 0), (.str []), (.sl [] [] true none), (.sl [] [] true none), (.int .u8 0), (.str []), (.bool false)])),
    .pf 7 (.mv (.k (.bool false)))])
  (.seq (.reg [.pf 8 (.mv (.t 0)),
    .pf 9 (.fa (.t 4) 0),
    .pf 10 (.ld true (.t 9) 1 false),
    .pf 11 (.fa (.t 5) 2),
    .pf 12 (.ld true (.t 11) 1 false),
    .call (some 13) 64 [(.t 10), (.t 12)],
    .call (some 14) 63 [(.t 8), (.t 13)],
    .pf 15 (.ext (.t 14) 0),
    .pf 16 (.ext (.t 14) 1),
    .st true (.t 6) (.t 15) 8,
    .pf 7 (.mv (.t 16))])
  .ret))
theorem ac43 {args : List V} {s : H} {Q : V → H → Prop} (hn : args.length ≤ 17) (h : wpS Tryz.prog sc43 (bodyQ [.c 6 8 true, .t 7] Q) (initT args) (fun _ => (0, [])) s) : AC Tryz.prog 43 args s Q :=
  ac_of_wpS [4, 5, 6, 9, 11] Tryz.func43 rfl (by kernel_rfl) (by kernel_rfl) (by kernel_rfl) hn h

/-- tapestry/eval.rows$3 -/
def sc44 : SC :=
  (.seq (.reg [.boxl 1 10 (.t 0),
    .pf 2 (.mv (.k (.bool false)))])
  (.seq (.reg [.pf 3 (.fa (.t 1) 2),
    .pf 4 (.ld true (.t 3) 1 false),
    .call (some 5) 42 [(.t 4)],
    .pf 6 (.mv (.t 5)),
    .gd 6 true [.pf 7 (.fa (.t 1) 3)],
    .gd 6 true [.pf 8 (.ld true (.t 7) 1 false)],
    .gd 6 true [.pf 9 (.len false (.t 8))],
    .gd 6 true [.pf 10 (.bin .gtr (.t 9) (.k (.int .i64 0)))],
    .gd 6 true [.pf 11 (.mv (.t 10))],
    .gd 11 false [.pf 12 (.fa (.t 1) 2)],
    .gd 11 false [.pf 13 (.ld true (.t 12) 1 false)],
    .gd 11 false [.pf 14 (.bin .neq (.t 13) (.k (.str [97, 110, 100])))],
    .gd 11 false [.pf 15 (.mv (.t 14))],
    .gd 15 true [.pf 16 (.fa (.t 1) 2)],
    .gd 15 true [.pf 17 (.ld true (.t 16) 1 false)],
    .gd 15 true [.pf 18 (.bin .neq (.t 17) (.k (.str [111, 114])))],
    .gd 11 false [.pf 19 (.pick (.t 15) (.t 18) (.k (.bool false)))],
    .gd 6 true [.pf 20 (.pick (.t 11) (.k (.bool true)) (.t 19))],
    .pf 21 (.pick (.t 6) (.t 20) (.k (.bool false))),
    .pf 2 (.mv (.t 21))])
  .ret))
theorem ac44 {args : List V} {s : H} {Q : V → H → Prop} (hn : args.length ≤ 22) (h : wpS Tryz.prog sc44 (bodyQ [.t 2] Q) (initT args) (fun _ => (0, [])) s) : AC Tryz.prog 44 args s Q :=
  ac_of_wpS [1, 3, 7, 12, 16] Tryz.func44 rfl (by kernel_rfl) (by kernel_rfl) (by kernel_rfl) hn h

/-- (*tapestry/eval.machine).op -/
def sc45 : SC :=
  (.seq (.reg [.boxl 4 2 (.t 1),
    .boxl 5 10 (.t 2),
    .boxl 6 8 (.k (.agg [(.int .u8 0), (.int .i64 0), (.str []), (.sl [] [] true none), (.sl [] [] true none), (.int .u8 0), (.str []), (.bool false)])),
    .pf 7 (.mv (.k (.bool false)))])
  (.seq (.seq (.reg [.pf 15 (.fa (.t 5) 2),
    .pf 16 (.ld true (.t 15) 1 false),
    .pf 17 (.bin .eql (.t 16) (.k (.str [97, 110, 100]))),
    .pf 18 (.mv (.t 17)),
    .gd 18 false [.pf 19 (.fa (.t 5) 2)],
    .gd 18 false [.pf 20 (.ld true (.t 19) 1 false)],
    .gd 18 false [.pf 21 (.bin .eql (.t 20) (.k (.str [111, 114])))],
    .pf 22 (.pick (.t 18) (.k (.bool true)) (.t 21))])
  (.cond (.t 22)
    (.seq (.reg [.boxl 8 8 (.k (.agg [(.int .u8 0), (.int .i64 0), (.str []), (.sl [] [] true none), (.sl [] [] true none), (.int .u8 0), (.str []), (.bool false)]))])
    (.seq (.seq (.reg [.pf 23 (.fa (.t 5) 3),
      .pf 24 (.ld true (.t 23) 1 false),
      .pf 25 (.len false (.t 24)),
      .pf 26 (.mv (.k (.int .i64 0)))])
    (.block 0
      (.loop
        (.seq (.reg [.pf 27 (.bin .lss (.t 26) (.t 25))])
        (.seq (.cond (.t 27)
          .skip
          (.exit 0))
        (.seq (.block 1
          (.seq (.reg [.pf 28 (.ia (.t 24) (.t 26) 10),
            .pf 29 (.ld false (.t 28) 10 true),
            .boxl 10 10 (.k (.agg [(.int .u8 0), (.int .i64 0), (.str []), (.sl [] [] true none), (.sl [] [] true none), (.sl [] [] true none), (.int .u8 0), (.sl [] [] true none), (.sl [] [] true none), (.str [])])),
            .st true (.t 10) (.t 29) 10])
          (.seq (.reg [.pf 11 (.mv (.k (.bool false)))])
          (.seq (.seq (.reg [.pf 31 (.mv (.t 0)),
            .pf 32 (.ld true (.t 4) 2 true),
            .pf 33 (.ld true (.t 10) 10 true),
            .call (some 34) 19 [(.t 31), (.t 32), (.t 33)],
            .pf 30 (.mv (.t 34)),
            .pf 35 (.ext (.t 30) 0),
            .pf 36 (.ext (.t 30) 1),
            .st true (.t 8) (.t 35) 8,
            .pf 11 (.mv (.t 36))])
          (.seq (.reg [.pf 37 (.mv (.t 11)),
            .pf 38 (.not (.t 37))])
          (.cond (.t 38)
            (.seq (.reg [.pf 39 (.ld true (.t 8) 8 true),
              .st true (.t 6) (.t 39) 8,
              .pf 7 (.mv (.k (.bool false)))])
            .ret)
            .skip)))
          (.seq (.seq (.reg [.pf 40 (.fa (.t 8) 0),
            .pf 41 (.ld true (.t 40) 1 false),
            .pf 42 (.bin .neq (.t 41) (.k (.int .u8 2)))])
          (.cond (.t 42)
            (.seq (.reg [.pf 43 (.mv (.t 0)),
              .call (some 44) 26 [(.t 43), (.k (.str [107, 105, 110, 100]))],
              .pf 45 (.ext (.t 44) 0),
              .pf 46 (.ext (.t 44) 1),
              .st true (.t 6) (.t 45) 8,
              .pf 7 (.mv (.t 46))])
            .ret)
            .skip))
          (.seq (.reg [.pf 47 (.fa (.t 8) 1),
            .pf 48 (.ld true (.t 47) 1 false),
            .pf 49 (.bin .eql (.t 48) (.k (.int .i64 1))),
            .pf 50 (.fa (.t 5) 2),
            .pf 51 (.ld true (.t 50) 1 false),
            .pf 52 (.bin .eql (.t 51) (.k (.str [111, 114]))),
            .pf 53 (.eqb false (.t 49) (.t 52))])
          (.cond (.t 53)
            (.exit 0)
            .skip)))))))
        (.reg [.pf 54 (.bin .add (.t 26) (.k (.int .i64 1))),
          .pf 26 (.mv (.t 54))])))))))
    (.seq (.reg [.pf 55 (.ld true (.t 8) 8 true),
      .st true (.t 6) (.t 55) 8,
      .pf 7 (.mv (.k (.bool true)))])
    .ret)))
    .skip))
  (.seq (.reg [.pf 57 (.mv (.t 0)),
    .pf 58 (.ld true (.t 4) 2 true),
    .pf 59 (.fa (.t 5) 3),
    .pf 60 (.ld true (.t 59) 1 false),
    .call (some 61) 65 [(.t 57), (.t 58), (.t 60)],
    .pf 56 (.mv (.t 61)),
    .pf 62 (.ext (.t 56) 0),
    .pf 63 (.ext (.t 56) 1),
    .pf 12 (.mv (.t 62)),
    .pf 13 (.mv (.t 63))])
  (.seq (.seq (.reg [.pf 64 (.mv (.t 13)),
    .pf 65 (.not (.t 64))])
  (.cond (.t 65)
    (.seq (.reg [.pf 66 (.build [(.int .u8 0), (.int .i64 0), (.str []), (.sl [] [] true none), (.sl [] [] true none), (.int .u8 0), (.str []), (.bool false)] []),
      .st true (.t 6) (.t 66) 8,
      .pf 7 (.mv (.k (.bool false)))])
    .ret)
    .skip))
  (.seq (.reg [.pf 68 (.fa (.t 5) 2),
    .pf 69 (.ld true (.t 68) 1 false),
    .pf 70 (.mv (.t 12)),
    .call (some 71) 66 [(.t 69), (.t 70)],
    .pf 67 (.mv (.t 71)),
    .pf 72 (.ext (.t 67) 0),
    .pf 73 (.ext (.t 67) 1),
    .boxl 14 8 (.k (.agg [(.int .u8 0), (.int .i64 0), (.str []), (.sl [] [] true none), (.sl [] [] true none), (.int .u8 0), (.str []), (.bool false)])),
    .st true (.t 14) (.t 72) 8,
    .pf 13 (.mv (.t 73))])
  (.seq (.seq (.reg [.pf 74 (.mv (.t 13)),
    .pf 75 (.not (.t 74))])
  (.cond (.t 75)
    (.seq (.reg [.pf 76 (.mv (.t 0)),
      .call (some 77) 26 [(.t 76), (.k (.str [107, 105, 110, 100]))],
      .pf 78 (.ext (.t 77) 0),
      .pf 79 (.ext (.t 77) 1),
      .st true (.t 6) (.t 78) 8,
      .pf 7 (.mv (.t 79))])
    .ret)
    .skip))
  (.seq (.reg [.pf 80 (.mv (.t 0)),
    .pf 81 (.ld true (.t 14) 8 true),
    .call (some 82) 63 [(.t 80), (.t 81)],
    .pf 83 (.ext (.t 82) 0),
    .pf 84 (.ext (.t 82) 1),
    .st true (.t 6) (.t 83) 8,
    .pf 7 (.mv (.t 84))])
  .ret)))))))
theorem ac45 {args : List V} {s : H} {Q : V → H → Prop} (hn : args.length ≤ 85) (h : wpS Tryz.prog sc45 (bodyQ [.c 6 8 true, .t 7] Q) (initT args) (fun _ => (0, [])) s) : AC Tryz.prog 45 args s Q :=
  ac_of_wpS [4, 5, 6, 8, 10, 14, 15, 19, 23, 40, 47, 50, 59, 68] Tryz.func45 rfl (by kernel_rfl) (by kernel_rfl) (by kernel_rfl) hn h

/-- tapestry/eval.args -/
def sc46 : SC :=
  (.seq (.reg [.boxh 1 1 (.t 0),
    .pf 2 (.mv (.k .nilfn))])
  (.seq (.reg [.pf 3 (.mkfn 67 [] [(.t 1)]),
    .pf 2 (.mv (.t 3))])
  .ret))
theorem ac46 {args : List V} {s : H} {Q : V → H → Prop} (hn : args.length ≤ 4) (h : wpS Tryz.prog sc46 (bodyQ [.t 2] Q) (initT args) (fun _ => (0, [])) s) : AC Tryz.prog 46 args s Q :=
  ac_of_wpS [] Tryz.func46 rfl (by kernel_rfl) (by kernel_rfl) (by kernel_rfl) hn h

-- 47 (*tapestry/eval.machine).choose: not covered
/-- tapestry/eval.rows$4 -/
def sc48 : SC :=
  (.seq (.reg [.boxl 1 10 (.t 0),
    .pf 2 (.mv (.k (.bool false)))])
  (.seq (.reg [.pf 3 (.fa (.t 1) 2),
    .pf 4 (.ld true (.t 3) 1 false),
    .call (some 5) 42 [(.t 4)],
    .pf 6 (.mv (.t 5)),
    .gd 6 true [.pf 7 (.fa (.t 1) 3)],
    .gd 6 true [.pf 8 (.ld true (.t 7) 1 false)],
    .gd 6 true [.pf 9 (.len false (.t 8))],
    .gd 6 true [.pf 10 (.bin .eql (.t 9) (.k (.int .i64 2)))],
    .pf 11 (.pick (.t 6) (.t 10) (.k (.bool false))),
    .pf 2 (.mv (.t 11))])
  .ret))
theorem ac48 {args : List V} {s : H} {Q : V → H → Prop} (hn : args.length ≤ 12) (h : wpS Tryz.prog sc48 (bodyQ [.t 2] Q) (initT args) (fun _ => (0, [])) s) : AC Tryz.prog 48 args s Q :=
  ac_of_wpS [1, 3, 7] Tryz.func48 rfl (by kernel_rfl) (by kernel_rfl) (by kernel_rfl) hn h

-- 49 (*tapestry/eval.machine).each: not covered
-- 50 (*tapestry/eval.machine).read: not covered
-- 51 (*tapestry/eval.machine).toss: not covered
/-- tapestry/eval.rows$5 -/
def sc52 : SC :=
  (.seq (.reg [.boxl 1 10 (.t 0),
    .pf 2 (.mv (.k (.bool false)))])
  (.seq (.reg [.pf 3 (.fa (.t 1) 4),
    .pf 4 (.ld true (.t 3) 1 false),
    .pf 5 (.len false (.t 4)),
    .pf 6 (.fa (.t 1) 5),
    .pf 7 (.ld true (.t 6) 1 false),
    .pf 8 (.len false (.t 7)),
    .pf 9 (.bin .eql (.t 5) (.t 8)),
    .pf 10 (.mv (.t 9)),
    .gd 10 true [.pf 11 (.fa (.t 1) 4)],
    .gd 10 true [.pf 12 (.ld true (.t 11) 1 false)],
    .gd 10 true [.call (some 13) 53 [(.t 12)]],
    .pf 14 (.pick (.t 10) (.t 13) (.k (.bool false))),
    .pf 2 (.mv (.t 14))])
  .ret))
theorem ac52 {args : List V} {s : H} {Q : V → H → Prop} (hn : args.length ≤ 15) (h : wpS Tryz.prog sc52 (bodyQ [.t 2] Q) (initT args) (fun _ => (0, [])) s) : AC Tryz.prog 52 args s Q :=
  ac_of_wpS [1, 3, 6, 11] Tryz.func52 rfl (by kernel_rfl) (by kernel_rfl) (by kernel_rfl) hn h

/-- tapestry/eval.unlike -/
def sc53 : SC :=
  (.seq (.reg [.pf 2 (.mv (.k (.bool false)))])
  (.seq (.seq (.reg [.pf 5 (.mv (.t 0)),
    .pf 6 (.len false (.t 5)),
    .pf 7 (.mv (.k (.int .i64 0)))])
  (.block 0
    (.loop
      (.seq (.reg [.pf 8 (.bin .lss (.t 7) (.t 6))])
      (.seq (.cond (.t 8)
        .skip
        (.exit 0))
      (.seq (.block 1
        (.seq (.reg [.pf 9 (.mv (.t 7)),
          .pf 10 (.ia (.t 5) (.t 7) 1),
          .pf 11 (.ld false (.t 10) 1 false),
          .pf 3 (.mv (.t 9)),
          .pf 4 (.mv (.t 11))])
        (.seq (.reg [.pf 12 (.mv (.t 4)),
          .call (some 13) 42 [(.t 12)],
          .pf 14 (.not (.t 13)),
          .pf 15 (.mv (.t 14)),
          .gd 15 false [.pf 16 (.mv (.t 0))],
          .gd 15 false [.pf 17 (.mv (.t 3))],
          .gd 15 false [.pf 18 (.slc false (.t 16) none (some (.t 17)) none 1)],
          .gd 15 false [.pf 19 (.mv (.t 4))],
          .gd 15 false [.call (some 20) 73 [(.t 18), (.t 19)]],
          .pf 21 (.pick (.t 15) (.k (.bool true)) (.t 20))])
        (.cond (.t 21)
          (.seq (.reg [.pf 2 (.mv (.k (.bool false)))])
          .ret)
          .skip))))
      (.reg [.pf 22 (.bin .add (.t 7) (.k (.int .i64 1))),
        .pf 7 (.mv (.t 22))])))))))
  (.seq (.reg [.pf 2 (.mv (.k (.bool true)))])
  .ret)))
theorem ac53 {args : List V} {s : H} {Q : V → H → Prop} (hn : args.length ≤ 23) (h : wpS Tryz.prog sc53 (bodyQ [.t 2] Q) (initT args) (fun _ => (0, [])) s) : AC Tryz.prog 53 args s Q :=
  ac_of_wpS [] Tryz.func53 rfl (by kernel_rfl) (by kernel_rfl) (by kernel_rfl) hn h

/-- (*tapestry/eval.machine).record -/
def sc54 : SC :=
  (.seq (.reg [.boxl 4 2 (.t 1),
    .boxl 5 10 (.t 2),
    .boxl 6 8 (.k (.agg [(.int .u8 0), (.int .i64 0), (.str []), (.sl [] [] true none), (.sl [] [] true none), (.int .u8 0), (.str []), (.bool false)])),
    .pf 7 (.mv (.k (.bool false)))])
  (.seq (.reg [.pf 11 (.mv (.t 0)),
    .pf 12 (.ld true (.t 4) 2 true),
    .pf 13 (.fa (.t 5) 5),
    .pf 14 (.ld true (.t 13) 1 false),
    .call (some 15) 65 [(.t 11), (.t 12), (.t 14)],
    .pf 10 (.mv (.t 15)),
    .pf 16 (.ext (.t 10) 0),
    .pf 17 (.ext (.t 10) 1),
    .pf 8 (.mv (.t 16)),
    .pf 9 (.mv (.t 17))])
  (.seq (.seq (.reg [.pf 18 (.mv (.t 9)),
    .pf 19 (.not (.t 18))])
  (.cond (.t 19)
    (.seq (.reg [.pf 20 (.build [(.int .u8 0), (.int .i64 0), (.str []), (.sl [] [] true none), (.sl [] [] true none), (.int .u8 0), (.str []), (.bool false)] []),
      .st true (.t 6) (.t 20) 8,
      .pf 7 (.mv (.k (.bool false)))])
    .ret)
    .skip))
  (.seq (.reg [.pf 21 (.mv (.t 0)),
    .pf 22 (.fa (.t 5) 4),
    .pf 23 (.ld true (.t 22) 1 false),
    .pf 24 (.mv (.t 8)),
    .call (some 25) 74 [(.t 23), (.t 24)],
    .pf 26 (.build [(.int .u8 0), (.int .i64 0), (.str []), (.sl [] [] true none), (.sl [] [] true none), (.int .u8 0), (.str []), (.bool false)] [(0, 1, (.k (.int .u8 5))), (4, 1, (.t 25))]),
    .call (some 27) 63 [(.t 21), (.t 26)],
    .pf 28 (.ext (.t 27) 0),
    .pf 29 (.ext (.t 27) 1),
    .st true (.t 6) (.t 28) 8,
    .pf 7 (.mv (.t 29))])
  .ret))))
theorem ac54 {args : List V} {s : H} {Q : V → H → Prop} (hn : args.length ≤ 30) (h : wpS Tryz.prog sc54 (bodyQ [.c 6 8 true, .t 7] Q) (initT args) (fun _ => (0, [])) s) : AC Tryz.prog 54 args s Q :=
  ac_of_wpS [4, 5, 6, 13, 22] Tryz.func54 rfl (by kernel_rfl) (by kernel_rfl) (by kernel_rfl) hn h

/-- tapestry/eval.element -/
def sc55 : SC :=
  (.seq (.reg [.boxl 1 10 (.t 0),
    .pf 2 (.mv (.k (.bool false)))])
  (.seq (.seq (.reg [.pf 4 (.fa (.t 1) 7),
    .pf 5 (.ld true (.t 4) 1 false),
    .pf 6 (.len false (.t 5)),
    .pf 7 (.bin .gtr (.t 6) (.k (.int .i64 1))),
    .pf 8 (.mv (.t 7)),
    .gd 8 false [.pf 9 (.fa (.t 1) 4)],
    .gd 8 false [.pf 10 (.ld true (.t 9) 1 false)],
    .gd 8 false [.pf 11 (.len false (.t 10))],
    .gd 8 false [.pf 12 (.fa (.t 1) 5)],
    .gd 8 false [.pf 13 (.ld true (.t 12) 1 false)],
    .gd 8 false [.pf 14 (.len false (.t 13))],
    .gd 8 false [.pf 15 (.bin .neq (.t 11) (.t 14))],
    .pf 16 (.pick (.t 8) (.k (.bool true)) (.t 15)),
    .pf 17 (.mv (.t 16)),
    .gd 17 false [.pf 18 (.fa (.t 1) 4)],
    .gd 17 false [.pf 19 (.ld true (.t 18) 1 false)],
    .gd 17 false [.call (some 20) 53 [(.t 19)]],
    .gd 17 false [.pf 21 (.not (.t 20))],
    .pf 22 (.pick (.t 17) (.k (.bool true)) (.t 21))])
  (.cond (.t 22)
    (.seq (.reg [.pf 2 (.mv (.k (.bool false)))])
    .ret)
    .skip))
  (.seq (.reg [.pf 23 (.fa (.t 1) 4),
    .pf 24 (.ld true (.t 23) 1 false),
    .call (some 25) 75 [(.t 24), (.k (.str [32]))],
    .pf 3 (.mv (.t 25))])
  (.seq (.seq (.reg [.pf 26 (.fa (.t 1) 6),
    .pf 27 (.ld true (.t 26) 1 false)])
  (.block 0
    (.seq (.seq (.reg [.pf 29 (.bin .eql (.t 27) (.k (.int .u8 1))),
      .pf 28 (.mv (.t 29))])
    (.cond (.t 28)
      .skip
      (.seq (.reg [.pf 30 (.bin .eql (.t 27) (.k (.int .u8 2))),
        .pf 28 (.mv (.t 30))])
      (.cond (.t 28)
        .skip
        (.reg [.pf 31 (.bin .eql (.t 27) (.k (.int .u8 3))),
          .pf 28 (.mv (.t 31))])))))
    (.cond (.t 28)
      (.seq (.reg [.pf 32 (.fa (.t 1) 2),
        .pf 33 (.ld true (.t 32) 1 false),
        .call (some 34) 42 [(.t 33)],
        .pf 2 (.mv (.t 34))])
      .ret)
      (.seq (.reg [.pf 36 (.bin .eql (.t 27) (.k (.int .u8 4))),
        .pf 35 (.mv (.t 36))])
      (.cond (.t 35)
        (.seq (.reg [.pf 37 (.fa (.t 1) 2),
          .pf 38 (.ld true (.t 37) 1 false),
          .pf 39 (.bin .eql (.t 38) (.k (.str []))),
          .pf 40 (.mv (.t 39)),
          .gd 40 true [.pf 41 (.fa (.t 1) 4)],
          .gd 40 true [.pf 42 (.ld true (.t 41) 1 false)],
          .gd 40 true [.pf 43 (.len false (.t 42))],
          .gd 40 true [.pf 44 (.bin .eql (.t 43) (.k (.int .i64 0)))],
          .pf 45 (.pick (.t 40) (.t 44) (.k (.bool false))),
          .pf 2 (.mv (.t 45))])
        .ret)
        (.seq (.reg [.pf 47 (.bin .eql (.t 27) (.k (.int .u8 5))),
          .pf 46 (.mv (.t 47))])
        (.cond (.t 46)
          (.seq (.reg [.pf 48 (.fa (.t 1) 2),
            .pf 49 (.ld true (.t 48) 1 false),
            .call (some 50) 42 [(.t 49)],
            .pf 51 (.mv (.t 50)),
            .gd 51 true [.pf 52 (.fa (.t 1) 4)],
            .gd 51 true [.pf 53 (.ld true (.t 52) 1 false)],
            .gd 51 true [.pf 54 (.len false (.t 53))],
            .gd 51 true [.pf 55 (.bin .eql (.t 54) (.k (.int .i64 0)))],
            .pf 56 (.pick (.t 51) (.t 55) (.k (.bool false))),
            .pf 2 (.mv (.t 56))])
          .ret)
          (.seq (.reg [.pf 58 (.bin .eql (.t 27) (.k (.int .u8 6))),
            .pf 57 (.mv (.t 58))])
          (.cond (.t 57)
            (.seq (.reg [.pf 59 (.fa (.t 1) 2),
              .pf 60 (.ld true (.t 59) 1 false),
              .call (some 61) 42 [(.t 60)],
              .pf 62 (.mv (.t 61)),
              .gd 62 true [.pf 63 (.mv (.t 3))],
              .gd 62 true [.pf 64 (.bin .eql (.t 63) (.k (.str [118, 97, 108, 117, 101])))],
              .pf 65 (.pick (.t 62) (.t 64) (.k (.bool false))),
              .pf 2 (.mv (.t 65))])
            .ret)
            (.seq (.reg [.pf 67 (.bin .eql (.t 27) (.k (.int .u8 7))),
              .pf 66 (.mv (.t 67))])
            (.cond (.t 66)
              (.seq (.reg [.pf 68 (.fa (.t 1) 2),
                .pf 69 (.ld true (.t 68) 1 false),
                .pf 70 (.bin .eql (.t 69) (.k (.str []))),
                .pf 71 (.mv (.t 70)),
                .gd 71 true [.pf 72 (.fa (.t 1) 4)],
                .gd 71 true [.pf 73 (.ld true (.t 72) 1 false)],
                .gd 71 true [.pf 74 (.len false (.t 73))],
                .gd 71 true [.pf 75 (.bin .eql (.t 74) (.k (.int .i64 2)))],
                .pf 76 (.pick (.t 71) (.t 75) (.k (.bool false))),
                .pf 77 (.mv (.t 76)),
                .gd 77 true [.pf 78 (.mv (.t 3))],
                .gd 77 true [.pf 79 (.bin .eql (.t 78) (.k (.str [97, 103, 97, 105, 110, 32, 101, 108, 115, 101])))],
                .pf 80 (.pick (.t 77) (.t 79) (.k (.bool false))),
                .pf 2 (.mv (.t 80))])
              .ret)
              (.seq (.reg [.pf 82 (.bin .eql (.t 27) (.k (.int .u8 8))),
                .pf 81 (.mv (.t 82))])
              (.cond (.t 81)
                (.seq (.reg [.pf 83 (.fa (.t 1) 2),
                  .pf 84 (.ld true (.t 83) 1 false),
                  .pf 85 (.bin .eql (.t 84) (.k (.str []))),
                  .pf 86 (.mv (.t 85)),
                  .gd 86 true [.pf 87 (.mv (.t 3))],
                  .gd 86 true [.pf 88 (.bin .eql (.t 87) (.k (.str [101, 108, 115, 101])))],
                  .pf 89 (.pick (.t 86) (.t 88) (.k (.bool false))),
                  .pf 2 (.mv (.t 89))])
                .ret)
                .skip))))))))))))))
  (.seq (.reg [.pf 2 (.mv (.k (.bool false)))])
  .ret)))))
theorem ac55 {args : List V} {s : H} {Q : V → H → Prop} (hn : args.length ≤ 90) (h : wpS Tryz.prog sc55 (bodyQ [.t 2] Q) (initT args) (fun _ => (0, [])) s) : AC Tryz.prog 55 args s Q :=
  ac_of_wpS [1, 4, 9, 12, 18, 23, 26, 32, 37, 41, 48, 52, 59, 68, 72, 83] Tryz.func55 rfl (by kernel_rfl) (by kernel_rfl) (by kernel_rfl) hn h

-- 56 (*tapestry/eval.machine).element: not covered
/-- tapestry/eval.rows$6 -/
def sc57 : SC :=
  (.seq (.reg [.boxl 1 10 (.t 0),
    .pf 2 (.mv (.k (.bool false)))])
  (.seq (.reg [.pf 3 (.fa (.t 1) 9),
    .pf 4 (.ld true (.t 3) 1 false),
    .call (some 5) 42 [(.t 4)],
    .pf 2 (.mv (.t 5))])
  .ret))
theorem ac57 {args : List V} {s : H} {Q : V → H → Prop} (hn : args.length ≤ 6) (h : wpS Tryz.prog sc57 (bodyQ [.t 2] Q) (initT args) (fun _ => (0, [])) s) : AC Tryz.prog 57 args s Q :=
  ac_of_wpS [1, 3] Tryz.func57 rfl (by kernel_rfl) (by kernel_rfl) (by kernel_rfl) hn h

-- 58 (*tapestry/eval.machine).deed: not covered
/-- tapestry/tapestrylaw01.SameField -/
def sc59 : SC :=
  (.seq (.reg [.boxl 2 9 (.t 0),
    .boxl 3 9 (.t 1),
    .pf 4 (.mv (.k (.bool false)))])
  (.seq (.reg [.pf 5 (.fa (.t 2) 0),
    .pf 6 (.ld true (.t 5) 1 false),
    .pf 7 (.fa (.t 3) 0),
    .pf 8 (.ld true (.t 7) 1 false),
    .pf 9 (.bin .eql (.t 6) (.t 8)),
    .pf 10 (.mv (.t 9)),
    .gd 10 true [.pf 11 (.fa (.t 2) 1)],
    .gd 10 true [.pf 12 (.ld true (.t 11) 8 true)],
    .gd 10 true [.pf 13 (.fa (.t 3) 1)],
    .gd 10 true [.pf 14 (.ld true (.t 13) 8 true)],
    .gd 10 true [.call (some 15) 20 [(.t 12), (.t 14)]],
    .pf 16 (.pick (.t 10) (.t 15) (.k (.bool false))),
    .pf 4 (.mv (.t 16))])
  .ret))
theorem ac59 {args : List V} {s : H} {Q : V → H → Prop} (hn : args.length ≤ 17) (h : wpS Tryz.prog sc59 (bodyQ [.t 4] Q) (initT args) (fun _ => (0, [])) s) : AC Tryz.prog 59 args s Q :=
  ac_of_wpS [2, 3, 5, 7, 11, 13] Tryz.func59 rfl (by kernel_rfl) (by kernel_rfl) (by kernel_rfl) hn h

/-- tapestry/tapestrylaw01.ValuesSize -/
def sc60 : SC :=
  (.seq (.reg [.pf 2 (.mv (.k (.int .i64 0)))])
  (.seq (.reg [.pf 5 (.mv (.t 0)),
    .pf 6 (.len false (.t 5)),
    .pf 3 (.mv (.t 6))])
  (.seq (.seq (.reg [.pf 4 (.mv (.k (.int .i64 0)))])
  (.block 0
    (.loop
      (.seq (.seq (.reg [.pf 7 (.mv (.t 4)),
        .pf 8 (.mv (.t 0)),
        .pf 9 (.len false (.t 8)),
        .pf 10 (.bin .lss (.t 7) (.t 9)),
        .pf 11 (.mv (.t 10)),
        .gd 11 true [.pf 12 (.mv (.t 3))],
        .gd 11 true [.pf 13 (.bin .leq (.t 12) (.k (.int .i64 1048576)))],
        .pf 14 (.pick (.t 11) (.t 13) (.k (.bool false)))])
      (.cond (.t 14)
        .skip
        (.exit 0)))
      (.seq (.block 1
        (.reg [.pf 17 (.mv (.t 3)),
          .pf 18 (.mv (.t 0)),
          .pf 19 (.mv (.t 4)),
          .pf 20 (.ia (.t 18) (.t 19) 8),
          .pf 21 (.ld false (.t 20) 8 true),
          .call (some 22) 30 [(.t 21)],
          .pf 23 (.bin .add (.t 17) (.t 22)),
          .pf 3 (.mv (.t 23))]))
      (.reg [.pf 15 (.mv (.t 4)),
        .pf 16 (.bin .add (.t 15) (.k (.int .i64 1))),
        .pf 4 (.mv (.t 16))]))))))
  (.seq (.reg [.pf 24 (.mv (.t 3)),
    .pf 2 (.mv (.t 24))])
  .ret))))
theorem ac60 {args : List V} {s : H} {Q : V → H → Prop} (hn : args.length ≤ 25) (h : wpS Tryz.prog sc60 (bodyQ [.t 2] Q) (initT args) (fun _ => (0, [])) s) : AC Tryz.prog 60 args s Q :=
  ac_of_wpS [] Tryz.func60 rfl (by kernel_rfl) (by kernel_rfl) (by kernel_rfl) hn h

/-- tapestry/tapestrylaw01.TwinValues -/
def sc61 : SC :=
  (.seq (.reg [.pf 2 (.mv (.k (.sl [] [] true none)))])
  (.seq (.reg [.pf 5 (.mv (.t 0)),
    .pf 6 (.len false (.t 5)),
    .pf 7 (.bin .add (.t 6) (.k (.int .i64 1))),
    .mksl 8 8 (.t 7),
    .pf 3 (.mv (.t 8))])
  (.seq (.seq (.reg [.pf 4 (.mv (.k (.int .i64 0)))])
  (.block 0
    (.loop
      (.seq (.seq (.reg [.pf 9 (.mv (.t 4)),
        .pf 10 (.mv (.t 0)),
        .pf 11 (.len false (.t 10)),
        .pf 12 (.bin .lss (.t 9) (.t 11))])
      (.cond (.t 12)
        .skip
        (.exit 0)))
      (.seq (.block 1
        (.reg [.pf 15 (.mv (.t 3)),
          .pf 16 (.mv (.t 0)),
          .pf 17 (.mv (.t 4)),
          .pf 18 (.ia (.t 16) (.t 17) 8),
          .pf 19 (.ld false (.t 18) 8 true),
          .call (some 20) 32 [(.t 19)],
          .bsl 21 1 8 [(.int .u8 0), (.int .i64 0), (.str []), (.sl [] [] true none), (.sl [] [] true none), (.int .u8 0), (.str []), (.bool false)] [(0, (.t 20))],
          .app 22 8 (.t 15) (.t 21),
          .pf 3 (.mv (.t 22))]))
      (.reg [.pf 13 (.mv (.t 4)),
        .pf 14 (.bin .add (.t 13) (.k (.int .i64 1))),
        .pf 4 (.mv (.t 14))]))))))
  (.seq (.reg [.pf 23 (.mv (.t 3)),
    .pf 24 (.build [(.int .u8 0), (.int .i64 0), (.str []), (.sl [] [] true none), (.sl [] [] true none), (.int .u8 0), (.str []), (.bool false)] [(2, 1, (.k (.str [115, 112, 97, 114, 101])))]),
    .bsl 25 1 8 [(.int .u8 0), (.int .i64 0), (.str []), (.sl [] [] true none), (.sl [] [] true none), (.int .u8 0), (.str []), (.bool false)] [(0, (.t 24))],
    .app 26 8 (.t 23) (.t 25),
    .pf 27 (.mv (.t 0)),
    .pf 28 (.len false (.t 27)),
    .pf 29 (.slc false (.t 26) none (some (.t 28)) none 8),
    .pf 2 (.mv (.t 29))])
  .ret))))
theorem ac61 {args : List V} {s : H} {Q : V → H → Prop} (hn : args.length ≤ 30) (h : wpS Tryz.prog sc61 (bodyQ [.t 2] Q) (initT args) (fun _ => (0, [])) s) : AC Tryz.prog 61 args s Q :=
  ac_of_wpS [] Tryz.func61 rfl (by kernel_rfl) (by kernel_rfl) (by kernel_rfl) hn h

/-- tapestry/tapestrylaw01.TwinFields -/
def sc62 : SC :=
  (.seq (.reg [.pf 2 (.mv (.k (.sl [] [] true none)))])
  (.seq (.reg [.pf 5 (.mv (.t 0)),
    .pf 6 (.len false (.t 5)),
    .pf 7 (.bin .add (.t 6) (.k (.int .i64 1))),
    .mksl 8 9 (.t 7),
    .pf 3 (.mv (.t 8))])
  (.seq (.seq (.reg [.pf 4 (.mv (.k (.int .i64 0)))])
  (.block 0
    (.loop
      (.seq (.seq (.reg [.pf 9 (.mv (.t 4)),
        .pf 10 (.mv (.t 0)),
        .pf 11 (.len false (.t 10)),
        .pf 12 (.bin .lss (.t 9) (.t 11))])
      (.cond (.t 12)
        .skip
        (.exit 0)))
      (.seq (.block 1
        (.reg [.pf 15 (.mv (.t 3)),
          .pf 16 (.mv (.t 0)),
          .pf 17 (.mv (.t 4)),
          .pf 18 (.ia (.t 16) (.t 17) 9),
          .pf 19 (.ld false (.t 18) 9 true),
          .call (some 20) 78 [(.t 19)],
          .bsl 21 1 9 [(.str []), (.int .u8 0), (.int .i64 0), (.str []), (.sl [] [] true none), (.sl [] [] true none), (.int .u8 0), (.str []), (.bool false)] [(0, (.t 20))],
          .app 22 9 (.t 15) (.t 21),
          .pf 3 (.mv (.t 22))]))
      (.reg [.pf 13 (.mv (.t 4)),
        .pf 14 (.bin .add (.t 13) (.k (.int .i64 1))),
        .pf 4 (.mv (.t 14))]))))))
  (.seq (.reg [.pf 23 (.mv (.t 3)),
    .pf 24 (.build [(.str []), (.int .u8 0), (.int .i64 0), (.str []), (.sl [] [] true none), (.sl [] [] true none), (.int .u8 0), (.str []), (.bool false)] [(0, 1, (.k (.str [115, 112, 97, 114, 101])))]),
    .bsl 25 1 9 [(.str []), (.int .u8 0), (.int .i64 0), (.str []), (.sl [] [] true none), (.sl [] [] true none), (.int .u8 0), (.str []), (.bool false)] [(0, (.t 24))],
    .app 26 9 (.t 23) (.t 25),
    .pf 27 (.mv (.t 0)),
    .pf 28 (.len false (.t 27)),
    .pf 29 (.slc false (.t 26) none (some (.t 28)) none 9),
    .pf 2 (.mv (.t 29))])
  .ret))))
theorem ac62 {args : List V} {s : H} {Q : V → H → Prop} (hn : args.length ≤ 30) (h : wpS Tryz.prog sc62 (bodyQ [.t 2] Q) (initT args) (fun _ => (0, [])) s) : AC Tryz.prog 62 args s Q :=
  ac_of_wpS [] Tryz.func62 rfl (by kernel_rfl) (by kernel_rfl) (by kernel_rfl) hn h

/-- (*tapestry/eval.machine).done -/
def sc63 : SC :=
  (.seq (.reg [.boxl 3 8 (.t 1),
    .boxl 4 8 (.k (.agg [(.int .u8 0), (.int .i64 0), (.str []), (.sl [] [] true none), (.sl [] [] true none), (.int .u8 0), (.str []), (.bool false)])),
    .pf 5 (.mv (.k (.bool false)))])
  (.seq (.seq (.reg [.pf 6 (.ld true (.t 3) 8 true),
    .call (some 7) 71 [(.t 6)],
    .pf 8 (.not (.t 7))])
  (.cond (.t 8)
    (.seq (.reg [.pf 9 (.mv (.t 0)),
      .call (some 10) 26 [(.t 9), (.k (.str [103, 114, 101, 97, 116]))],
      .pf 11 (.ext (.t 10) 0),
      .pf 12 (.ext (.t 10) 1),
      .st true (.t 4) (.t 11) 8,
      .pf 5 (.mv (.t 12))])
    .ret)
    .skip))
  (.seq (.reg [.pf 13 (.ld true (.t 3) 8 true),
    .st true (.t 4) (.t 13) 8,
    .pf 5 (.mv (.k (.bool true)))])
  .ret)))
theorem ac63 {args : List V} {s : H} {Q : V → H → Prop} (hn : args.length ≤ 14) (h : wpS Tryz.prog sc63 (bodyQ [.c 4 8 true, .t 5] Q) (initT args) (fun _ => (0, [])) s) : AC Tryz.prog 63 args s Q :=
  ac_of_wpS [3, 4] Tryz.func63 rfl (by kernel_rfl) (by kernel_rfl) (by kernel_rfl) hn h

/-- tapestry/context.Get: a round -/
def scA64 : SC :=
  (.reg [.boxl 5 8 (.k (.agg [(.int .u8 0), (.int .i64 0), (.str []), (.sl [] [] true none), (.sl [] [] true none), (.int .u8 0), (.str []), (.bool false)])),
    .st true (.t 5) (.t 9) 8])
def scB64 : SC :=
  (.block 1
    (.seq (.reg [.pf 10 (.ld true (.t 5) 8 true),
      .call (some 11) 72 [(.t 10)],
      .st false (.t 4) (.t 11) 8])
    .ret))
theorem cA64 : compC Tryz.prog 13 [5] (rfAs Tryz.f64) = some scA64 := by kernel_rfl
theorem cB64 : compC Tryz.prog 13 [5] (rfBd Tryz.f64) = some scB64 := by kernel_rfl

/-- tapestry/context.Get -/
noncomputable def sc64 : SC :=
  (.seq (.reg [.boxh 4 8 (.k (.agg [(.int .u8 0), (.int .i64 0), (.str []), (.sl [] [] true none), (.sl [] [] true none), (.int .u8 0), (.str []), (.bool false)]))])
  (.seq (.seq (.reg [.pf 6 (.mv (.t 0)),
    .pf 7 (.mv (.t 1)),
    .call (some 8) 79 [(.t 6), (.t 7)]])
  (.block 0
    (.range (.t 8) 13 #[9] (rfAs Tryz.f64) (rfBd Tryz.f64))))
  (.seq (.reg [.pf 12 (.build [(.int .u8 0), (.int .i64 0), (.str []), (.sl [] [] true none), (.sl [] [] true none), (.int .u8 0), (.str []), (.bool false)] []),
    .st false (.t 4) (.t 12) 8])
  .ret)))
theorem ac64 {args : List V} {s : H} {Q : V → H → Prop} (hn : args.length ≤ 13) (h : wpS Tryz.prog sc64 (bodyQ [.c 4 8 true] Q) (initT args) (fun _ => (0, [])) s) : AC Tryz.prog 64 args s Q :=
  ac_of_wpS [2000000] Tryz.func64 rfl (by kernel_rfl) (by kernel_rfl) (by kernel_rfl) hn h

/-- (*tapestry/eval.machine).list -/
def sc65 : SC :=
  (.seq (.reg [.boxl 4 2 (.t 1),
    .pf 6 (.mv (.k (.sl [] [] true none))),
    .pf 7 (.mv (.k (.bool false)))])
  (.seq (.seq (.reg [.pf 12 (.mv (.t 2)),
    .pf 13 (.len false (.t 12)),
    .pf 14 (.mv (.k (.int .i64 0)))])
  (.block 0
    (.loop
      (.seq (.reg [.pf 15 (.bin .lss (.t 14) (.t 13))])
      (.seq (.cond (.t 15)
        .skip
        (.exit 0))
      (.seq (.block 1
        (.seq (.reg [.pf 16 (.ia (.t 12) (.t 14) 10),
          .pf 17 (.ld false (.t 16) 10 true),
          .boxl 9 10 (.k (.agg [(.int .u8 0), (.int .i64 0), (.str []), (.sl [] [] true none), (.sl [] [] true none), (.sl [] [] true none), (.int .u8 0), (.sl [] [] true none), (.sl [] [] true none), (.str [])])),
          .st true (.t 9) (.t 17) 10])
        (.seq (.reg [.pf 19 (.mv (.t 0)),
          .pf 20 (.ld true (.t 4) 2 true),
          .pf 21 (.ld true (.t 9) 10 true),
          .call (some 22) 19 [(.t 19), (.t 20), (.t 21)],
          .pf 18 (.mv (.t 22)),
          .pf 23 (.ext (.t 18) 0),
          .pf 24 (.ext (.t 18) 1),
          .boxl 10 8 (.k (.agg [(.int .u8 0), (.int .i64 0), (.str []), (.sl [] [] true none), (.sl [] [] true none), (.int .u8 0), (.str []), (.bool false)])),
          .st true (.t 10) (.t 23) 8,
          .pf 11 (.mv (.t 24))])
        (.seq (.seq (.reg [.pf 25 (.mv (.t 11)),
          .pf 26 (.not (.t 25))])
        (.cond (.t 26)
          (.seq (.reg [.pf 6 (.mv (.k (.sl [] [] true none))),
            .pf 7 (.mv (.k (.bool false)))])
          .ret)
          .skip))
        (.reg [.pf 27 (.mv (.t 6)),
          .pf 28 (.ld true (.t 10) 8 true),
          .bsl 29 1 8 [(.int .u8 0), (.int .i64 0), (.str []), (.sl [] [] true none), (.sl [] [] true none), (.int .u8 0), (.str []), (.bool false)] [(0, (.t 28))],
          .app 30 8 (.t 27) (.t 29),
          .pf 6 (.mv (.t 30))])))))
      (.reg [.pf 31 (.bin .add (.t 14) (.k (.int .i64 1))),
        .pf 14 (.mv (.t 31))])))))))
  (.seq (.reg [.pf 32 (.mv (.t 6)),
    .pf 6 (.mv (.t 32)),
    .pf 7 (.mv (.k (.bool true)))])
  .ret)))
theorem ac65 {args : List V} {s : H} {Q : V → H → Prop} (hn : args.length ≤ 33) (h : wpS Tryz.prog sc65 (bodyQ [.t 6, .t 7] Q) (initT args) (fun _ => (0, [])) s) : AC Tryz.prog 65 args s Q :=
  ac_of_wpS [4, 9, 10] Tryz.func65 rfl (by kernel_rfl) (by kernel_rfl) (by kernel_rfl) hn h

/-- tapestry/oper.Do -/
def sc66 : SC :=
  (.seq (.reg [.boxl 4 8 (.k (.agg [(.int .u8 0), (.int .i64 0), (.str []), (.sl [] [] true none), (.sl [] [] true none), (.int .u8 0), (.str []), (.bool false)])),
    .pf 5 (.mv (.k (.bool false)))])
  (.seq (.reg [.pf 12 (.mv (.t 0)),
    .call (some 13) 80 [(.t 12)],
    .pf 11 (.mv (.t 13)),
    .pf 14 (.ext (.t 11) 0),
    .pf 15 (.ext (.t 11) 1),
    .boxl 6 4 (.k (.agg [(.str []), (.int .i64 0), (.int .i64 0), .nilfn])),
    .st true (.t 6) (.t 14) 4,
    .pf 7 (.mv (.t 15))])
  (.seq (.seq (.reg [.pf 16 (.mv (.t 7)),
    .pf 17 (.not (.t 16)),
    .pf 18 (.mv (.t 17)),
    .gd 18 false [.pf 19 (.mv (.t 1))],
    .gd 18 false [.pf 20 (.len false (.t 19))],
    .gd 18 false [.pf 21 (.fa (.t 6) 1)],
    .gd 18 false [.pf 22 (.ld true (.t 21) 1 false)],
    .gd 18 false [.pf 23 (.bin .lss (.t 20) (.t 22))],
    .pf 24 (.pick (.t 18) (.k (.bool true)) (.t 23)),
    .pf 25 (.mv (.t 24)),
    .gd 25 false [.pf 26 (.fa (.t 6) 2)],
    .gd 25 false [.pf 27 (.ld true (.t 26) 1 false)],
    .gd 25 false [.pf 28 (.bin .geq (.t 27) (.k (.int .i64 0)))],
    .gd 25 false [.pf 29 (.mv (.t 28))],
    .gd 29 true [.pf 30 (.mv (.t 1))],
    .gd 29 true [.pf 31 (.len false (.t 30))],
    .gd 29 true [.pf 32 (.fa (.t 6) 2)],
    .gd 29 true [.pf 33 (.ld true (.t 32) 1 false)],
    .gd 29 true [.pf 34 (.bin .gtr (.t 31) (.t 33))],
    .gd 25 false [.pf 35 (.pick (.t 29) (.t 34) (.k (.bool false)))],
    .pf 36 (.pick (.t 25) (.k (.bool true)) (.t 35))])
  (.cond (.t 36)
    (.seq (.reg [.pf 37 (.build [(.int .u8 0), (.int .i64 0), (.str []), (.sl [] [] true none), (.sl [] [] true none), (.int .u8 0), (.str []), (.bool false)] []),
      .st true (.t 4) (.t 37) 8,
      .pf 5 (.mv (.k (.bool false)))])
    .ret)
    .skip))
  (.seq (.seq (.reg [.pf 38 (.mv (.t 1)),
    .pf 39 (.len false (.t 38)),
    .pf 40 (.mv (.k (.int .i64 0)))])
  (.block 0
    (.loop
      (.seq (.reg [.pf 41 (.bin .lss (.t 40) (.t 39))])
      (.seq (.cond (.t 41)
        .skip
        (.exit 0))
      (.seq (.block 1
        (.seq (.reg [.pf 42 (.ia (.t 38) (.t 40) 8),
          .pf 43 (.ld false (.t 42) 8 true),
          .boxl 9 8 (.k (.agg [(.int .u8 0), (.int .i64 0), (.str []), (.sl [] [] true none), (.sl [] [] true none), (.int .u8 0), (.str []), (.bool false)])),
          .st true (.t 9) (.t 43) 8])
        (.seq (.reg [.pf 44 (.ld true (.t 9) 8 true),
          .call (some 45) 71 [(.t 44)],
          .pf 46 (.not (.t 45))])
        (.cond (.t 46)
          (.seq (.reg [.pf 47 (.build [(.int .u8 0), (.int .i64 0), (.str []), (.sl [] [] true none), (.sl [] [] true none), (.int .u8 0), (.str []), (.bool false)] []),
            .st true (.t 4) (.t 47) 8,
            .pf 5 (.mv (.k (.bool false)))])
          .ret)
          .skip))))
      (.reg [.pf 48 (.bin .add (.t 40) (.k (.int .i64 1))),
        .pf 40 (.mv (.t 48))])))))))
  (.seq (.reg [.pf 50 (.fa (.t 6) 3),
    .pf 51 (.ld true (.t 50) 1 false),
    .pf 52 (.mv (.t 1)),
    .callv (some 53) (.t 51) [(.t 52)],
    .pf 49 (.mv (.t 53)),
    .pf 54 (.ext (.t 49) 0),
    .pf 55 (.ext (.t 49) 1),
    .boxl 10 8 (.k (.agg [(.int .u8 0), (.int .i64 0), (.str []), (.sl [] [] true none), (.sl [] [] true none), (.int .u8 0), (.str []), (.bool false)])),
    .st true (.t 10) (.t 54) 8,
    .pf 7 (.mv (.t 55))])
  (.seq (.seq (.reg [.pf 56 (.mv (.t 7)),
    .pf 57 (.not (.t 56)),
    .pf 58 (.mv (.t 57)),
    .gd 58 false [.pf 59 (.ld true (.t 10) 8 true)],
    .gd 58 false [.call (some 60) 71 [(.t 59)]],
    .gd 58 false [.pf 61 (.not (.t 60))],
    .pf 62 (.pick (.t 58) (.k (.bool true)) (.t 61))])
  (.cond (.t 62)
    (.seq (.reg [.pf 63 (.build [(.int .u8 0), (.int .i64 0), (.str []), (.sl [] [] true none), (.sl [] [] true none), (.int .u8 0), (.str []), (.bool false)] []),
      .st true (.t 4) (.t 63) 8,
      .pf 5 (.mv (.k (.bool false)))])
    .ret)
    .skip))
  (.seq (.reg [.pf 64 (.ld true (.t 10) 8 true),
    .call (some 65) 81 [(.t 64)],
    .st true (.t 4) (.t 65) 8,
    .pf 5 (.mv (.k (.bool true)))])
  .ret)))))))
theorem ac66 {args : List V} {s : H} {Q : V → H → Prop} (hn : args.length ≤ 66) (h : wpS Tryz.prog sc66 (bodyQ [.c 4 8 true, .t 5] Q) (initT args) (fun _ => (0, [])) s) : AC Tryz.prog 66 args s Q :=
  ac_of_wpS [4, 6, 9, 10, 21, 26, 32, 50] Tryz.func66 rfl (by kernel_rfl) (by kernel_rfl) (by kernel_rfl) hn h

/-- tapestry/eval.args$1 -/
def sc67 : SC :=
  (.seq (.reg [.boxl 2 10 (.t 0),
    .pf 3 (.mv (.k (.bool false)))])
  (.seq (.reg [.pf 4 (.fa (.t 2) 3),
    .pf 5 (.ld true (.t 4) 1 false),
    .pf 6 (.len false (.t 5)),
    .pf 7 (.ld false (.t 1) 1 false),
    .pf 8 (.bin .eql (.t 6) (.t 7)),
    .pf 3 (.mv (.t 8))])
  .ret))
theorem ac67 {args : List V} {s : H} {Q : V → H → Prop} (hn : args.length ≤ 9) (h : wpS Tryz.prog sc67 (bodyQ [.t 3] Q) (initT args) (fun _ => (0, [])) s) : AC Tryz.prog 67 args s Q :=
  ac_of_wpS [2, 4] Tryz.func67 rfl (by kernel_rfl) (by kernel_rfl) (by kernel_rfl) hn h

/-- slices.Clip[[]tapestry/api.Field,tapestry/api.Field] -/
def sc68 : SC :=
  (.seq (.reg [.pf 2 (.mv (.k (.sl [] [] true none)))])
  (.seq (.reg [.pf 3 (.mv (.t 0)),
    .pf 4 (.mv (.t 0)),
    .pf 5 (.len false (.t 4)),
    .pf 6 (.mv (.t 0)),
    .pf 7 (.len false (.t 6)),
    .pf 8 (.slc false (.t 3) none (some (.t 5)) (some (.t 7)) 9),
    .pf 2 (.mv (.t 8))])
  .ret))
theorem ac68 {args : List V} {s : H} {Q : V → H → Prop} (hn : args.length ≤ 9) (h : wpS Tryz.prog sc68 (bodyQ [.t 2] Q) (initT args) (fun _ => (0, [])) s) : AC Tryz.prog 68 args s Q :=
  ac_of_wpS [] Tryz.func68 rfl (by kernel_rfl) (by kernel_rfl) (by kernel_rfl) hn h

/-- slices.IndexFunc[[]tapestry/api.Resource,tapestry/api.Resource] -/
def sc69 : SC :=
  (.seq (.reg [.pf 4 (.mv (.k (.int .i64 0)))])
  (.seq (.seq (.reg [.pf 6 (.mv (.t 0)),
    .pf 7 (.len false (.t 6)),
    .pf 8 (.mv (.k (.int .i64 0)))])
  (.block 0
    (.loop
      (.seq (.reg [.pf 9 (.bin .lss (.t 8) (.t 7))])
      (.seq (.cond (.t 9)
        .skip
        (.exit 0))
      (.seq (.block 1
        (.seq (.reg [.pf 10 (.mv (.t 8)),
          .pf 5 (.mv (.t 10))])
        (.seq (.reg [.pf 11 (.mv (.t 1)),
          .pf 12 (.mv (.t 0)),
          .pf 13 (.mv (.t 5)),
          .pf 14 (.ia (.t 12) (.t 13) 10),
          .pf 15 (.ld false (.t 14) 10 true),
          .callv (some 16) (.t 11) [(.t 15)]])
        (.cond (.t 16)
          (.seq (.reg [.pf 17 (.mv (.t 5)),
            .pf 4 (.mv (.t 17))])
          .ret)
          .skip))))
      (.reg [.pf 18 (.bin .add (.t 8) (.k (.int .i64 1))),
        .pf 8 (.mv (.t 18))])))))))
  (.seq (.reg [.pf 4 (.mv (.k (.int .i64 (-1))))])
  .ret)))
theorem ac69 {args : List V} {s : H} {Q : V → H → Prop} (hn : args.length ≤ 19) (h : wpS Tryz.prog sc69 (bodyQ [.t 4] Q) (initT args) (fun _ => (0, [])) s) : AC Tryz.prog 69 args s Q :=
  ac_of_wpS [] Tryz.func69 rfl (by kernel_rfl) (by kernel_rfl) (by kernel_rfl) hn h

/-- (*tapestry/eval.machine).read$1 -/
def sc70 : SC :=
  (.seq (.reg [.boxl 2 10 (.t 0),
    .pf 3 (.mv (.k (.bool false)))])
  (.seq (.reg [.pf 4 (.fa (.t 2) 0),
    .pf 5 (.ld true (.t 4) 1 false),
    .pf 6 (.fa (.t 1) 2),
    .pf 7 (.ld false (.t 6) 1 false),
    .pf 8 (.bin .eql (.t 5) (.t 7)),
    .pf 3 (.mv (.t 8))])
  .ret))
theorem ac70 {args : List V} {s : H} {Q : V → H → Prop} (hn : args.length ≤ 9) (h : wpS Tryz.prog sc70 (bodyQ [.t 3] Q) (initT args) (fun _ => (0, [])) s) : AC Tryz.prog 70 args s Q :=
  ac_of_wpS [2, 4] Tryz.func70 rfl (by kernel_rfl) (by kernel_rfl) (by kernel_rfl) hn h

/-- tapestry/value.Check -/
def sc71 : SC :=
  (.seq (.reg [.boxl 1 8 (.t 0),
    .pf 2 (.mv (.k (.bool false)))])
  (.seq (.reg [.boxh 3 1 (.k (.int .i64 0)),
    .boxh 4 1 (.k (.bool false)),
    .st false (.t 3) (.k (.int .i64 0)) 1,
    .st false (.t 4) (.k (.bool true)) 1])
  (.seq (.reg [.pf 5 (.ld true (.t 1) 8 true),
    .pf 6 (.mkfn 83 [] [(.t 3), (.t 4)]),
    .call (some 7) 82 [(.t 5), (.t 6)]])
  (.seq (.reg [.pf 8 (.ld false (.t 4) 1 false),
    .pf 2 (.mv (.t 8))])
  .ret))))
theorem ac71 {args : List V} {s : H} {Q : V → H → Prop} (hn : args.length ≤ 9) (h : wpS Tryz.prog sc71 (bodyQ [.t 2] Q) (initT args) (fun _ => (0, [])) s) : AC Tryz.prog 71 args s Q :=
  ac_of_wpS [1] Tryz.func71 rfl (by kernel_rfl) (by kernel_rfl) (by kernel_rfl) hn h

/-- tapestry/twin.Value -/
def sc72 : SC :=
  (.seq (.reg [.boxl 1 8 (.t 0),
    .boxl 2 8 (.k (.agg [(.int .u8 0), (.int .i64 0), (.str []), (.sl [] [] true none), (.sl [] [] true none), (.int .u8 0), (.str []), (.bool false)]))])
  (.seq (.reg [.p 3 (.fa (.t 1) 3),
    .p 4 (.ld true (.t 3) 1 false),
    .p 6 (.fa (.t 1) 4),
    .p 7 (.ld true (.t 6) 1 false),
    .call (some 5) 85 [(.t 4)],
    .p 9 (.fa (.t 1) 3),
    .call (some 8) 86 [(.t 7)],
    .st true (.t 9) (.t 5) 1,
    .p 10 (.fa (.t 1) 4),
    .st true (.t 10) (.t 8) 1])
  (.seq (.reg [.pf 11 (.ld true (.t 1) 8 true),
    .st true (.t 2) (.t 11) 8])
  .ret)))
theorem ac72 {args : List V} {s : H} {Q : V → H → Prop} (hn : args.length ≤ 12) (h : wpS Tryz.prog sc72 (bodyQ [.c 2 8 true] Q) (initT args) (fun _ => (0, [])) s) : AC Tryz.prog 72 args s Q :=
  ac_of_wpS [1, 2, 3, 6, 9, 10] Tryz.func72 rfl (by kernel_rfl) (by kernel_rfl) (by kernel_rfl) hn h

/-- slices.Contains[[]string,string] -/
def sc73 : SC :=
  (.seq (.reg [.pf 4 (.mv (.k (.bool false)))])
  (.seq (.reg [.pf 5 (.mv (.t 0)),
    .pf 6 (.mv (.t 1)),
    .call (some 7) 87 [(.t 5), (.t 6)],
    .pf 8 (.bin .geq (.t 7) (.k (.int .i64 0))),
    .pf 4 (.mv (.t 8))])
  .ret))
theorem ac73 {args : List V} {s : H} {Q : V → H → Prop} (hn : args.length ≤ 9) (h : wpS Tryz.prog sc73 (bodyQ [.t 4] Q) (initT args) (fun _ => (0, [])) s) : AC Tryz.prog 73 args s Q :=
  ac_of_wpS [] Tryz.func73 rfl (by kernel_rfl) (by kernel_rfl) (by kernel_rfl) hn h

/-- tapestry/eval.fields -/
def sc74 : SC :=
  (.seq (.reg [.pf 4 (.mv (.k (.sl [] [] true none)))])
  (.seq (.reg [.pf 5 (.mv (.k (.sl [] [] true none)))])
  (.seq (.seq (.reg [.pf 8 (.mv (.t 0)),
    .pf 9 (.len false (.t 8)),
    .pf 10 (.mv (.k (.int .i64 0)))])
  (.block 0
    (.loop
      (.seq (.reg [.pf 11 (.bin .lss (.t 10) (.t 9))])
      (.seq (.cond (.t 11)
        .skip
        (.exit 0))
      (.seq (.block 1
        (.seq (.reg [.pf 12 (.mv (.t 10)),
          .pf 13 (.ia (.t 8) (.t 10) 1),
          .pf 14 (.ld false (.t 13) 1 false),
          .pf 6 (.mv (.t 12)),
          .pf 7 (.mv (.t 14))])
        (.reg [.pf 15 (.mv (.t 5)),
          .pf 16 (.mv (.t 7)),
          .pf 17 (.mv (.t 1)),
          .pf 18 (.mv (.t 6)),
          .pf 19 (.ia (.t 17) (.t 18) 8),
          .pf 20 (.ld false (.t 19) 8 true),
          .pf 21 (.build [(.str []), (.int .u8 0), (.int .i64 0), (.str []), (.sl [] [] true none), (.sl [] [] true none), (.int .u8 0), (.str []), (.bool false)] [(0, 1, (.t 16)), (1, 8, (.t 20))]),
          .bsl 22 1 9 [(.str []), (.int .u8 0), (.int .i64 0), (.str []), (.sl [] [] true none), (.sl [] [] true none), (.int .u8 0), (.str []), (.bool false)] [(0, (.t 21))],
          .app 23 9 (.t 15) (.t 22),
          .pf 5 (.mv (.t 23))])))
      (.reg [.pf 24 (.bin .add (.t 10) (.k (.int .i64 1))),
        .pf 10 (.mv (.t 24))])))))))
  (.seq (.reg [.pf 25 (.mv (.t 5)),
    .call (some 26) 88 [(.t 25), (.k (.fn (.func 89) [] []))]])
  (.seq (.reg [.pf 27 (.mv (.t 5)),
    .pf 4 (.mv (.t 27))])
  .ret)))))
theorem ac74 {args : List V} {s : H} {Q : V → H → Prop} (hn : args.length ≤ 28) (h : wpS Tryz.prog sc74 (bodyQ [.t 4] Q) (initT args) (fun _ => (0, [])) s) : AC Tryz.prog 74 args s Q :=
  ac_of_wpS [] Tryz.func74 rfl (by kernel_rfl) (by kernel_rfl) (by kernel_rfl) hn h

-- 75 strings.Join: not covered
/-- strconv.FormatInt -/
def sc76 : SC :=
  (.seq (.reg [.pf 4 (.mv (.k (.str [])))])
  (.seq (.reg [.pf 5 (.mv (.t 0)),
    .pf 6 (.mv (.t 1)),
    .call (some 7) 94 [(.t 5), (.t 6)],
    .pf 4 (.mv (.t 7))])
  .ret))
theorem ac76 {args : List V} {s : H} {Q : V → H → Prop} (hn : args.length ≤ 8) (h : wpS Tryz.prog sc76 (bodyQ [.t 4] Q) (initT args) (fun _ => (0, [])) s) : AC Tryz.prog 76 args s Q :=
  ac_of_wpS [] Tryz.func76 rfl (by kernel_rfl) (by kernel_rfl) (by kernel_rfl) hn h

-- 77 tapestry/eval.Rising: round not covered
/-- tapestry/eval.Rising -/
noncomputable def sc77 : SC :=
  (.seq (.reg [.pf 2 (.mv (.k (.sl [] [] true none)))])
  (.seq (.reg [.boxh 3 1 (.k (.sl [] [] true none))])
  (.seq (.seq (.reg [.pf 6 (.mv (.t 0)),
    .call (some 7) 95 [(.t 6)]])
  (.block 0
    (.range (.t 7) 28 #[8, 9] (rfAs Tryz.f77) (rfBd Tryz.f77))))
  (.seq (.reg [.pf 25 (.ld false (.t 3) 1 false),
    .call (some 26) 88 [(.t 25), (.k (.fn (.func 98) [] []))]])
  (.seq (.reg [.pf 27 (.ld false (.t 3) 1 false),
    .pf 2 (.mv (.t 27))])
  .ret)))))
theorem ac77 {args : List V} {s : H} {Q : V → H → Prop} (hn : args.length ≤ 28) (h : wpS Tryz.prog sc77 (bodyQ [.t 2] Q) (initT args) (fun _ => (0, [])) s) : AC Tryz.prog 77 args s Q :=
  ac_of_wpS [2000000] Tryz.func77 rfl (by kernel_rfl) (by kernel_rfl) (by kernel_rfl) hn h

/-- tapestry/tapestrylaw01.TwinField -/
def sc78 : SC :=
  (.seq (.reg [.boxl 1 9 (.t 0),
    .boxl 2 9 (.k (.agg [(.str []), (.int .u8 0), (.int .i64 0), (.str []), (.sl [] [] true none), (.sl [] [] true none), (.int .u8 0), (.str []), (.bool false)]))])
  (.seq (.reg [.p 3 (.fa (.t 1) 0),
    .p 4 (.ld true (.t 3) 1 false),
    .p 5 (.fa (.t 1) 1),
    .p 6 (.ld true (.t 5) 8 true),
    .call (some 7) 32 [(.t 6)],
    .p 8 (.build [(.str []), (.int .u8 0), (.int .i64 0), (.str []), (.sl [] [] true none), (.sl [] [] true none), (.int .u8 0), (.str []), (.bool false)] [(0, 1, (.t 4)), (1, 8, (.t 7))]),
    .st true (.t 2) (.t 8) 9])
  .ret))
theorem ac78 {args : List V} {s : H} {Q : V → H → Prop} (hn : args.length ≤ 9) (h : wpS Tryz.prog sc78 (bodyQ [.c 2 9 true] Q) (initT args) (fun _ => (0, [])) s) : AC Tryz.prog 78 args s Q :=
  ac_of_wpS [1, 2, 3, 5] Tryz.func78 rfl (by kernel_rfl) (by kernel_rfl) (by kernel_rfl) hn h

/-- tapestry/context.behind -/
def sc79 : SC :=
  (.seq (.reg [.boxh 2 1 (.t 0),
    .boxh 3 1 (.t 1),
    .pf 4 (.mv (.k .nilfn))])
  (.seq (.reg [.pf 5 (.mkfn 99 [] [(.t 2), (.t 3)]),
    .pf 4 (.mv (.t 5))])
  .ret))
theorem ac79 {args : List V} {s : H} {Q : V → H → Prop} (hn : args.length ≤ 6) (h : wpS Tryz.prog sc79 (bodyQ [.t 4] Q) (initT args) (fun _ => (0, [])) s) : AC Tryz.prog 79 args s Q :=
  ac_of_wpS [] Tryz.func79 rfl (by kernel_rfl) (by kernel_rfl) (by kernel_rfl) hn h

/-- tapestry/oper.find -/
def sc80 : SC :=
  (.seq (.reg [.boxl 2 4 (.k (.agg [(.str []), (.int .i64 0), (.int .i64 0), .nilfn])),
    .pf 3 (.mv (.k (.bool false)))])
  (.seq (.seq (.reg [.call (some 6) 100 [],
    .pf 7 (.len false (.t 6)),
    .pf 8 (.mv (.k (.int .i64 0)))])
  (.block 0
    (.loop
      (.seq (.reg [.pf 9 (.bin .lss (.t 8) (.t 7))])
      (.seq (.cond (.t 9)
        .skip
        (.exit 0))
      (.seq (.block 1
        (.seq (.reg [.pf 10 (.ia (.t 6) (.t 8) 4),
          .pf 11 (.ld false (.t 10) 4 true),
          .boxl 5 4 (.k (.agg [(.str []), (.int .i64 0), (.int .i64 0), .nilfn])),
          .st true (.t 5) (.t 11) 4])
        (.seq (.reg [.pf 12 (.fa (.t 5) 0),
          .pf 13 (.ld true (.t 12) 1 false),
          .pf 14 (.mv (.t 0)),
          .pf 15 (.bin .eql (.t 13) (.t 14))])
        (.cond (.t 15)
          (.seq (.reg [.pf 16 (.ld true (.t 5) 4 true),
            .st true (.t 2) (.t 16) 4,
            .pf 3 (.mv (.k (.bool true)))])
          .ret)
          .skip))))
      (.reg [.pf 17 (.bin .add (.t 8) (.k (.int .i64 1))),
        .pf 8 (.mv (.t 17))])))))))
  (.seq (.reg [.pf 18 (.build [(.str []), (.int .i64 0), (.int .i64 0), .nilfn] []),
    .st true (.t 2) (.t 18) 4,
    .pf 3 (.mv (.k (.bool false)))])
  .ret)))
theorem ac80 {args : List V} {s : H} {Q : V → H → Prop} (hn : args.length ≤ 19) (h : wpS Tryz.prog sc80 (bodyQ [.c 2 4 true, .t 3] Q) (initT args) (fun _ => (0, [])) s) : AC Tryz.prog 80 args s Q :=
  ac_of_wpS [2, 5, 12] Tryz.func80 rfl (by kernel_rfl) (by kernel_rfl) (by kernel_rfl) hn h

/-- tapestry/copies.Value -/
def sc81 : SC :=
  (.seq (.reg [.boxl 1 8 (.t 0),
    .boxl 2 8 (.k (.agg [(.int .u8 0), (.int .i64 0), (.str []), (.sl [] [] true none), (.sl [] [] true none), (.int .u8 0), (.str []), (.bool false)]))])
  (.seq (.reg [.p 3 (.fa (.t 1) 3),
    .p 4 (.ld true (.t 3) 1 false),
    .p 6 (.fa (.t 1) 4),
    .p 7 (.ld true (.t 6) 1 false),
    .call (some 5) 101 [(.t 4)],
    .p 9 (.fa (.t 1) 3),
    .call (some 8) 102 [(.t 7)],
    .st true (.t 9) (.t 5) 1,
    .p 10 (.fa (.t 1) 4),
    .st true (.t 10) (.t 8) 1])
  (.seq (.reg [.pf 11 (.ld true (.t 1) 8 true),
    .st true (.t 2) (.t 11) 8])
  .ret)))
theorem ac81 {args : List V} {s : H} {Q : V → H → Prop} (hn : args.length ≤ 12) (h : wpS Tryz.prog sc81 (bodyQ [.c 2 8 true] Q) (initT args) (fun _ => (0, [])) s) : AC Tryz.prog 81 args s Q :=
  ac_of_wpS [1, 2, 3, 6, 9, 10] Tryz.func81 rfl (by kernel_rfl) (by kernel_rfl) (by kernel_rfl) hn h

/-- tapestry/value.each -/
def sc82 : SC :=
  (.seq (.reg [.boxl 2 8 (.t 0),
    .boxh 3 1 (.t 1)])
  (.seq (.reg [.boxh 4 1 (.k .nilfn)])
  (.seq (.reg [.pf 5 (.mkfn 103 [] [(.t 3), (.t 4)]),
    .st false (.t 4) (.t 5) 1])
  (.reg [.pf 6 (.ld false (.t 4) 1 false),
    .pf 7 (.ld true (.t 2) 8 true),
    .callv (some 8) (.t 6) [(.t 7), (.k (.int .i64 1))]]))))
theorem ac82 {args : List V} {s : H} {Q : V → H → Prop} (hn : args.length ≤ 9) (h : wpS Tryz.prog sc82 (bodyQ [] Q) (initT args) (fun _ => (0, [])) s) : AC Tryz.prog 82 args s Q :=
  ac_of_wpS [2] Tryz.func82 rfl (by kernel_rfl) (by kernel_rfl) (by kernel_rfl) hn h

/-- tapestry/value.Check$1 -/
def sc83 : SC :=
  (.seq (.reg [.boxl 4 8 (.t 0),
    .pf 6 (.mv (.k (.bool false)))])
  (.seq (.reg [.pf 7 (.ld false (.t 2) 1 false),
    .pf 8 (.bin .add (.t 7) (.k (.int .i64 1))),
    .st false (.t 2) (.t 8) 1])
  (.seq (.reg [.pf 9 (.ld true (.t 4) 8 true),
    .call (some 10) 84 [(.t 9)],
    .pf 11 (.mv (.t 10)),
    .gd 11 true [.pf 12 (.ld false (.t 2) 1 false)],
    .gd 11 true [.pf 13 (.bin .leq (.t 12) (.k (.int .i64 4096)))],
    .pf 14 (.pick (.t 11) (.t 13) (.k (.bool false))),
    .pf 15 (.mv (.t 14)),
    .gd 15 true [.pf 16 (.mv (.t 1))],
    .gd 15 true [.pf 17 (.bin .leq (.t 16) (.k (.int .i64 64)))],
    .pf 18 (.pick (.t 15) (.t 17) (.k (.bool false))),
    .st false (.t 3) (.t 18) 1])
  (.seq (.reg [.pf 19 (.ld false (.t 3) 1 false),
    .pf 6 (.mv (.t 19))])
  .ret))))
theorem ac83 {args : List V} {s : H} {Q : V → H → Prop} (hn : args.length ≤ 20) (h : wpS Tryz.prog sc83 (bodyQ [.t 6] Q) (initT args) (fun _ => (0, [])) s) : AC Tryz.prog 83 args s Q :=
  ac_of_wpS [4] Tryz.func83 rfl (by kernel_rfl) (by kernel_rfl) (by kernel_rfl) hn h

/-- tapestry/value.alone -/
def sc84 : SC :=
  (.seq (.reg [.boxh 1 8 (.t 0),
    .pf 2 (.mv (.k (.bool false)))])
  (.seq (.seq (.reg [.pf 6 (.fa (.t 1) 4),
    .pf 7 (.ld false (.t 6) 1 false),
    .pf 8 (.len false (.t 7)),
    .pf 9 (.mv (.k (.int .i64 0)))])
  (.block 0
    (.loop
      (.seq (.reg [.pf 10 (.bin .lss (.t 9) (.t 8))])
      (.seq (.cond (.t 10)
        .skip
        (.exit 0))
      (.seq (.block 1
        (.seq (.reg [.pf 11 (.mv (.t 9)),
          .pf 12 (.ia (.t 7) (.t 9) 9),
          .pf 13 (.ld false (.t 12) 9 true),
          .boxl 4 9 (.k (.agg [(.str []), (.int .u8 0), (.int .i64 0), (.str []), (.sl [] [] true none), (.sl [] [] true none), (.int .u8 0), (.str []), (.bool false)])),
          .pf 3 (.mv (.t 11)),
          .st true (.t 4) (.t 13) 9])
        (.seq (.reg [.p 14 (.fa (.t 4) 0),
          .p 15 (.ld true (.t 14) 1 false),
          .call (some 16) 104 [(.t 15)],
          .p 17 (.not (.t 16)),
          .p 18 (.mv (.t 17)),
          .gd 18 false [.p 19 (.mv (.t 3))],
          .gd 18 false [.p 20 (.bin .gtr (.t 19) (.k (.int .i64 0)))],
          .gd 18 false [.p 21 (.mv (.t 20))],
          .gd 21 true [.p 22 (.fa (.t 1) 4)],
          .gd 21 true [.p 23 (.ld false (.t 22) 1 false)],
          .gd 21 true [.p 24 (.mv (.t 3))],
          .gd 21 true [.p 25 (.bin .sub (.t 24) (.k (.int .i64 1)))],
          .gd 21 true [.p 26 (.ia (.t 23) (.t 25) 9)],
          .gd 21 true [.p 27 (.fa (.t 26) 0)],
          .gd 21 true [.p 28 (.ld false (.t 27) 1 false)],
          .gd 21 true [.p 29 (.fa (.t 4) 0)],
          .gd 21 true [.p 30 (.ld true (.t 29) 1 false)],
          .gd 21 true [.p 31 (.bin .geq (.t 28) (.t 30))],
          .gd 18 false [.p 32 (.pick (.t 21) (.t 31) (.k (.bool false)))],
          .p 33 (.pick (.t 18) (.k (.bool true)) (.t 32))])
        (.cond (.t 33)
          (.seq (.reg [.pf 2 (.mv (.k (.bool false)))])
          .ret)
          .skip))))
      (.reg [.pf 34 (.bin .add (.t 9) (.k (.int .i64 1))),
        .pf 9 (.mv (.t 34))])))))))
  (.seq (.seq (.reg [.pf 35 (.fa (.t 1) 0),
    .pf 36 (.ld false (.t 35) 1 false),
    .pf 37 (.bin .eql (.t 36) (.k (.int .u8 6)))])
  (.cond (.t 37)
    (.seq (.reg [.pf 38 (.ld false (.t 1) 8 true),
      .call (some 39) 105 [(.t 38)],
      .pf 2 (.mv (.t 39))])
    .ret)
    .skip))
  (.seq (.reg [.pf 40 (.mkfn 106 [] [(.t 1)]),
    .pf 5 (.mv (.t 40))])
  (.seq (.reg [.pf 41 (.fa (.t 1) 0),
    .pf 42 (.ld false (.t 41) 1 false),
    .pf 43 (.bin .leq (.t 42) (.k (.int .u8 7))),
    .pf 44 (.mv (.t 43)),
    .gd 44 true [.pf 45 (.fa (.t 1) 5)],
    .gd 44 true [.pf 46 (.ld false (.t 45) 1 false)],
    .gd 44 true [.pf 47 (.bin .eql (.t 46) (.k (.int .u8 0)))],
    .pf 48 (.pick (.t 44) (.t 47) (.k (.bool false))),
    .pf 49 (.mv (.t 48)),
    .gd 49 true [.pf 50 (.fa (.t 1) 6)],
    .gd 49 true [.pf 51 (.ld false (.t 50) 1 false)],
    .gd 49 true [.pf 52 (.bin .eql (.t 51) (.k (.str [])))],
    .pf 53 (.pick (.t 49) (.t 52) (.k (.bool false))),
    .pf 54 (.mv (.t 53)),
    .gd 54 true [.pf 55 (.fa (.t 1) 7)],
    .gd 54 true [.pf 56 (.ld false (.t 55) 1 false)],
    .gd 54 true [.pf 57 (.not (.t 56))],
    .pf 58 (.pick (.t 54) (.t 57) (.k (.bool false))),
    .pf 59 (.mv (.t 58)),
    .gd 59 true [.pf 60 (.fa (.t 1) 2)],
    .gd 59 true [.pf 61 (.ld false (.t 60) 1 false)],
    .gd 59 true [.pf 62 (.len true (.t 61))],
    .gd 59 true [.pf 63 (.bin .leq (.t 62) (.k (.int .i64 4096)))],
    .pf 64 (.pick (.t 59) (.t 63) (.k (.bool false))),
    .pf 65 (.mv (.t 64)),
    .gd 65 true [.pf 66 (.fa (.t 1) 1)],
    .gd 65 true [.pf 67 (.ld false (.t 66) 1 false)],
    .gd 65 true [.pf 68 (.bin .eql (.t 67) (.k (.int .i64 0)))],
    .gd 65 true [.pf 69 (.mv (.t 68))],
    .gd 69 false [.pf 70 (.mv (.t 5))],
    .gd 69 false [.bsl 71 2 1 [(.int .u8 0)] [(0, (.k (.int .u8 1))), (1, (.k (.int .u8 7)))]],
    .gd 69 false [.callv (some 72) (.t 70) [(.t 71)]],
    .gd 65 true [.pf 73 (.pick (.t 69) (.k (.bool true)) (.t 72))],
    .gd 65 true [.pf 74 (.mv (.t 73))],
    .gd 74 false [.pf 75 (.mv (.t 5))],
    .gd 74 false [.bsl 76 1 1 [(.int .u8 0)] [(0, (.k (.int .u8 2)))]],
    .gd 74 false [.callv (some 77) (.t 75) [(.t 76)]],
    .gd 74 false [.pf 78 (.mv (.t 77))],
    .gd 78 true [.pf 79 (.fa (.t 1) 1)],
    .gd 78 true [.pf 80 (.ld false (.t 79) 1 false)],
    .gd 78 true [.pf 81 (.bin .eql (.t 80) (.k (.int .i64 1)))],
    .gd 74 false [.pf 82 (.pick (.t 78) (.t 81) (.k (.bool false)))],
    .gd 65 true [.pf 83 (.pick (.t 74) (.k (.bool true)) (.t 82))],
    .pf 84 (.pick (.t 65) (.t 83) (.k (.bool false))),
    .pf 85 (.mv (.t 84)),
    .gd 85 true [.pf 86 (.fa (.t 1) 2)],
    .gd 85 true [.pf 87 (.ld false (.t 86) 1 false)],
    .gd 85 true [.pf 88 (.bin .eql (.t 87) (.k (.str [])))],
    .gd 85 true [.pf 89 (.mv (.t 88))],
    .gd 89 false [.pf 90 (.mv (.t 5))],
    .gd 89 false [.bsl 91 2 1 [(.int .u8 0)] [(0, (.k (.int .u8 3))), (1, (.k (.int .u8 7)))]],
    .gd 89 false [.callv (some 92) (.t 90) [(.t 91)]],
    .gd 85 true [.pf 93 (.pick (.t 89) (.k (.bool true)) (.t 92))],
    .pf 94 (.pick (.t 85) (.t 93) (.k (.bool false))),
    .pf 95 (.mv (.t 94)),
    .gd 95 true [.pf 96 (.fa (.t 1) 3)],
    .gd 95 true [.pf 97 (.ld false (.t 96) 1 false)],
    .gd 95 true [.pf 98 (.len false (.t 97))],
    .gd 95 true [.pf 99 (.bin .eql (.t 98) (.k (.int .i64 0)))],
    .gd 95 true [.pf 100 (.mv (.t 99))],
    .gd 100 false [.pf 101 (.mv (.t 5))],
    .gd 100 false [.bsl 102 1 1 [(.int .u8 0)] [(0, (.k (.int .u8 4)))]],
    .gd 100 false [.callv (some 103) (.t 101) [(.t 102)]],
    .gd 95 true [.pf 104 (.pick (.t 100) (.k (.bool true)) (.t 103))],
    .pf 105 (.pick (.t 95) (.t 104) (.k (.bool false))),
    .pf 106 (.mv (.t 105)),
    .gd 106 true [.pf 107 (.fa (.t 1) 4)],
    .gd 106 true [.pf 108 (.ld false (.t 107) 1 false)],
    .gd 106 true [.pf 109 (.len false (.t 108))],
    .gd 106 true [.pf 110 (.bin .eql (.t 109) (.k (.int .i64 0)))],
    .gd 106 true [.pf 111 (.mv (.t 110))],
    .gd 111 false [.pf 112 (.mv (.t 5))],
    .gd 111 false [.bsl 113 2 1 [(.int .u8 0)] [(0, (.k (.int .u8 5))), (1, (.k (.int .u8 7)))]],
    .gd 111 false [.callv (some 114) (.t 112) [(.t 113)]],
    .gd 106 true [.pf 115 (.pick (.t 111) (.k (.bool true)) (.t 114))],
    .pf 116 (.pick (.t 106) (.t 115) (.k (.bool false))),
    .pf 2 (.mv (.t 116))])
  .ret)))))
theorem ac84 {args : List V} {s : H} {Q : V → H → Prop} (hn : args.length ≤ 117) (h : wpS Tryz.prog sc84 (bodyQ [.t 2] Q) (initT args) (fun _ => (0, [])) s) : AC Tryz.prog 84 args s Q :=
  ac_of_wpS [4, 14, 29] Tryz.func84 rfl (by kernel_rfl) (by kernel_rfl) (by kernel_rfl) hn h

/-- tapestry/twin.Values -/
def sc85 : SC :=
  (.seq (.reg [.pf 2 (.mv (.k (.sl [] [] true none)))])
  (.seq (.reg [.pf 5 (.mv (.t 0)),
    .call (some 6) 108 [(.t 5)],
    .pf 3 (.mv (.t 6))])
  (.seq (.seq (.reg [.pf 7 (.mv (.t 3)),
    .pf 8 (.len false (.t 7)),
    .pf 9 (.mv (.k (.int .i64 0)))])
  (.block 0
    (.loop
      (.seq (.reg [.pf 10 (.bin .lss (.t 9) (.t 8))])
      (.seq (.cond (.t 10)
        .skip
        (.exit 0))
      (.seq (.block 1
        (.seq (.reg [.pf 11 (.mv (.t 9)),
          .pf 4 (.mv (.t 11))])
        (.reg [.pf 12 (.mv (.t 3)),
          .pf 13 (.mv (.t 4)),
          .pf 14 (.mv (.t 3)),
          .pf 15 (.mv (.t 4)),
          .pf 16 (.ia (.t 14) (.t 15) 8),
          .pf 17 (.ld false (.t 16) 8 true),
          .call (some 18) 72 [(.t 17)],
          .pf 19 (.ia (.t 12) (.t 13) 8),
          .st false (.t 19) (.t 18) 8])))
      (.reg [.pf 20 (.bin .add (.t 9) (.k (.int .i64 1))),
        .pf 9 (.mv (.t 20))])))))))
  (.seq (.reg [.pf 21 (.mv (.t 3)),
    .call (some 22) 109 [(.t 21)],
    .pf 2 (.mv (.t 22))])
  .ret))))
theorem ac85 {args : List V} {s : H} {Q : V → H → Prop} (hn : args.length ≤ 23) (h : wpS Tryz.prog sc85 (bodyQ [.t 2] Q) (initT args) (fun _ => (0, [])) s) : AC Tryz.prog 85 args s Q :=
  ac_of_wpS [] Tryz.func85 rfl (by kernel_rfl) (by kernel_rfl) (by kernel_rfl) hn h

/-- tapestry/twin.Fields -/
def sc86 : SC :=
  (.seq (.reg [.pf 2 (.mv (.k (.sl [] [] true none)))])
  (.seq (.reg [.pf 5 (.mv (.t 0)),
    .call (some 6) 110 [(.t 5)],
    .pf 3 (.mv (.t 6))])
  (.seq (.seq (.reg [.pf 7 (.mv (.t 3)),
    .pf 8 (.len false (.t 7)),
    .pf 9 (.mv (.k (.int .i64 0)))])
  (.block 0
    (.loop
      (.seq (.reg [.pf 10 (.bin .lss (.t 9) (.t 8))])
      (.seq (.cond (.t 10)
        .skip
        (.exit 0))
      (.seq (.block 1
        (.seq (.reg [.pf 11 (.mv (.t 9)),
          .pf 4 (.mv (.t 11))])
        (.reg [.pf 12 (.mv (.t 3)),
          .pf 13 (.mv (.t 4)),
          .pf 14 (.mv (.t 3)),
          .pf 15 (.mv (.t 4)),
          .pf 16 (.ia (.t 14) (.t 15) 9),
          .pf 17 (.fa (.t 16) 1),
          .pf 18 (.ld false (.t 17) 8 true),
          .call (some 19) 72 [(.t 18)],
          .pf 20 (.ia (.t 12) (.t 13) 9),
          .pf 21 (.fa (.t 20) 1),
          .st false (.t 21) (.t 19) 8])))
      (.reg [.pf 22 (.bin .add (.t 9) (.k (.int .i64 1))),
        .pf 9 (.mv (.t 22))])))))))
  (.seq (.reg [.pf 23 (.mv (.t 3)),
    .call (some 24) 68 [(.t 23)],
    .pf 2 (.mv (.t 24))])
  .ret))))
theorem ac86 {args : List V} {s : H} {Q : V → H → Prop} (hn : args.length ≤ 25) (h : wpS Tryz.prog sc86 (bodyQ [.t 2] Q) (initT args) (fun _ => (0, [])) s) : AC Tryz.prog 86 args s Q :=
  ac_of_wpS [] Tryz.func86 rfl (by kernel_rfl) (by kernel_rfl) (by kernel_rfl) hn h

/-- slices.Index[[]string,string] -/
def sc87 : SC :=
  (.seq (.reg [.pf 4 (.mv (.k (.int .i64 0)))])
  (.seq (.seq (.reg [.pf 6 (.mv (.t 0)),
    .pf 7 (.len false (.t 6)),
    .pf 8 (.mv (.k (.int .i64 0)))])
  (.block 0
    (.loop
      (.seq (.reg [.pf 9 (.bin .lss (.t 8) (.t 7))])
      (.seq (.cond (.t 9)
        .skip
        (.exit 0))
      (.seq (.block 1
        (.seq (.reg [.pf 10 (.mv (.t 8)),
          .pf 5 (.mv (.t 10))])
        (.seq (.reg [.pf 11 (.mv (.t 1)),
          .pf 12 (.mv (.t 0)),
          .pf 13 (.mv (.t 5)),
          .pf 14 (.ia (.t 12) (.t 13) 1),
          .pf 15 (.ld false (.t 14) 1 false),
          .pf 16 (.bin .eql (.t 11) (.t 15))])
        (.cond (.t 16)
          (.seq (.reg [.pf 17 (.mv (.t 5)),
            .pf 4 (.mv (.t 17))])
          .ret)
          .skip))))
      (.reg [.pf 18 (.bin .add (.t 8) (.k (.int .i64 1))),
        .pf 8 (.mv (.t 18))])))))))
  (.seq (.reg [.pf 4 (.mv (.k (.int .i64 (-1))))])
  .ret)))
theorem ac87 {args : List V} {s : H} {Q : V → H → Prop} (hn : args.length ≤ 19) (h : wpS Tryz.prog sc87 (bodyQ [.t 4] Q) (initT args) (fun _ => (0, [])) s) : AC Tryz.prog 87 args s Q :=
  ac_of_wpS [] Tryz.func87 rfl (by kernel_rfl) (by kernel_rfl) (by kernel_rfl) hn h

/-- slices.SortFunc[[]tapestry/api.Field,tapestry/api.Field] -/
def sc88 : SC :=
  (.seq (.reg [.pf 5 (.mv (.t 0)),
    .pf 6 (.len false (.t 5)),
    .pf 4 (.mv (.t 6))])
  (.reg [.pf 7 (.mv (.t 0)),
    .pf 8 (.mv (.t 4)),
    .pf 9 (.mv (.t 4)),
    .pf 10 (.cvi .u64 (.t 9)),
    .call (some 11) 112 [(.t 10)],
    .pf 12 (.mv (.t 1)),
    .call (some 13) 111 [(.t 7), (.k (.int .i64 0)), (.t 8), (.t 11), (.t 12)]]))
theorem ac88 {args : List V} {s : H} {Q : V → H → Prop} (hn : args.length ≤ 14) (h : wpS Tryz.prog sc88 (bodyQ [] Q) (initT args) (fun _ => (0, [])) s) : AC Tryz.prog 88 args s Q :=
  ac_of_wpS [] Tryz.func88 rfl (by kernel_rfl) (by kernel_rfl) (by kernel_rfl) hn h

/-- tapestry/eval.fields$1 -/
def sc89 : SC :=
  (.seq (.reg [.boxl 2 9 (.t 0),
    .boxl 3 9 (.t 1),
    .pf 4 (.mv (.k (.int .i64 0)))])
  (.seq (.reg [.pf 5 (.fa (.t 2) 0),
    .pf 6 (.ld true (.t 5) 1 false),
    .pf 7 (.fa (.t 3) 0),
    .pf 8 (.ld true (.t 7) 1 false),
    .call (some 9) 90 [(.t 6), (.t 8)],
    .pf 4 (.mv (.t 9))])
  .ret))
theorem ac89 {args : List V} {s : H} {Q : V → H → Prop} (hn : args.length ≤ 10) (h : wpS Tryz.prog sc89 (bodyQ [.t 4] Q) (initT args) (fun _ => (0, [])) s) : AC Tryz.prog 89 args s Q :=
  ac_of_wpS [2, 3, 5, 7] Tryz.func89 rfl (by kernel_rfl) (by kernel_rfl) (by kernel_rfl) hn h

/-- strings.Compare -/
def sc90 : SC :=
  (.seq (.reg [.pf 4 (.mv (.k (.int .i64 0)))])
  (.seq (.reg [.pf 5 (.mv (.t 0)),
    .pf 6 (.mv (.t 1)),
    .call (some 7) 113 [(.t 5), (.t 6)],
    .pf 4 (.mv (.t 7))])
  .ret))
theorem ac90 {args : List V} {s : H} {Q : V → H → Prop} (hn : args.length ≤ 8) (h : wpS Tryz.prog sc90 (bodyQ [.t 4] Q) (initT args) (fun _ => (0, [])) s) : AC Tryz.prog 90 args s Q :=
  ac_of_wpS [] Tryz.func90 rfl (by kernel_rfl) (by kernel_rfl) (by kernel_rfl) hn h

-- 91 (*strings.Builder).Grow: not covered
-- 92 (*strings.Builder).WriteString: not covered
-- 93 (*strings.Builder).String: not covered
-- 94 internal/strconv.FormatInt: not covered
/-- slices.Backward[[]tapestry/api.Field,tapestry/api.Field] -/
def sc95 : SC :=
  (.seq (.reg [.boxh 1 1 (.t 0),
    .pf 2 (.mv (.k .nilfn))])
  (.seq (.reg [.pf 3 (.mkfn 120 [] [(.t 1)]),
    .pf 2 (.mv (.t 3))])
  .ret))
theorem ac95 {args : List V} {s : H} {Q : V → H → Prop} (hn : args.length ≤ 4) (h : wpS Tryz.prog sc95 (bodyQ [.t 2] Q) (initT args) (fun _ => (0, [])) s) : AC Tryz.prog 95 args s Q :=
  ac_of_wpS [] Tryz.func95 rfl (by kernel_rfl) (by kernel_rfl) (by kernel_rfl) hn h

/-- slices.ContainsFunc[[]tapestry/api.Field,tapestry/api.Field] -/
def sc96 : SC :=
  (.seq (.reg [.pf 4 (.mv (.k (.bool false)))])
  (.seq (.reg [.pf 5 (.mv (.t 0)),
    .pf 6 (.mv (.t 1)),
    .call (some 7) 121 [(.t 5), (.t 6)],
    .pf 8 (.bin .geq (.t 7) (.k (.int .i64 0))),
    .pf 4 (.mv (.t 8))])
  .ret))
theorem ac96 {args : List V} {s : H} {Q : V → H → Prop} (hn : args.length ≤ 9) (h : wpS Tryz.prog sc96 (bodyQ [.t 4] Q) (initT args) (fun _ => (0, [])) s) : AC Tryz.prog 96 args s Q :=
  ac_of_wpS [] Tryz.func96 rfl (by kernel_rfl) (by kernel_rfl) (by kernel_rfl) hn h

/-- tapestry/eval.Rising$1 -/
def sc97 : SC :=
  (.seq (.reg [.boxl 2 9 (.t 0),
    .pf 3 (.mv (.k (.bool false)))])
  (.seq (.reg [.pf 4 (.fa (.t 2) 0),
    .pf 5 (.ld true (.t 4) 1 false),
    .pf 6 (.fa (.t 1) 0),
    .pf 7 (.ld false (.t 6) 1 false),
    .pf 8 (.bin .eql (.t 5) (.t 7)),
    .pf 3 (.mv (.t 8))])
  .ret))
theorem ac97 {args : List V} {s : H} {Q : V → H → Prop} (hn : args.length ≤ 9) (h : wpS Tryz.prog sc97 (bodyQ [.t 3] Q) (initT args) (fun _ => (0, [])) s) : AC Tryz.prog 97 args s Q :=
  ac_of_wpS [2, 4] Tryz.func97 rfl (by kernel_rfl) (by kernel_rfl) (by kernel_rfl) hn h

/-- tapestry/eval.Rising$2 -/
def sc98 : SC :=
  (.seq (.reg [.boxl 2 9 (.t 0),
    .boxl 3 9 (.t 1),
    .pf 4 (.mv (.k (.int .i64 0)))])
  (.seq (.reg [.pf 5 (.fa (.t 2) 0),
    .pf 6 (.ld true (.t 5) 1 false),
    .pf 7 (.fa (.t 3) 0),
    .pf 8 (.ld true (.t 7) 1 false),
    .call (some 9) 90 [(.t 6), (.t 8)],
    .pf 4 (.mv (.t 9))])
  .ret))
theorem ac98 {args : List V} {s : H} {Q : V → H → Prop} (hn : args.length ≤ 10) (h : wpS Tryz.prog sc98 (bodyQ [.t 4] Q) (initT args) (fun _ => (0, [])) s) : AC Tryz.prog 98 args s Q :=
  ac_of_wpS [2, 3, 5, 7] Tryz.func98 rfl (by kernel_rfl) (by kernel_rfl) (by kernel_rfl) hn h

/-- tapestry/context.behind$1: a round -/
def scA99 : SC :=
  (.reg [.boxl 5 9 (.k (.agg [(.str []), (.int .u8 0), (.int .i64 0), (.str []), (.sl [] [] true none), (.sl [] [] true none), (.int .u8 0), (.str []), (.bool false)])),
    .st true (.t 5) (.t 9) 9])
def scB99 : SC :=
  (.block 1
    (.seq (.reg [.pf 10 (.fa (.t 5) 0),
      .pf 11 (.ld true (.t 10) 1 false),
      .pf 12 (.ld false (.t 2) 1 false),
      .pf 13 (.bin .eql (.t 11) (.t 12)),
      .pf 14 (.mv (.t 13)),
      .gd 14 true [.pf 15 (.ld false (.t 3) 1 false)],
      .gd 14 true [.pf 16 (.fa (.t 5) 1)],
      .gd 14 true [.pf 17 (.ld true (.t 16) 8 true)],
      .gd 14 true [.callv (some 18) (.t 15) [(.t 17)]],
      .gd 14 true [.pf 19 (.not (.t 18))],
      .pf 20 (.pick (.t 14) (.t 19) (.k (.bool false)))])
    (.cond (.t 20)
      .ret
      .skip)))
theorem cA99 : compC Tryz.prog 21 [5, 10, 16] (rfAs Tryz.f99) = some scA99 := by kernel_rfl
theorem cB99 : compC Tryz.prog 21 [5, 10, 16] (rfBd Tryz.f99) = some scB99 := by kernel_rfl

/-- tapestry/context.behind$1 -/
noncomputable def sc99 : SC :=
  (.seq (.reg [.boxh 3 1 (.t 0)])
  (.seq (.reg [.pf 6 (.ld false (.t 1) 1 false),
    .call (some 7) 95 [(.t 6)]])
  (.block 0
    (.range (.t 7) 21 #[8, 9] (rfAs Tryz.f99) (rfBd Tryz.f99)))))
theorem ac99 {args : List V} {s : H} {Q : V → H → Prop} (hn : args.length ≤ 21) (h : wpS Tryz.prog sc99 (bodyQ [] Q) (initT args) (fun _ => (0, [])) s) : AC Tryz.prog 99 args s Q :=
  ac_of_wpS [2000000] Tryz.func99 rfl (by kernel_rfl) (by kernel_rfl) (by kernel_rfl) hn h

/-- tapestry/oper.rows -/
def sc100 : SC :=
  (.seq (.reg [.pf 0 (.mv (.k (.sl [] [] true none)))])
  (.seq (.reg [.call (some 1) 122 [(.k (.fn (.func 123) [] []))],
    .pf 2 (.build [(.str []), (.int .i64 0), (.int .i64 0), .nilfn] [(0, 1, (.k (.str [97, 100, 100]))), (1, 1, (.k (.int .i64 2))), (2, 1, (.k (.int .i64 2))), (3, 1, (.t 1))]),
    .pf 3 (.build [(.str []), (.int .i64 0), (.int .i64 0), .nilfn] [(0, 1, (.k (.str [97, 116]))), (1, 1, (.k (.int .i64 2))), (2, 1, (.k (.int .i64 2))), (3, 1, (.k (.fn (.func 124) [] [])))]),
    .pf 4 (.build [(.str []), (.int .i64 0), (.int .i64 0), .nilfn] [(0, 1, (.k (.str [99, 97, 116]))), (1, 1, (.k (.int .i64 0))), (2, 1, (.k (.int .i64 (-1)))), (3, 1, (.k (.fn (.func 125) [] [])))]),
    .pf 5 (.build [(.str []), (.int .i64 0), (.int .i64 0), .nilfn] [(0, 1, (.k (.str [101, 113]))), (1, 1, (.k (.int .i64 2))), (2, 1, (.k (.int .i64 2))), (3, 1, (.k (.fn (.func 126) [] [])))]),
    .pf 6 (.build [(.str []), (.int .i64 0), (.int .i64 0), .nilfn] [(0, 1, (.k (.str [103, 101, 116]))), (1, 1, (.k (.int .i64 2))), (2, 1, (.k (.int .i64 2))), (3, 1, (.k (.fn (.func 129) [] [])))]),
    .pf 7 (.build [(.str []), (.int .i64 0), (.int .i64 0), .nilfn] [(0, 1, (.k (.str [108, 101, 110]))), (1, 1, (.k (.int .i64 1))), (2, 1, (.k (.int .i64 1))), (3, 1, (.k (.fn (.func 130) [] [])))]),
    .pf 8 (.build [(.str []), (.int .i64 0), (.int .i64 0), .nilfn] [(0, 1, (.k (.str [108, 105, 115, 116]))), (1, 1, (.k (.int .i64 0))), (2, 1, (.k (.int .i64 (-1)))), (3, 1, (.k (.fn (.func 131) [] [])))]),
    .pf 9 (.build [(.str []), (.int .i64 0), (.int .i64 0), .nilfn] [(0, 1, (.k (.str [108, 116]))), (1, 1, (.k (.int .i64 2))), (2, 1, (.k (.int .i64 2))), (3, 1, (.k (.fn (.func 132) [] [])))]),
    .call (some 10) 122 [(.k (.fn (.func 133) [] []))],
    .pf 11 (.build [(.str []), (.int .i64 0), (.int .i64 0), .nilfn] [(0, 1, (.k (.str [109, 117, 108]))), (1, 1, (.k (.int .i64 2))), (2, 1, (.k (.int .i64 2))), (3, 1, (.t 10))]),
    .pf 12 (.build [(.str []), (.int .i64 0), (.int .i64 0), .nilfn] [(0, 1, (.k (.str [110, 111, 116]))), (1, 1, (.k (.int .i64 1))), (2, 1, (.k (.int .i64 1))), (3, 1, (.k (.fn (.func 134) [] [])))]),
    .pf 13 (.build [(.str []), (.int .i64 0), (.int .i64 0), .nilfn] [(0, 1, (.k (.str [112, 117, 115, 104]))), (1, 1, (.k (.int .i64 2))), (2, 1, (.k (.int .i64 2))), (3, 1, (.k (.fn (.func 136) [] [])))]),
    .call (some 14) 122 [(.k (.fn (.func 137) [] []))],
    .pf 15 (.build [(.str []), (.int .i64 0), (.int .i64 0), .nilfn] [(0, 1, (.k (.str [115, 117, 98]))), (1, 1, (.k (.int .i64 2))), (2, 1, (.k (.int .i64 2))), (3, 1, (.t 14))]),
    .pf 16 (.build [(.str []), (.int .i64 0), (.int .i64 0), .nilfn] [(0, 1, (.k (.str [116, 101, 120, 116]))), (1, 1, (.k (.int .i64 1))), (2, 1, (.k (.int .i64 1))), (3, 1, (.k (.fn (.func 138) [] [])))]),
    .bsl 17 13 4 [(.str []), (.int .i64 0), (.int .i64 0), .nilfn] [(0, (.t 2)), (1, (.t 3)), (2, (.t 4)), (3, (.t 5)), (4, (.t 6)), (5, (.t 7)), (6, (.t 8)), (7, (.t 9)), (8, (.t 11)), (9, (.t 12)), (10, (.t 13)), (11, (.t 15)), (12, (.t 16))],
    .pf 0 (.mv (.t 17))])
  .ret))
theorem ac100 {args : List V} {s : H} {Q : V → H → Prop} (hn : args.length ≤ 18) (h : wpS Tryz.prog sc100 (bodyQ [.t 0] Q) (initT args) (fun _ => (0, [])) s) : AC Tryz.prog 100 args s Q :=
  ac_of_wpS [] Tryz.func100 rfl (by kernel_rfl) (by kernel_rfl) (by kernel_rfl) hn h

/-- tapestry/copies.Values -/
def sc101 : SC :=
  (.seq (.reg [.pf 2 (.mv (.k (.sl [] [] true none)))])
  (.seq (.reg [.pf 3 (.mv (.t 0)),
    .call (some 4) 139 [(.t 3), (.k (.fn (.func 81) [] []))],
    .pf 2 (.mv (.t 4))])
  .ret))
theorem ac101 {args : List V} {s : H} {Q : V → H → Prop} (hn : args.length ≤ 5) (h : wpS Tryz.prog sc101 (bodyQ [.t 2] Q) (initT args) (fun _ => (0, [])) s) : AC Tryz.prog 101 args s Q :=
  ac_of_wpS [] Tryz.func101 rfl (by kernel_rfl) (by kernel_rfl) (by kernel_rfl) hn h

/-- tapestry/copies.Fields -/
def sc102 : SC :=
  (.seq (.reg [.pf 2 (.mv (.k (.sl [] [] true none)))])
  (.seq (.reg [.pf 3 (.mv (.t 0)),
    .call (some 4) 140 [(.t 3), (.k (.fn (.func 141) [] []))],
    .pf 2 (.mv (.t 4))])
  .ret))
theorem ac102 {args : List V} {s : H} {Q : V → H → Prop} (hn : args.length ≤ 5) (h : wpS Tryz.prog sc102 (bodyQ [.t 2] Q) (initT args) (fun _ => (0, [])) s) : AC Tryz.prog 102 args s Q :=
  ac_of_wpS [] Tryz.func102 rfl (by kernel_rfl) (by kernel_rfl) (by kernel_rfl) hn h

/-- tapestry/value.each$1 -/
def sc103 : SC :=
  (.seq (.reg [.boxl 4 8 (.t 0),
    .pf 6 (.mv (.k (.bool false)))])
  (.seq (.seq (.reg [.pf 11 (.ld false (.t 2) 1 false),
    .pf 12 (.ld true (.t 4) 8 true),
    .pf 13 (.mv (.t 1)),
    .callv (some 14) (.t 11) [(.t 12), (.t 13)],
    .pf 15 (.not (.t 14))])
  (.cond (.t 15)
    (.seq (.reg [.pf 6 (.mv (.k (.bool false)))])
    .ret)
    .skip))
  (.seq (.seq (.reg [.pf 16 (.fa (.t 4) 3),
    .pf 17 (.ld true (.t 16) 1 false),
    .pf 18 (.len false (.t 17)),
    .pf 19 (.mv (.k (.int .i64 0)))])
  (.block 0
    (.loop
      (.seq (.reg [.pf 20 (.bin .lss (.t 19) (.t 18))])
      (.seq (.cond (.t 20)
        .skip
        (.exit 0))
      (.seq (.block 1
        (.seq (.reg [.pf 21 (.ia (.t 17) (.t 19) 8),
          .pf 22 (.ld false (.t 21) 8 true),
          .boxl 8 8 (.k (.agg [(.int .u8 0), (.int .i64 0), (.str []), (.sl [] [] true none), (.sl [] [] true none), (.int .u8 0), (.str []), (.bool false)])),
          .st true (.t 8) (.t 22) 8])
        (.seq (.reg [.pf 23 (.ld false (.t 3) 1 false),
          .pf 24 (.ld true (.t 8) 8 true),
          .pf 25 (.mv (.t 1)),
          .pf 26 (.bin .add (.t 25) (.k (.int .i64 1))),
          .callv (some 27) (.t 23) [(.t 24), (.t 26)],
          .pf 28 (.not (.t 27))])
        (.cond (.t 28)
          (.seq (.reg [.pf 6 (.mv (.k (.bool false)))])
          .ret)
          .skip))))
      (.reg [.pf 29 (.bin .add (.t 19) (.k (.int .i64 1))),
        .pf 19 (.mv (.t 29))])))))))
  (.seq (.seq (.reg [.pf 30 (.fa (.t 4) 4),
    .pf 31 (.ld true (.t 30) 1 false),
    .pf 32 (.len false (.t 31)),
    .pf 33 (.mv (.k (.int .i64 0)))])
  (.block 2
    (.loop
      (.seq (.reg [.pf 34 (.bin .lss (.t 33) (.t 32))])
      (.seq (.cond (.t 34)
        .skip
        (.exit 2))
      (.seq (.block 3
        (.seq (.reg [.pf 35 (.ia (.t 31) (.t 33) 9),
          .pf 36 (.ld false (.t 35) 9 true),
          .boxl 10 9 (.k (.agg [(.str []), (.int .u8 0), (.int .i64 0), (.str []), (.sl [] [] true none), (.sl [] [] true none), (.int .u8 0), (.str []), (.bool false)])),
          .st true (.t 10) (.t 36) 9])
        (.seq (.reg [.pf 37 (.ld false (.t 3) 1 false),
          .pf 38 (.fa (.t 10) 1),
          .pf 39 (.ld true (.t 38) 8 true),
          .pf 40 (.mv (.t 1)),
          .pf 41 (.bin .add (.t 40) (.k (.int .i64 1))),
          .callv (some 42) (.t 37) [(.t 39), (.t 41)],
          .pf 43 (.not (.t 42))])
        (.cond (.t 43)
          (.seq (.reg [.pf 6 (.mv (.k (.bool false)))])
          .ret)
          .skip))))
      (.reg [.pf 44 (.bin .add (.t 33) (.k (.int .i64 1))),
        .pf 33 (.mv (.t 44))])))))))
  (.seq (.reg [.pf 6 (.mv (.k (.bool true)))])
  .ret)))))
theorem ac103 {args : List V} {s : H} {Q : V → H → Prop} (hn : args.length ≤ 45) (h : wpS Tryz.prog sc103 (bodyQ [.t 6] Q) (initT args) (fun _ => (0, [])) s) : AC Tryz.prog 103 args s Q :=
  ac_of_wpS [4, 8, 10, 16, 30, 38] Tryz.func103 rfl (by kernel_rfl) (by kernel_rfl) (by kernel_rfl) hn h

/-- tapestry/value.name -/
def sc104 : SC :=
  (.seq (.reg [.pf 2 (.mv (.k (.bool false)))])
  (.seq (.reg [.pf 3 (.mv (.t 0)),
    .pf 4 (.bin .neq (.t 3) (.k (.str []))),
    .pf 5 (.mv (.t 4)),
    .gd 5 true [.pf 6 (.mv (.t 0))],
    .gd 5 true [.pf 7 (.len true (.t 6))],
    .gd 5 true [.pf 8 (.bin .leq (.t 7) (.k (.int .i64 4096)))],
    .pf 9 (.pick (.t 5) (.t 8) (.k (.bool false))),
    .pf 2 (.mv (.t 9))])
  .ret))
theorem ac104 {args : List V} {s : H} {Q : V → H → Prop} (hn : args.length ≤ 10) (h : wpS Tryz.prog sc104 (bodyQ [.t 2] Q) (initT args) (fun _ => (0, [])) s) : AC Tryz.prog 104 args s Q :=
  ac_of_wpS [] Tryz.func104 rfl (by kernel_rfl) (by kernel_rfl) (by kernel_rfl) hn h

/-- tapestry/value.elem -/
def sc105 : SC :=
  (.seq (.reg [.boxl 1 8 (.t 0),
    .pf 2 (.mv (.k (.bool false)))])
  (.seq (.seq (.reg [.pf 5 (.fa (.t 1) 1),
    .pf 6 (.ld true (.t 5) 1 false),
    .pf 7 (.bin .neq (.t 6) (.k (.int .i64 0))),
    .pf 8 (.mv (.t 7)),
    .gd 8 false [.pf 9 (.fa (.t 1) 5)],
    .gd 8 false [.pf 10 (.ld true (.t 9) 1 false)],
    .gd 8 false [.pf 11 (.bin .leq (.t 10) (.k (.int .u8 0)))],
    .pf 12 (.pick (.t 8) (.k (.bool true)) (.t 11)),
    .pf 13 (.mv (.t 12)),
    .gd 13 false [.pf 14 (.fa (.t 1) 5)],
    .gd 13 false [.pf 15 (.ld true (.t 14) 1 false)],
    .gd 13 false [.pf 16 (.bin .geq (.t 15) (.k (.int .u8 9)))],
    .pf 17 (.pick (.t 13) (.k (.bool true)) (.t 16)),
    .pf 18 (.mv (.t 17)),
    .gd 18 false [.pf 19 (.fa (.t 1) 6)],
    .gd 18 false [.pf 20 (.ld true (.t 19) 1 false)],
    .gd 18 false [.pf 21 (.len true (.t 20))],
    .gd 18 false [.pf 22 (.bin .gtr (.t 21) (.k (.int .i64 4096)))],
    .pf 23 (.pick (.t 18) (.k (.bool true)) (.t 22)),
    .pf 24 (.mv (.t 23)),
    .gd 24 false [.pf 25 (.fa (.t 1) 7)],
    .gd 24 false [.pf 26 (.ld true (.t 25) 1 false)],
    .gd 24 false [.pf 27 (.not (.t 26))],
    .gd 24 false [.pf 28 (.mv (.t 27))],
    .gd 28 true [.pf 29 (.fa (.t 1) 6)],
    .gd 28 true [.pf 30 (.ld true (.t 29) 1 false)],
    .gd 28 true [.pf 31 (.bin .neq (.t 30) (.k (.str [])))],
    .gd 24 false [.pf 32 (.pick (.t 28) (.t 31) (.k (.bool false)))],
    .pf 33 (.pick (.t 24) (.k (.bool true)) (.t 32))])
  (.cond (.t 33)
    (.seq (.reg [.pf 2 (.mv (.k (.bool false)))])
    .ret)
    .skip))
  (.seq (.seq (.reg [.pf 35 (.fa (.t 1) 5),
    .pf 36 (.ld true (.t 35) 1 false),
    .call (some 37) 142 [(.t 36)],
    .pf 34 (.mv (.t 37)),
    .pf 38 (.ext (.t 34) 0),
    .pf 39 (.ext (.t 34) 1),
    .pf 3 (.mv (.t 38)),
    .pf 4 (.mv (.t 39))])
  (.seq (.reg [.pf 40 (.mv (.t 4)),
    .pf 41 (.mv (.t 40)),
    .gd 41 true [.pf 42 (.fa (.t 1) 4)],
    .gd 41 true [.pf 43 (.ld true (.t 42) 1 false)],
    .gd 41 true [.pf 44 (.mv (.t 3))],
    .gd 41 true [.call (some 45) 143 [(.t 43), (.t 44), (.k (.fn (.func 144) [] []))]],
    .gd 41 true [.pf 46 (.not (.t 45))],
    .pf 47 (.pick (.t 41) (.t 46) (.k (.bool false)))])
  (.cond (.t 47)
    (.seq (.reg [.pf 2 (.mv (.k (.bool false)))])
    .ret)
    .skip)))
  (.seq (.seq (.reg [.pf 48 (.fa (.t 1) 5),
    .pf 49 (.ld true (.t 48) 1 false)])
  (.block 0
    (.seq (.seq (.reg [.pf 51 (.bin .eql (.t 49) (.k (.int .u8 4))),
      .pf 50 (.mv (.t 51))])
    (.cond (.t 50)
      .skip
      (.seq (.reg [.pf 52 (.bin .eql (.t 49) (.k (.int .u8 7))),
        .pf 50 (.mv (.t 52))])
      (.cond (.t 50)
        .skip
        (.reg [.pf 53 (.bin .eql (.t 49) (.k (.int .u8 8))),
          .pf 50 (.mv (.t 53))])))))
    (.cond (.t 50)
      (.seq (.reg [.pf 54 (.fa (.t 1) 2),
        .pf 55 (.ld true (.t 54) 1 false),
        .pf 56 (.bin .eql (.t 55) (.k (.str []))),
        .pf 2 (.mv (.t 56))])
      .ret)
      .skip))))
  (.seq (.reg [.pf 57 (.fa (.t 1) 2),
    .pf 58 (.ld true (.t 57) 1 false),
    .call (some 59) 104 [(.t 58)],
    .pf 2 (.mv (.t 59))])
  .ret)))))
theorem ac105 {args : List V} {s : H} {Q : V → H → Prop} (hn : args.length ≤ 60) (h : wpS Tryz.prog sc105 (bodyQ [.t 2] Q) (initT args) (fun _ => (0, [])) s) : AC Tryz.prog 105 args s Q :=
  ac_of_wpS [1, 5, 9, 14, 19, 25, 29, 35, 42, 48, 54, 57] Tryz.func105 rfl (by kernel_rfl) (by kernel_rfl) (by kernel_rfl) hn h

/-- tapestry/value.alone$1 -/
def sc106 : SC :=
  (.seq (.reg [.pf 3 (.mv (.k (.bool false)))])
  (.seq (.reg [.pf 4 (.mv (.t 0)),
    .pf 5 (.fa (.t 1) 0),
    .pf 6 (.ld false (.t 5) 1 false),
    .call (some 7) 107 [(.t 4), (.t 6)],
    .pf 3 (.mv (.t 7))])
  .ret))
theorem ac106 {args : List V} {s : H} {Q : V → H → Prop} (hn : args.length ≤ 8) (h : wpS Tryz.prog sc106 (bodyQ [.t 3] Q) (initT args) (fun _ => (0, [])) s) : AC Tryz.prog 106 args s Q :=
  ac_of_wpS [] Tryz.func106 rfl (by kernel_rfl) (by kernel_rfl) (by kernel_rfl) hn h

/-- slices.Contains[[]tapestry/api.Kind,tapestry/api.Kind] -/
def sc107 : SC :=
  (.seq (.reg [.pf 4 (.mv (.k (.bool false)))])
  (.seq (.reg [.pf 5 (.mv (.t 0)),
    .pf 6 (.mv (.t 1)),
    .call (some 7) 145 [(.t 5), (.t 6)],
    .pf 8 (.bin .geq (.t 7) (.k (.int .i64 0))),
    .pf 4 (.mv (.t 8))])
  .ret))
theorem ac107 {args : List V} {s : H} {Q : V → H → Prop} (hn : args.length ≤ 9) (h : wpS Tryz.prog sc107 (bodyQ [.t 4] Q) (initT args) (fun _ => (0, [])) s) : AC Tryz.prog 107 args s Q :=
  ac_of_wpS [] Tryz.func107 rfl (by kernel_rfl) (by kernel_rfl) (by kernel_rfl) hn h

/-- slices.Clone[[]tapestry/api.Value,tapestry/api.Value] -/
def sc108 : SC :=
  (.seq (.reg [.pf 2 (.mv (.k (.sl [] [] true none)))])
  (.seq (.seq (.reg [.pf 3 (.mv (.t 0)),
    .nils false 4 (.t 3)])
  (.cond (.t 4)
    (.seq (.reg [.pf 2 (.mv (.k (.sl [] [] true none)))])
    .ret)
    .skip))
  (.seq (.reg [.bsl0 5,
    .pf 6 (.mv (.t 0)),
    .apph 7 8 (.t 5) (.t 6),
    .pf 2 (.mv (.t 7))])
  .ret)))
theorem ac108 {args : List V} {s : H} {Q : V → H → Prop} (hn : args.length ≤ 8) (h : wpS Tryz.prog sc108 (bodyQ [.t 2] Q) (initT args) (fun _ => (0, [])) s) : AC Tryz.prog 108 args s Q :=
  ac_of_wpS [1000007] Tryz.func108 rfl (by kernel_rfl) (by kernel_rfl) (by kernel_rfl) hn h

/-- slices.Clip[[]tapestry/api.Value,tapestry/api.Value] -/
def sc109 : SC :=
  (.seq (.reg [.pf 2 (.mv (.k (.sl [] [] true none)))])
  (.seq (.reg [.pf 3 (.mv (.t 0)),
    .pf 4 (.mv (.t 0)),
    .pf 5 (.len false (.t 4)),
    .pf 6 (.mv (.t 0)),
    .pf 7 (.len false (.t 6)),
    .pf 8 (.slc false (.t 3) none (some (.t 5)) (some (.t 7)) 8),
    .pf 2 (.mv (.t 8))])
  .ret))
theorem ac109 {args : List V} {s : H} {Q : V → H → Prop} (hn : args.length ≤ 9) (h : wpS Tryz.prog sc109 (bodyQ [.t 2] Q) (initT args) (fun _ => (0, [])) s) : AC Tryz.prog 109 args s Q :=
  ac_of_wpS [] Tryz.func109 rfl (by kernel_rfl) (by kernel_rfl) (by kernel_rfl) hn h

/-- slices.Clone[[]tapestry/api.Field,tapestry/api.Field] -/
def sc110 : SC :=
  (.seq (.reg [.pf 2 (.mv (.k (.sl [] [] true none)))])
  (.seq (.seq (.reg [.pf 3 (.mv (.t 0)),
    .nils false 4 (.t 3)])
  (.cond (.t 4)
    (.seq (.reg [.pf 2 (.mv (.k (.sl [] [] true none)))])
    .ret)
    .skip))
  (.seq (.reg [.bsl0 5,
    .pf 6 (.mv (.t 0)),
    .apph 7 9 (.t 5) (.t 6),
    .pf 2 (.mv (.t 7))])
  .ret)))
theorem ac110 {args : List V} {s : H} {Q : V → H → Prop} (hn : args.length ≤ 8) (h : wpS Tryz.prog sc110 (bodyQ [.t 2] Q) (initT args) (fun _ => (0, [])) s) : AC Tryz.prog 110 args s Q :=
  ac_of_wpS [1000007] Tryz.func110 rfl (by kernel_rfl) (by kernel_rfl) (by kernel_rfl) hn h

/-- slices.pdqsortCmpFunc[tapestry/api.Field] -/
def sc111 : SC :=
  (.seq (.reg [.pf 10 (.mv (.k (.bool true)))])
  (.seq (.reg [.pf 11 (.mv (.k (.bool true)))])
  (.block 0
    (.loop
      (.block 1
        (.seq (.reg [.pf 21 (.mv (.t 2)),
          .pf 22 (.mv (.t 1)),
          .pf 23 (.bin .sub (.t 21) (.t 22)),
          .pf 12 (.mv (.t 23))])
        (.seq (.seq (.reg [.pf 24 (.mv (.t 12)),
          .pf 25 (.bin .leq (.t 24) (.k (.int .i64 12)))])
        (.cond (.t 25)
          (.seq (.reg [.pf 26 (.mv (.t 0)),
            .pf 27 (.mv (.t 1)),
            .pf 28 (.mv (.t 2)),
            .pf 29 (.mv (.t 4)),
            .call (some 30) 146 [(.t 26), (.t 27), (.t 28), (.t 29)]])
          .ret)
          .skip))
        (.seq (.seq (.reg [.pf 31 (.mv (.t 3)),
          .pf 32 (.bin .eql (.t 31) (.k (.int .i64 0)))])
        (.cond (.t 32)
          (.seq (.reg [.pf 33 (.mv (.t 0)),
            .pf 34 (.mv (.t 1)),
            .pf 35 (.mv (.t 2)),
            .pf 36 (.mv (.t 4)),
            .call (some 37) 147 [(.t 33), (.t 34), (.t 35), (.t 36)]])
          .ret)
          .skip))
        (.seq (.seq (.reg [.pf 38 (.mv (.t 10)),
          .pf 39 (.not (.t 38))])
        (.cond (.t 39)
          (.seq (.reg [.pf 40 (.mv (.t 0)),
            .pf 41 (.mv (.t 1)),
            .pf 42 (.mv (.t 2)),
            .pf 43 (.mv (.t 4)),
            .call (some 44) 148 [(.t 40), (.t 41), (.t 42), (.t 43)]])
          (.reg [.pf 45 (.mv (.t 3)),
            .pf 46 (.bin .sub (.t 45) (.k (.int .i64 1))),
            .pf 3 (.mv (.t 46))]))
          .skip))
        (.seq (.reg [.pf 48 (.mv (.t 0)),
          .pf 49 (.mv (.t 1)),
          .pf 50 (.mv (.t 2)),
          .pf 51 (.mv (.t 4)),
          .call (some 52) 149 [(.t 48), (.t 49), (.t 50), (.t 51)],
          .pf 47 (.mv (.t 52)),
          .pf 53 (.ext (.t 47) 0),
          .pf 54 (.ext (.t 47) 1),
          .pf 13 (.mv (.t 53)),
          .pf 14 (.mv (.t 54))])
        (.seq (.seq (.reg [.pf 55 (.mv (.t 14)),
          .pf 56 (.bin .eql (.t 55) (.k (.int .i64 2)))])
        (.cond (.t 56)
          (.seq (.reg [.pf 57 (.mv (.t 0)),
            .pf 58 (.mv (.t 1)),
            .pf 59 (.mv (.t 2)),
            .pf 60 (.mv (.t 4)),
            .call (some 61) 150 [(.t 57), (.t 58), (.t 59), (.t 60)]])
          (.seq (.reg [.pf 62 (.mv (.t 2)),
            .pf 63 (.bin .sub (.t 62) (.k (.int .i64 1))),
            .pf 64 (.mv (.t 13)),
            .pf 65 (.mv (.t 1)),
            .pf 66 (.bin .sub (.t 64) (.t 65)),
            .pf 67 (.bin .sub (.t 63) (.t 66)),
            .pf 13 (.mv (.t 67))])
          (.reg [.pf 14 (.mv (.k (.int .i64 1)))])))
          .skip))
        (.seq (.seq (.reg [.pf 68 (.mv (.t 10)),
          .pf 69 (.mv (.t 68)),
          .gd 69 true [.pf 70 (.mv (.t 11))],
          .pf 71 (.pick (.t 69) (.t 70) (.k (.bool false))),
          .pf 72 (.mv (.t 71)),
          .gd 72 true [.pf 73 (.mv (.t 14))],
          .gd 72 true [.pf 74 (.bin .eql (.t 73) (.k (.int .i64 1)))],
          .pf 75 (.pick (.t 72) (.t 74) (.k (.bool false)))])
        (.cond (.t 75)
          (.seq (.reg [.pf 76 (.mv (.t 0)),
            .pf 77 (.mv (.t 1)),
            .pf 78 (.mv (.t 2)),
            .pf 79 (.mv (.t 4)),
            .call (some 80) 151 [(.t 76), (.t 77), (.t 78), (.t 79)]])
          (.cond (.t 80)
            .ret
            .skip))
          .skip))
        (.seq (.seq (.reg [.p 81 (.mv (.t 1)),
          .p 82 (.bin .gtr (.t 81) (.k (.int .i64 0))),
          .p 83 (.mv (.t 82)),
          .gd 83 true [.p 84 (.mv (.t 4))],
          .gd 83 true [.p 85 (.mv (.t 0))],
          .gd 83 true [.p 86 (.mv (.t 1))],
          .gd 83 true [.p 87 (.bin .sub (.t 86) (.k (.int .i64 1)))],
          .gd 83 true [.p 88 (.ia (.t 85) (.t 87) 9)],
          .gd 83 true [.p 89 (.ld false (.t 88) 9 true)],
          .gd 83 true [.p 90 (.mv (.t 0))],
          .gd 83 true [.p 91 (.mv (.t 13))],
          .gd 83 true [.p 92 (.ia (.t 90) (.t 91) 9)],
          .gd 83 true [.p 93 (.ld false (.t 92) 9 true)],
          .gd 83 true [.callv (some 94) (.t 84) [(.t 89), (.t 93)]],
          .gd 83 true [.p 95 (.bin .lss (.t 94) (.k (.int .i64 0)))],
          .gd 83 true [.p 96 (.not (.t 95))],
          .p 97 (.pick (.t 83) (.t 96) (.k (.bool false)))])
        (.cond (.t 97)
          (.seq (.reg [.pf 98 (.mv (.t 0)),
            .pf 99 (.mv (.t 1)),
            .pf 100 (.mv (.t 2)),
            .pf 101 (.mv (.t 13)),
            .pf 102 (.mv (.t 4)),
            .call (some 103) 152 [(.t 98), (.t 99), (.t 100), (.t 101), (.t 102)],
            .pf 15 (.mv (.t 103))])
          (.seq (.reg [.pf 104 (.mv (.t 15)),
            .pf 1 (.mv (.t 104))])
          (.exit 1)))
          .skip))
        (.seq (.reg [.pf 106 (.mv (.t 0)),
          .pf 107 (.mv (.t 1)),
          .pf 108 (.mv (.t 2)),
          .pf 109 (.mv (.t 13)),
          .pf 110 (.mv (.t 4)),
          .call (some 111) 153 [(.t 106), (.t 107), (.t 108), (.t 109), (.t 110)],
          .pf 105 (.mv (.t 111)),
          .pf 112 (.ext (.t 105) 0),
          .pf 113 (.ext (.t 105) 1),
          .pf 16 (.mv (.t 112)),
          .pf 17 (.mv (.t 113))])
        (.seq (.reg [.pf 114 (.mv (.t 17)),
          .pf 11 (.mv (.t 114))])
        (.seq (.reg [.pf 115 (.mv (.t 16)),
          .pf 116 (.mv (.t 1)),
          .pf 117 (.bin .sub (.t 115) (.t 116)),
          .pf 118 (.mv (.t 2)),
          .pf 119 (.mv (.t 16)),
          .pf 120 (.bin .sub (.t 118) (.t 119)),
          .pf 18 (.mv (.t 117)),
          .pf 19 (.mv (.t 120))])
        (.seq (.reg [.pf 121 (.mv (.t 12)),
          .pf 122 (.bin .quo (.t 121) (.k (.int .i64 8))),
          .pf 20 (.mv (.t 122))])
        (.seq (.reg [.pf 123 (.mv (.t 18)),
          .pf 124 (.mv (.t 19)),
          .pf 125 (.bin .lss (.t 123) (.t 124))])
        (.cond (.t 125)
          (.seq (.reg [.pf 126 (.mv (.t 18)),
            .pf 127 (.mv (.t 20)),
            .pf 128 (.bin .geq (.t 126) (.t 127)),
            .pf 10 (.mv (.t 128))])
          (.seq (.reg [.pf 129 (.mv (.t 0)),
            .pf 130 (.mv (.t 1)),
            .pf 131 (.mv (.t 16)),
            .pf 132 (.mv (.t 3)),
            .pf 133 (.mv (.t 4)),
            .call (some 134) 111 [(.t 129), (.t 130), (.t 131), (.t 132), (.t 133)]])
          (.reg [.pf 135 (.mv (.t 16)),
            .pf 136 (.bin .add (.t 135) (.k (.int .i64 1))),
            .pf 1 (.mv (.t 136))])))
          (.seq (.reg [.pf 137 (.mv (.t 19)),
            .pf 138 (.mv (.t 20)),
            .pf 139 (.bin .geq (.t 137) (.t 138)),
            .pf 10 (.mv (.t 139))])
          (.seq (.reg [.pf 140 (.mv (.t 0)),
            .pf 141 (.mv (.t 16)),
            .pf 142 (.bin .add (.t 141) (.k (.int .i64 1))),
            .pf 143 (.mv (.t 2)),
            .pf 144 (.mv (.t 3)),
            .pf 145 (.mv (.t 4)),
            .call (some 146) 111 [(.t 140), (.t 142), (.t 143), (.t 144), (.t 145)]])
          (.reg [.pf 147 (.mv (.t 16)),
            .pf 2 (.mv (.t 147))]))))))))))))))))))))))
theorem ac111 {args : List V} {s : H} {Q : V → H → Prop} (hn : args.length ≤ 148) (h : wpS Tryz.prog sc111 (bodyQ [] Q) (initT args) (fun _ => (0, [])) s) : AC Tryz.prog 111 args s Q :=
  ac_of_wpS [] Tryz.func111 rfl (by kernel_rfl) (by kernel_rfl) (by kernel_rfl) hn h

/-- math/bits.Len -/
def sc112 : SC :=
  (.seq (.reg [.pf 2 (.mv (.k (.int .i64 0)))])
  (.seq (.cond (.k (.bool false))
    (.seq (.reg [.pf 3 (.mv (.t 0)),
      .pf 4 (.cvi .u32 (.t 3)),
      .call (some 5) 154 [(.t 4)],
      .pf 2 (.mv (.t 5))])
    .ret)
    .skip)
  (.seq (.reg [.pf 6 (.mv (.t 0)),
    .call (some 7) 155 [(.t 6)],
    .pf 2 (.mv (.t 7))])
  .ret)))
theorem ac112 {args : List V} {s : H} {Q : V → H → Prop} (hn : args.length ≤ 8) (h : wpS Tryz.prog sc112 (bodyQ [.t 2] Q) (initT args) (fun _ => (0, [])) s) : AC Tryz.prog 112 args s Q :=
  ac_of_wpS [] Tryz.func112 rfl (by kernel_rfl) (by kernel_rfl) (by kernel_rfl) hn h

/-- internal/bytealg.CompareString -/
def sc113 : SC :=
  (.seq (.reg [.pf 4 (.mv (.k (.int .i64 0)))])
  (.seq (.reg [.pf 5 (.mv (.t 0)),
    .pf 6 (.mv (.t 1)),
    .call (some 7) 156 [(.t 5), (.t 6)],
    .pf 4 (.mv (.t 7))])
  .ret))
theorem ac113 {args : List V} {s : H} {Q : V → H → Prop} (hn : args.length ≤ 8) (h : wpS Tryz.prog sc113 (bodyQ [.t 4] Q) (initT args) (fun _ => (0, [])) s) : AC Tryz.prog 113 args s Q :=
  ac_of_wpS [] Tryz.func113 rfl (by kernel_rfl) (by kernel_rfl) (by kernel_rfl) hn h

-- 114 (*strings.Builder).copyCheck: not covered
-- 115 (*strings.Builder).grow: not covered
/-- internal/strconv.small -/
def sc116 : SC :=
  (.seq (.reg [.pf 2 (.mv (.k (.str [])))])
  (.seq (.seq (.reg [.pf 3 (.mv (.t 0)),
    .pf 4 (.bin .lss (.t 3) (.k (.int .i64 10)))])
  (.cond (.t 4)
    (.seq (.reg [.pf 5 (.mv (.t 0)),
      .pf 6 (.mv (.t 0)),
      .pf 7 (.bin .add (.t 6) (.k (.int .i64 1))),
      .pf 8 (.slc true (.k (.str [48, 49, 50, 51, 52, 53, 54, 55, 56, 57, 97, 98, 99, 100, 101, 102, 103, 104, 105, 106, 107, 108, 109, 110, 111, 112, 113, 114, 115, 116, 117, 118, 119, 120, 121, 122])) (some (.t 5)) (some (.t 7)) none 0),
      .pf 2 (.mv (.t 8))])
    .ret)
    .skip))
  (.seq (.reg [.pf 9 (.mv (.t 0)),
    .pf 10 (.bin .mul (.t 9) (.k (.int .i64 2))),
    .pf 11 (.mv (.t 0)),
    .pf 12 (.bin .mul (.t 11) (.k (.int .i64 2))),
    .pf 13 (.bin .add (.t 12) (.k (.int .i64 2))),
    .pf 14 (.slc true (.k (.str [48, 48, 48, 49, 48, 50, 48, 51, 48, 52, 48, 53, 48, 54, 48, 55, 48, 56, 48, 57, 49, 48, 49, 49, 49, 50, 49, 51, 49, 52, 49, 53, 49, 54, 49, 55, 49, 56, 49, 57, 50, 48, 50, 49, 50, 50, 50, 51, 50, 52, 50, 53, 50, 54, 50, 55, 50, 56, 50, 57, 51, 48, 51, 49, 51, 50, 51, 51, 51, 52, 51, 53, 51, 54, 51, 55, 51, 56, 51, 57, 52, 48, 52, 49, 52, 50, 52, 51, 52, 52, 52, 53, 52, 54, 52, 55, 52, 56, 52, 57, 53, 48, 53, 49, 53, 50, 53, 51, 53, 52, 53, 53, 53, 54, 53, 55, 53, 56, 53, 57, 54, 48, 54, 49, 54, 50, 54, 51, 54, 52, 54, 53, 54, 54, 54, 55, 54, 56, 54, 57, 55, 48, 55, 49, 55, 50, 55, 51, 55, 52, 55, 53, 55, 54, 55, 55, 55, 56, 55, 57, 56, 48, 56, 49, 56, 50, 56, 51, 56, 52, 56, 53, 56, 54, 56, 55, 56, 56, 56, 57, 57, 48, 57, 49, 57, 50, 57, 51, 57, 52, 57, 53, 57, 54, 57, 55, 57, 56, 57, 57])) (some (.t 10)) (some (.t 13)) none 0),
    .pf 2 (.mv (.t 14))])
  .ret)))
theorem ac116 {args : List V} {s : H} {Q : V → H → Prop} (hn : args.length ≤ 15) (h : wpS Tryz.prog sc116 (bodyQ [.t 2] Q) (initT args) (fun _ => (0, [])) s) : AC Tryz.prog 116 args s Q :=
  ac_of_wpS [] Tryz.func116 rfl (by kernel_rfl) (by kernel_rfl) (by kernel_rfl) hn h

/-- internal/strconv.numDigits -/
def sc117 : SC :=
  (.seq (.reg [.pf 2 (.mv (.k (.int .i64 0)))])
  (.seq (.reg [.pf 4 (.mv (.t 0)),
    .call (some 5) 155 [(.t 4)],
    .call (some 6) 159 [(.t 5)],
    .pf 3 (.mv (.t 6))])
  (.seq (.reg [.pf 7 (.mv (.t 3)),
    .pf 8 (.mv (.t 0)),
    .pf 9 (.mv (.t 3)),
    .pf 10 (.iaa (.k (.ptr 1 0)) (.t 9) 20 1),
    .pf 11 (.ld false (.t 10) 1 false),
    .pf 12 (.bin .geq (.t 8) (.t 11)),
    .call (some 13) 160 [(.t 12)],
    .pf 14 (.bin .add (.t 7) (.t 13)),
    .pf 2 (.mv (.t 14))])
  .ret)))
theorem ac117 {args : List V} {s : H} {Q : V → H → Prop} (hn : args.length ≤ 15) (h : wpS Tryz.prog sc117 (bodyQ [.t 2] Q) (initT args) (fun _ => (0, [])) s) : AC Tryz.prog 117 args s Q :=
  ac_of_wpS [] Tryz.func117 rfl (by kernel_rfl) (by kernel_rfl) (by kernel_rfl) hn h

-- 118 internal/strconv.formatBase10: not covered
-- 119 internal/strconv.formatBits: not covered
/-- slices.Backward[[]tapestry/api.Field,tapestry/api.Field]$1 -/
def sc120 : SC :=
  (.seq (.reg [.pf 4 (.ld false (.t 1) 1 false),
    .pf 5 (.len false (.t 4)),
    .pf 6 (.bin .sub (.t 5) (.k (.int .i64 1))),
    .pf 3 (.mv (.t 6))])
  (.block 0
    (.loop
      (.seq (.seq (.reg [.pf 7 (.mv (.t 3)),
        .pf 8 (.bin .geq (.t 7) (.k (.int .i64 0)))])
      (.cond (.t 8)
        .skip
        (.exit 0)))
      (.seq (.block 1
        (.seq (.reg [.pf 11 (.mv (.t 0)),
          .pf 12 (.mv (.t 3)),
          .pf 13 (.ld false (.t 1) 1 false),
          .pf 14 (.mv (.t 3)),
          .pf 15 (.ia (.t 13) (.t 14) 9),
          .pf 16 (.ld false (.t 15) 9 true),
          .callv (some 17) (.t 11) [(.t 12), (.t 16)],
          .pf 18 (.not (.t 17))])
        (.cond (.t 18)
          .ret
          .skip)))
      (.reg [.pf 9 (.mv (.t 3)),
        .pf 10 (.bin .sub (.t 9) (.k (.int .i64 1))),
        .pf 3 (.mv (.t 10))]))))))
theorem ac120 {args : List V} {s : H} {Q : V → H → Prop} (hn : args.length ≤ 19) (h : wpS Tryz.prog sc120 (bodyQ [] Q) (initT args) (fun _ => (0, [])) s) : AC Tryz.prog 120 args s Q :=
  ac_of_wpS [] Tryz.func120 rfl (by kernel_rfl) (by kernel_rfl) (by kernel_rfl) hn h

/-- slices.IndexFunc[[]tapestry/api.Field,tapestry/api.Field] -/
def sc121 : SC :=
  (.seq (.reg [.pf 4 (.mv (.k (.int .i64 0)))])
  (.seq (.seq (.reg [.pf 6 (.mv (.t 0)),
    .pf 7 (.len false (.t 6)),
    .pf 8 (.mv (.k (.int .i64 0)))])
  (.block 0
    (.loop
      (.seq (.reg [.pf 9 (.bin .lss (.t 8) (.t 7))])
      (.seq (.cond (.t 9)
        .skip
        (.exit 0))
      (.seq (.block 1
        (.seq (.reg [.pf 10 (.mv (.t 8)),
          .pf 5 (.mv (.t 10))])
        (.seq (.reg [.pf 11 (.mv (.t 1)),
          .pf 12 (.mv (.t 0)),
          .pf 13 (.mv (.t 5)),
          .pf 14 (.ia (.t 12) (.t 13) 9),
          .pf 15 (.ld false (.t 14) 9 true),
          .callv (some 16) (.t 11) [(.t 15)]])
        (.cond (.t 16)
          (.seq (.reg [.pf 17 (.mv (.t 5)),
            .pf 4 (.mv (.t 17))])
          .ret)
          .skip))))
      (.reg [.pf 18 (.bin .add (.t 8) (.k (.int .i64 1))),
        .pf 8 (.mv (.t 18))])))))))
  (.seq (.reg [.pf 4 (.mv (.k (.int .i64 (-1))))])
  .ret)))
theorem ac121 {args : List V} {s : H} {Q : V → H → Prop} (hn : args.length ≤ 19) (h : wpS Tryz.prog sc121 (bodyQ [.t 4] Q) (initT args) (fun _ => (0, [])) s) : AC Tryz.prog 121 args s Q :=
  ac_of_wpS [] Tryz.func121 rfl (by kernel_rfl) (by kernel_rfl) (by kernel_rfl) hn h

/-- tapestry/oper.numbers -/
def sc122 : SC :=
  (.seq (.reg [.boxh 1 1 (.t 0),
    .pf 2 (.mv (.k .nilfn))])
  (.seq (.reg [.pf 3 (.mkfn 163 [] [(.t 1)]),
    .pf 2 (.mv (.t 3))])
  .ret))
theorem ac122 {args : List V} {s : H} {Q : V → H → Prop} (hn : args.length ≤ 4) (h : wpS Tryz.prog sc122 (bodyQ [.t 2] Q) (initT args) (fun _ => (0, [])) s) : AC Tryz.prog 122 args s Q :=
  ac_of_wpS [] Tryz.func122 rfl (by kernel_rfl) (by kernel_rfl) (by kernel_rfl) hn h

/-- tapestry/oper.rows$1 -/
def sc123 : SC :=
  (.seq (.reg [.pf 4 (.mv (.k (.int .i64 0)))])
  (.seq (.reg [.pf 5 (.mv (.t 0)),
    .pf 6 (.mv (.t 1)),
    .pf 7 (.bin .add (.t 5) (.t 6)),
    .pf 4 (.mv (.t 7))])
  .ret))
theorem ac123 {args : List V} {s : H} {Q : V → H → Prop} (hn : args.length ≤ 8) (h : wpS Tryz.prog sc123 (bodyQ [.t 4] Q) (initT args) (fun _ => (0, [])) s) : AC Tryz.prog 123 args s Q :=
  ac_of_wpS [] Tryz.func123 rfl (by kernel_rfl) (by kernel_rfl) (by kernel_rfl) hn h

/-- tapestry/oper.at -/
def sc124 : SC :=
  (.seq (.reg [.boxl 2 8 (.k (.agg [(.int .u8 0), (.int .i64 0), (.str []), (.sl [] [] true none), (.sl [] [] true none), (.int .u8 0), (.str []), (.bool false)])),
    .pf 3 (.mv (.k (.bool false)))])
  (.seq (.seq (.reg [.pf 5 (.mv (.t 0)),
    .bsl 6 2 1 [(.int .u8 0)] [(0, (.k (.int .u8 4))), (1, (.k (.int .u8 1)))],
    .call (some 7) 135 [(.t 5), (.t 6)],
    .pf 8 (.not (.t 7))])
  (.cond (.t 8)
    (.seq (.reg [.pf 9 (.ld true (.t 2) 8 true),
      .st true (.t 2) (.t 9) 8,
      .pf 3 (.mv (.k (.bool false)))])
    .ret)
    .skip))
  (.seq (.seq (.reg [.pf 10 (.mv (.t 0)),
    .pf 11 (.ia (.t 10) (.k (.int .i64 1)) 8),
    .pf 12 (.fa (.t 11) 1),
    .pf 13 (.ld false (.t 12) 1 false),
    .pf 4 (.mv (.t 13))])
  (.seq (.reg [.pf 14 (.mv (.t 4)),
    .pf 15 (.bin .geq (.t 14) (.k (.int .i64 0))),
    .pf 16 (.mv (.t 15)),
    .gd 16 true [.pf 17 (.mv (.t 4))],
    .gd 16 true [.pf 18 (.mv (.t 0))],
    .gd 16 true [.pf 19 (.ia (.t 18) (.k (.int .i64 0)) 8)],
    .gd 16 true [.pf 20 (.fa (.t 19) 3)],
    .gd 16 true [.pf 21 (.ld false (.t 20) 1 false)],
    .gd 16 true [.pf 22 (.len false (.t 21))],
    .gd 16 true [.pf 23 (.bin .lss (.t 17) (.t 22))],
    .pf 24 (.pick (.t 16) (.t 23) (.k (.bool false)))])
  (.cond (.t 24)
    (.reg [.pf 25 (.mv (.t 0)),
      .pf 26 (.ia (.t 25) (.k (.int .i64 0)) 8),
      .pf 27 (.fa (.t 26) 3),
      .pf 28 (.ld false (.t 27) 1 false),
      .pf 29 (.mv (.t 4)),
      .pf 30 (.ia (.t 28) (.t 29) 8),
      .pf 31 (.ld false (.t 30) 8 true),
      .st true (.t 2) (.t 31) 8])
    .skip)))
  (.seq (.reg [.pf 32 (.ld true (.t 2) 8 true),
    .st true (.t 2) (.t 32) 8,
    .pf 3 (.mv (.k (.bool true)))])
  .ret))))
theorem ac124 {args : List V} {s : H} {Q : V → H → Prop} (hn : args.length ≤ 33) (h : wpS Tryz.prog sc124 (bodyQ [.c 2 8 true, .t 3] Q) (initT args) (fun _ => (0, [])) s) : AC Tryz.prog 124 args s Q :=
  ac_of_wpS [2] Tryz.func124 rfl (by kernel_rfl) (by kernel_rfl) (by kernel_rfl) hn h

/-- tapestry/oper.cat -/
def sc125 : SC :=
  (.seq (.reg [.boxl 2 8 (.k (.agg [(.int .u8 0), (.int .i64 0), (.str []), (.sl [] [] true none), (.sl [] [] true none), (.int .u8 0), (.str []), (.bool false)])),
    .pf 3 (.mv (.k (.bool false)))])
  (.seq (.reg [.boxh 4 2 (.k (.agg [.nilp, (.sl [] [] true none)]))])
  (.seq (.seq (.reg [.pf 7 (.mv (.t 0)),
    .pf 8 (.len false (.t 7)),
    .pf 9 (.mv (.k (.int .i64 0)))])
  (.block 0
    (.loop
      (.seq (.reg [.pf 10 (.bin .lss (.t 9) (.t 8))])
      (.seq (.cond (.t 10)
        .skip
        (.exit 0))
      (.seq (.block 1
        (.seq (.reg [.pf 11 (.ia (.t 7) (.t 9) 8),
          .pf 12 (.ld false (.t 11) 8 true),
          .boxl 6 8 (.k (.agg [(.int .u8 0), (.int .i64 0), (.str []), (.sl [] [] true none), (.sl [] [] true none), (.int .u8 0), (.str []), (.bool false)])),
          .st true (.t 6) (.t 12) 8])
        (.seq (.reg [.pf 13 (.fa (.t 6) 0),
          .pf 14 (.ld true (.t 13) 1 false)])
        (.block 2
          (.seq (.reg [.pf 17 (.bin .eql (.t 14) (.k (.int .u8 3))),
            .pf 16 (.mv (.t 17))])
          (.cond (.t 16)
            (.reg [.pf 18 (.fa (.t 6) 2),
              .pf 19 (.ld true (.t 18) 1 false),
              .call (some 20) 92 [(.t 4), (.t 19)]])
            (.seq (.reg [.pf 22 (.bin .eql (.t 14) (.k (.int .u8 1))),
              .pf 21 (.mv (.t 22))])
            (.cond (.t 21)
              (.reg [.pf 23 (.fa (.t 6) 1),
                .pf 24 (.ld true (.t 23) 1 false),
                .call (some 25) 76 [(.t 24), (.k (.int .i64 10))],
                .call (some 26) 92 [(.t 4), (.t 25)]])
              (.seq (.reg [.pf 15 (.build [(.int .u8 0), (.int .i64 0), (.str []), (.sl [] [] true none), (.sl [] [] true none), (.int .u8 0), (.str []), (.bool false)] []),
                .st true (.t 2) (.t 15) 8,
                .pf 3 (.mv (.k (.bool false)))])
              .ret)))))))))
      (.reg [.pf 27 (.bin .add (.t 9) (.k (.int .i64 1))),
        .pf 9 (.mv (.t 27))])))))))
  (.seq (.reg [.call (some 28) 93 [(.t 4)],
    .pf 29 (.build [(.int .u8 0), (.int .i64 0), (.str []), (.sl [] [] true none), (.sl [] [] true none), (.int .u8 0), (.str []), (.bool false)] [(0, 1, (.k (.int .u8 3))), (2, 1, (.t 28))]),
    .st true (.t 2) (.t 29) 8,
    .pf 3 (.mv (.k (.bool true)))])
  .ret))))
theorem ac125 {args : List V} {s : H} {Q : V → H → Prop} (hn : args.length ≤ 30) (h : wpS Tryz.prog sc125 (bodyQ [.c 2 8 true, .t 3] Q) (initT args) (fun _ => (0, [])) s) : AC Tryz.prog 125 args s Q :=
  ac_of_wpS [2, 6, 13, 18, 23] Tryz.func125 rfl (by kernel_rfl) (by kernel_rfl) (by kernel_rfl) hn h

/-- tapestry/oper.rows$2 -/
def sc126 : SC :=
  (.seq (.reg [.boxl 2 8 (.k (.agg [(.int .u8 0), (.int .i64 0), (.str []), (.sl [] [] true none), (.sl [] [] true none), (.int .u8 0), (.str []), (.bool false)])),
    .pf 3 (.mv (.k (.bool false)))])
  (.seq (.reg [.p 4 (.mv (.t 0)),
    .p 5 (.ia (.t 4) (.k (.int .i64 0)) 8),
    .p 6 (.ld false (.t 5) 8 true),
    .p 7 (.mv (.t 0)),
    .p 8 (.ia (.t 7) (.k (.int .i64 1)) 8),
    .p 9 (.ld false (.t 8) 8 true),
    .call (some 10) 128 [(.t 6), (.t 9)],
    .call (some 11) 127 [(.t 10)],
    .st true (.t 2) (.t 11) 8,
    .p 3 (.mv (.k (.bool true)))])
  .ret))
theorem ac126 {args : List V} {s : H} {Q : V → H → Prop} (hn : args.length ≤ 12) (h : wpS Tryz.prog sc126 (bodyQ [.c 2 8 true, .t 3] Q) (initT args) (fun _ => (0, [])) s) : AC Tryz.prog 126 args s Q :=
  ac_of_wpS [2] Tryz.func126 rfl (by kernel_rfl) (by kernel_rfl) (by kernel_rfl) hn h

/-- tapestry/oper.boolean -/
def sc127 : SC :=
  (.seq (.reg [.boxl 2 8 (.k (.agg [(.int .u8 0), (.int .i64 0), (.str []), (.sl [] [] true none), (.sl [] [] true none), (.int .u8 0), (.str []), (.bool false)]))])
  (.seq (.reg [.pf 4 (.build [(.int .u8 0), (.int .i64 0), (.str []), (.sl [] [] true none), (.sl [] [] true none), (.int .u8 0), (.str []), (.bool false)] [(0, 1, (.k (.int .u8 2)))]),
    .boxl 3 8 (.k (.agg [(.int .u8 0), (.int .i64 0), (.str []), (.sl [] [] true none), (.sl [] [] true none), (.int .u8 0), (.str []), (.bool false)])),
    .st true (.t 3) (.t 4) 8])
  (.seq (.seq (.reg [.pf 5 (.mv (.t 0))])
  (.cond (.t 5)
    (.reg [.pf 6 (.fa (.t 3) 1),
      .st true (.t 6) (.k (.int .i64 1)) 1])
    .skip))
  (.seq (.reg [.pf 7 (.ld true (.t 3) 8 true),
    .st true (.t 2) (.t 7) 8])
  .ret))))
theorem ac127 {args : List V} {s : H} {Q : V → H → Prop} (hn : args.length ≤ 8) (h : wpS Tryz.prog sc127 (bodyQ [.c 2 8 true] Q) (initT args) (fun _ => (0, [])) s) : AC Tryz.prog 127 args s Q :=
  ac_of_wpS [2, 3, 6] Tryz.func127 rfl (by kernel_rfl) (by kernel_rfl) (by kernel_rfl) hn h

/-- tapestry/value.Same -/
def sc128 : SC :=
  (.seq (.reg [.boxl 2 8 (.t 0),
    .boxl 3 8 (.t 1),
    .pf 4 (.mv (.k (.bool false)))])
  (.seq (.reg [.pf 5 (.fa (.t 2) 0),
    .pf 6 (.ld true (.t 5) 1 false),
    .pf 7 (.fa (.t 3) 0),
    .pf 8 (.ld true (.t 7) 1 false),
    .pf 9 (.bin .eql (.t 6) (.t 8)),
    .pf 10 (.mv (.t 9)),
    .gd 10 true [.pf 11 (.fa (.t 2) 1)],
    .gd 10 true [.pf 12 (.ld true (.t 11) 1 false)],
    .gd 10 true [.pf 13 (.fa (.t 3) 1)],
    .gd 10 true [.pf 14 (.ld true (.t 13) 1 false)],
    .gd 10 true [.pf 15 (.bin .eql (.t 12) (.t 14))],
    .pf 16 (.pick (.t 10) (.t 15) (.k (.bool false))),
    .pf 17 (.mv (.t 16)),
    .gd 17 true [.pf 18 (.fa (.t 2) 2)],
    .gd 17 true [.pf 19 (.ld true (.t 18) 1 false)],
    .gd 17 true [.pf 20 (.fa (.t 3) 2)],
    .gd 17 true [.pf 21 (.ld true (.t 20) 1 false)],
    .gd 17 true [.pf 22 (.bin .eql (.t 19) (.t 21))],
    .pf 23 (.pick (.t 17) (.t 22) (.k (.bool false))),
    .pf 24 (.mv (.t 23)),
    .gd 24 true [.pf 25 (.fa (.t 2) 5)],
    .gd 24 true [.pf 26 (.ld true (.t 25) 1 false)],
    .gd 24 true [.pf 27 (.fa (.t 3) 5)],
    .gd 24 true [.pf 28 (.ld true (.t 27) 1 false)],
    .gd 24 true [.pf 29 (.bin .eql (.t 26) (.t 28))],
    .pf 30 (.pick (.t 24) (.t 29) (.k (.bool false))),
    .pf 31 (.mv (.t 30)),
    .gd 31 true [.pf 32 (.fa (.t 2) 6)],
    .gd 31 true [.pf 33 (.ld true (.t 32) 1 false)],
    .gd 31 true [.pf 34 (.fa (.t 3) 6)],
    .gd 31 true [.pf 35 (.ld true (.t 34) 1 false)],
    .gd 31 true [.pf 36 (.bin .eql (.t 33) (.t 35))],
    .pf 37 (.pick (.t 31) (.t 36) (.k (.bool false))),
    .pf 38 (.mv (.t 37)),
    .gd 38 true [.pf 39 (.fa (.t 2) 7)],
    .gd 38 true [.pf 40 (.ld true (.t 39) 1 false)],
    .gd 38 true [.pf 41 (.fa (.t 3) 7)],
    .gd 38 true [.pf 42 (.ld true (.t 41) 1 false)],
    .gd 38 true [.pf 43 (.eqb false (.t 40) (.t 42))],
    .pf 44 (.pick (.t 38) (.t 43) (.k (.bool false))),
    .pf 45 (.mv (.t 44)),
    .gd 45 true [.pf 46 (.fa (.t 2) 3)],
    .gd 45 true [.pf 47 (.ld true (.t 46) 1 false)],
    .gd 45 true [.pf 48 (.fa (.t 3) 3)],
    .gd 45 true [.pf 49 (.ld true (.t 48) 1 false)],
    .gd 45 true [.call (some 50) 165 [(.t 47), (.t 49), (.k (.fn (.func 128) [] []))]],
    .pf 51 (.pick (.t 45) (.t 50) (.k (.bool false))),
    .pf 52 (.mv (.t 51)),
    .gd 52 true [.pf 53 (.fa (.t 2) 4)],
    .gd 52 true [.pf 54 (.ld true (.t 53) 1 false)],
    .gd 52 true [.pf 55 (.fa (.t 3) 4)],
    .gd 52 true [.pf 56 (.ld true (.t 55) 1 false)],
    .gd 52 true [.call (some 57) 166 [(.t 54), (.t 56)]],
    .pf 58 (.pick (.t 52) (.t 57) (.k (.bool false))),
    .pf 4 (.mv (.t 58))])
  .ret))
theorem ac128 {args : List V} {s : H} {Q : V → H → Prop} (hn : args.length ≤ 59) (h : wpS Tryz.prog sc128 (bodyQ [.t 4] Q) (initT args) (fun _ => (0, [])) s) : AC Tryz.prog 128 args s Q :=
  ac_of_wpS [2, 3, 5, 7, 11, 13, 18, 20, 25, 27, 32, 34, 39, 41, 46, 48, 53, 55] Tryz.func128 rfl (by kernel_rfl) (by kernel_rfl) (by kernel_rfl) hn h

/-- tapestry/oper.get -/
def sc129 : SC :=
  (.seq (.reg [.boxl 2 8 (.k (.agg [(.int .u8 0), (.int .i64 0), (.str []), (.sl [] [] true none), (.sl [] [] true none), (.int .u8 0), (.str []), (.bool false)])),
    .pf 3 (.mv (.k (.bool false)))])
  (.seq (.seq (.reg [.pf 6 (.mv (.t 0)),
    .bsl 7 2 1 [(.int .u8 0)] [(0, (.k (.int .u8 5))), (1, (.k (.int .u8 3)))],
    .call (some 8) 135 [(.t 6), (.t 7)],
    .pf 9 (.not (.t 8))])
  (.cond (.t 9)
    (.seq (.reg [.pf 10 (.ld true (.t 2) 8 true),
      .st true (.t 2) (.t 10) 8,
      .pf 3 (.mv (.k (.bool false)))])
    .ret)
    .skip))
  (.seq (.seq (.reg [.pf 11 (.mv (.t 0)),
    .pf 12 (.ia (.t 11) (.k (.int .i64 0)) 8),
    .pf 13 (.fa (.t 12) 4),
    .pf 14 (.ld false (.t 13) 1 false),
    .pf 15 (.len false (.t 14)),
    .pf 16 (.mv (.k (.int .i64 0)))])
  (.block 0
    (.loop
      (.seq (.reg [.pf 17 (.bin .lss (.t 16) (.t 15))])
      (.seq (.cond (.t 17)
        .skip
        (.exit 0))
      (.seq (.block 1
        (.seq (.reg [.pf 18 (.ia (.t 14) (.t 16) 9),
          .pf 19 (.ld false (.t 18) 9 true),
          .boxl 5 9 (.k (.agg [(.str []), (.int .u8 0), (.int .i64 0), (.str []), (.sl [] [] true none), (.sl [] [] true none), (.int .u8 0), (.str []), (.bool false)])),
          .st true (.t 5) (.t 19) 9])
        (.seq (.reg [.p 20 (.fa (.t 5) 0),
          .p 21 (.ld true (.t 20) 1 false),
          .p 22 (.mv (.t 0)),
          .p 23 (.ia (.t 22) (.k (.int .i64 1)) 8),
          .p 24 (.fa (.t 23) 2),
          .p 25 (.ld false (.t 24) 1 false),
          .p 26 (.bin .eql (.t 21) (.t 25))])
        (.cond (.t 26)
          (.reg [.pf 27 (.fa (.t 5) 1),
            .pf 28 (.ld true (.t 27) 8 true),
            .st true (.t 2) (.t 28) 8])
          .skip))))
      (.reg [.pf 29 (.bin .add (.t 16) (.k (.int .i64 1))),
        .pf 16 (.mv (.t 29))])))))))
  (.seq (.reg [.pf 30 (.ld true (.t 2) 8 true),
    .st true (.t 2) (.t 30) 8,
    .pf 3 (.mv (.k (.bool true)))])
  .ret))))
theorem ac129 {args : List V} {s : H} {Q : V → H → Prop} (hn : args.length ≤ 31) (h : wpS Tryz.prog sc129 (bodyQ [.c 2 8 true, .t 3] Q) (initT args) (fun _ => (0, [])) s) : AC Tryz.prog 129 args s Q :=
  ac_of_wpS [2, 5, 20, 27] Tryz.func129 rfl (by kernel_rfl) (by kernel_rfl) (by kernel_rfl) hn h

/-- tapestry/oper.length -/
def sc130 : SC :=
  (.seq (.reg [.boxl 2 8 (.k (.agg [(.int .u8 0), (.int .i64 0), (.str []), (.sl [] [] true none), (.sl [] [] true none), (.int .u8 0), (.str []), (.bool false)])),
    .pf 3 (.mv (.k (.bool false)))])
  (.seq (.seq (.reg [.pf 5 (.mv (.t 0)),
    .pf 6 (.ia (.t 5) (.k (.int .i64 0)) 8),
    .pf 7 (.ld false (.t 6) 8 true),
    .boxl 4 8 (.k (.agg [(.int .u8 0), (.int .i64 0), (.str []), (.sl [] [] true none), (.sl [] [] true none), (.int .u8 0), (.str []), (.bool false)])),
    .st true (.t 4) (.t 7) 8])
  (.seq (.reg [.pf 8 (.fa (.t 4) 0),
    .pf 9 (.ld true (.t 8) 1 false)])
  (.block 0
    (.seq (.reg [.pf 11 (.bin .eql (.t 9) (.k (.int .u8 3))),
      .pf 10 (.mv (.t 11))])
    (.cond (.t 10)
      (.seq (.reg [.pf 12 (.fa (.t 4) 2),
        .pf 13 (.ld true (.t 12) 1 false),
        .pf 14 (.len true (.t 13)),
        .call (some 15) 164 [(.t 14)],
        .st true (.t 2) (.t 15) 8,
        .pf 3 (.mv (.k (.bool true)))])
      .ret)
      (.seq (.reg [.pf 17 (.bin .eql (.t 9) (.k (.int .u8 4))),
        .pf 16 (.mv (.t 17))])
      (.cond (.t 16)
        (.seq (.reg [.pf 18 (.fa (.t 4) 3),
          .pf 19 (.ld true (.t 18) 1 false),
          .pf 20 (.len false (.t 19)),
          .call (some 21) 164 [(.t 20)],
          .st true (.t 2) (.t 21) 8,
          .pf 3 (.mv (.k (.bool true)))])
        .ret)
        .skip)))))))
  (.seq (.reg [.pf 22 (.build [(.int .u8 0), (.int .i64 0), (.str []), (.sl [] [] true none), (.sl [] [] true none), (.int .u8 0), (.str []), (.bool false)] []),
    .st true (.t 2) (.t 22) 8,
    .pf 3 (.mv (.k (.bool false)))])
  .ret)))
theorem ac130 {args : List V} {s : H} {Q : V → H → Prop} (hn : args.length ≤ 23) (h : wpS Tryz.prog sc130 (bodyQ [.c 2 8 true, .t 3] Q) (initT args) (fun _ => (0, [])) s) : AC Tryz.prog 130 args s Q :=
  ac_of_wpS [2, 4, 8, 12, 18] Tryz.func130 rfl (by kernel_rfl) (by kernel_rfl) (by kernel_rfl) hn h

/-- tapestry/oper.rows$3 -/
def sc131 : SC :=
  (.seq (.reg [.boxl 2 8 (.k (.agg [(.int .u8 0), (.int .i64 0), (.str []), (.sl [] [] true none), (.sl [] [] true none), (.int .u8 0), (.str []), (.bool false)])),
    .pf 3 (.mv (.k (.bool false)))])
  (.seq (.reg [.pf 4 (.mv (.t 0)),
    .pf 5 (.build [(.int .u8 0), (.int .i64 0), (.str []), (.sl [] [] true none), (.sl [] [] true none), (.int .u8 0), (.str []), (.bool false)] [(0, 1, (.k (.int .u8 4))), (3, 1, (.t 4))]),
    .st true (.t 2) (.t 5) 8,
    .pf 3 (.mv (.k (.bool true)))])
  .ret))
theorem ac131 {args : List V} {s : H} {Q : V → H → Prop} (hn : args.length ≤ 6) (h : wpS Tryz.prog sc131 (bodyQ [.c 2 8 true, .t 3] Q) (initT args) (fun _ => (0, [])) s) : AC Tryz.prog 131 args s Q :=
  ac_of_wpS [2] Tryz.func131 rfl (by kernel_rfl) (by kernel_rfl) (by kernel_rfl) hn h

/-- tapestry/oper.less -/
def sc132 : SC :=
  (.seq (.reg [.boxl 2 8 (.k (.agg [(.int .u8 0), (.int .i64 0), (.str []), (.sl [] [] true none), (.sl [] [] true none), (.int .u8 0), (.str []), (.bool false)])),
    .pf 3 (.mv (.k (.bool false)))])
  (.seq (.block 0
    (.seq (.reg [.pf 5 (.mv (.t 0)),
      .bsl 6 2 1 [(.int .u8 0)] [(0, (.k (.int .u8 1))), (1, (.k (.int .u8 1)))],
      .call (some 7) 135 [(.t 5), (.t 6)],
      .pf 4 (.mv (.t 7))])
    (.cond (.t 4)
      (.seq (.reg [.p 8 (.mv (.t 0)),
        .p 9 (.ia (.t 8) (.k (.int .i64 0)) 8),
        .p 10 (.fa (.t 9) 1),
        .p 11 (.ld false (.t 10) 1 false),
        .p 12 (.mv (.t 0)),
        .p 13 (.ia (.t 12) (.k (.int .i64 1)) 8),
        .p 14 (.fa (.t 13) 1),
        .p 15 (.ld false (.t 14) 1 false),
        .p 16 (.bin .lss (.t 11) (.t 15)),
        .call (some 17) 127 [(.t 16)],
        .st true (.t 2) (.t 17) 8,
        .p 3 (.mv (.k (.bool true)))])
      .ret)
      (.seq (.reg [.pf 19 (.mv (.t 0)),
        .bsl 20 2 1 [(.int .u8 0)] [(0, (.k (.int .u8 3))), (1, (.k (.int .u8 3)))],
        .call (some 21) 135 [(.t 19), (.t 20)],
        .pf 18 (.mv (.t 21))])
      (.cond (.t 18)
        (.seq (.reg [.p 22 (.mv (.t 0)),
          .p 23 (.ia (.t 22) (.k (.int .i64 0)) 8),
          .p 24 (.fa (.t 23) 2),
          .p 25 (.ld false (.t 24) 1 false),
          .p 26 (.mv (.t 0)),
          .p 27 (.ia (.t 26) (.k (.int .i64 1)) 8),
          .p 28 (.fa (.t 27) 2),
          .p 29 (.ld false (.t 28) 1 false),
          .p 30 (.bin .lss (.t 25) (.t 29)),
          .call (some 31) 127 [(.t 30)],
          .st true (.t 2) (.t 31) 8,
          .p 3 (.mv (.k (.bool true)))])
        .ret)
        .skip)))))
  (.seq (.reg [.pf 32 (.build [(.int .u8 0), (.int .i64 0), (.str []), (.sl [] [] true none), (.sl [] [] true none), (.int .u8 0), (.str []), (.bool false)] []),
    .st true (.t 2) (.t 32) 8,
    .pf 3 (.mv (.k (.bool false)))])
  .ret)))
theorem ac132 {args : List V} {s : H} {Q : V → H → Prop} (hn : args.length ≤ 33) (h : wpS Tryz.prog sc132 (bodyQ [.c 2 8 true, .t 3] Q) (initT args) (fun _ => (0, [])) s) : AC Tryz.prog 132 args s Q :=
  ac_of_wpS [2] Tryz.func132 rfl (by kernel_rfl) (by kernel_rfl) (by kernel_rfl) hn h

/-- tapestry/oper.rows$4 -/
def sc133 : SC :=
  (.seq (.reg [.pf 4 (.mv (.k (.int .i64 0)))])
  (.seq (.reg [.pf 5 (.mv (.t 0)),
    .pf 6 (.mv (.t 1)),
    .pf 7 (.bin .mul (.t 5) (.t 6)),
    .pf 4 (.mv (.t 7))])
  .ret))
theorem ac133 {args : List V} {s : H} {Q : V → H → Prop} (hn : args.length ≤ 8) (h : wpS Tryz.prog sc133 (bodyQ [.t 4] Q) (initT args) (fun _ => (0, [])) s) : AC Tryz.prog 133 args s Q :=
  ac_of_wpS [] Tryz.func133 rfl (by kernel_rfl) (by kernel_rfl) (by kernel_rfl) hn h

/-- tapestry/oper.rows$5 -/
def sc134 : SC :=
  (.seq (.reg [.boxl 2 8 (.k (.agg [(.int .u8 0), (.int .i64 0), (.str []), (.sl [] [] true none), (.sl [] [] true none), (.int .u8 0), (.str []), (.bool false)])),
    .pf 3 (.mv (.k (.bool false)))])
  (.seq (.reg [.pf 4 (.mv (.t 0)),
    .pf 5 (.ia (.t 4) (.k (.int .i64 0)) 8),
    .pf 6 (.fa (.t 5) 1),
    .pf 7 (.ld false (.t 6) 1 false),
    .pf 8 (.bin .eql (.t 7) (.k (.int .i64 0))),
    .call (some 9) 127 [(.t 8)],
    .pf 10 (.mv (.t 0)),
    .bsl 11 1 1 [(.int .u8 0)] [(0, (.k (.int .u8 2)))],
    .call (some 12) 135 [(.t 10), (.t 11)],
    .st true (.t 2) (.t 9) 8,
    .pf 3 (.mv (.t 12))])
  .ret))
theorem ac134 {args : List V} {s : H} {Q : V → H → Prop} (hn : args.length ≤ 13) (h : wpS Tryz.prog sc134 (bodyQ [.c 2 8 true, .t 3] Q) (initT args) (fun _ => (0, [])) s) : AC Tryz.prog 134 args s Q :=
  ac_of_wpS [2] Tryz.func134 rfl (by kernel_rfl) (by kernel_rfl) (by kernel_rfl) hn h

/-- tapestry/oper.are -/
def sc135 : SC :=
  (.seq (.reg [.pf 4 (.mv (.k (.bool false)))])
  (.seq (.reg [.pf 5 (.mv (.t 0)),
    .pf 6 (.mv (.t 1)),
    .call (some 7) 167 [(.t 5), (.t 6), (.k (.fn (.func 168) [] []))],
    .pf 4 (.mv (.t 7))])
  .ret))
theorem ac135 {args : List V} {s : H} {Q : V → H → Prop} (hn : args.length ≤ 8) (h : wpS Tryz.prog sc135 (bodyQ [.t 4] Q) (initT args) (fun _ => (0, [])) s) : AC Tryz.prog 135 args s Q :=
  ac_of_wpS [] Tryz.func135 rfl (by kernel_rfl) (by kernel_rfl) (by kernel_rfl) hn h

-- 136 tapestry/oper.push: not covered
/-- tapestry/oper.rows$6 -/
def sc137 : SC :=
  (.seq (.reg [.pf 4 (.mv (.k (.int .i64 0)))])
  (.seq (.reg [.pf 5 (.mv (.t 0)),
    .pf 6 (.mv (.t 1)),
    .pf 7 (.bin .sub (.t 5) (.t 6)),
    .pf 4 (.mv (.t 7))])
  .ret))
theorem ac137 {args : List V} {s : H} {Q : V → H → Prop} (hn : args.length ≤ 8) (h : wpS Tryz.prog sc137 (bodyQ [.t 4] Q) (initT args) (fun _ => (0, [])) s) : AC Tryz.prog 137 args s Q :=
  ac_of_wpS [] Tryz.func137 rfl (by kernel_rfl) (by kernel_rfl) (by kernel_rfl) hn h

-- 138 tapestry/oper.text: not covered
/-- tapestry/copies.each[tapestry/api.Value] -/
def sc139 : SC :=
  (.seq (.reg [.pf 4 (.mv (.k (.sl [] [] true none)))])
  (.seq (.reg [.pf 8 (.mv (.t 0)),
    .call (some 9) 108 [(.t 8)],
    .pf 5 (.mv (.t 9))])
  (.seq (.seq (.reg [.pf 10 (.mv (.t 5)),
    .pf 11 (.len false (.t 10)),
    .pf 12 (.mv (.k (.int .i64 0)))])
  (.block 0
    (.loop
      (.seq (.reg [.pf 13 (.bin .lss (.t 12) (.t 11))])
      (.seq (.cond (.t 13)
        .skip
        (.exit 0))
      (.seq (.block 1
        (.seq (.reg [.pf 14 (.mv (.t 12)),
          .pf 15 (.ia (.t 10) (.t 12) 8),
          .pf 16 (.ld false (.t 15) 8 true),
          .boxl 7 8 (.k (.agg [(.int .u8 0), (.int .i64 0), (.str []), (.sl [] [] true none), (.sl [] [] true none), (.int .u8 0), (.str []), (.bool false)])),
          .pf 6 (.mv (.t 14)),
          .st true (.t 7) (.t 16) 8])
        (.reg [.pf 17 (.mv (.t 5)),
          .pf 18 (.mv (.t 6)),
          .pf 19 (.mv (.t 1)),
          .pf 20 (.ld true (.t 7) 8 true),
          .callv (some 21) (.t 19) [(.t 20)],
          .pf 22 (.ia (.t 17) (.t 18) 8),
          .st false (.t 22) (.t 21) 8])))
      (.reg [.pf 23 (.bin .add (.t 12) (.k (.int .i64 1))),
        .pf 12 (.mv (.t 23))])))))))
  (.seq (.reg [.pf 24 (.mv (.t 5)),
    .pf 4 (.mv (.t 24))])
  .ret))))
theorem ac139 {args : List V} {s : H} {Q : V → H → Prop} (hn : args.length ≤ 25) (h : wpS Tryz.prog sc139 (bodyQ [.t 4] Q) (initT args) (fun _ => (0, [])) s) : AC Tryz.prog 139 args s Q :=
  ac_of_wpS [7] Tryz.func139 rfl (by kernel_rfl) (by kernel_rfl) (by kernel_rfl) hn h

/-- tapestry/copies.each[tapestry/api.Field] -/
def sc140 : SC :=
  (.seq (.reg [.pf 4 (.mv (.k (.sl [] [] true none)))])
  (.seq (.reg [.pf 8 (.mv (.t 0)),
    .call (some 9) 110 [(.t 8)],
    .pf 5 (.mv (.t 9))])
  (.seq (.seq (.reg [.pf 10 (.mv (.t 5)),
    .pf 11 (.len false (.t 10)),
    .pf 12 (.mv (.k (.int .i64 0)))])
  (.block 0
    (.loop
      (.seq (.reg [.pf 13 (.bin .lss (.t 12) (.t 11))])
      (.seq (.cond (.t 13)
        .skip
        (.exit 0))
      (.seq (.block 1
        (.seq (.reg [.pf 14 (.mv (.t 12)),
          .pf 15 (.ia (.t 10) (.t 12) 9),
          .pf 16 (.ld false (.t 15) 9 true),
          .boxl 7 9 (.k (.agg [(.str []), (.int .u8 0), (.int .i64 0), (.str []), (.sl [] [] true none), (.sl [] [] true none), (.int .u8 0), (.str []), (.bool false)])),
          .pf 6 (.mv (.t 14)),
          .st true (.t 7) (.t 16) 9])
        (.reg [.pf 17 (.mv (.t 5)),
          .pf 18 (.mv (.t 6)),
          .pf 19 (.mv (.t 1)),
          .pf 20 (.ld true (.t 7) 9 true),
          .callv (some 21) (.t 19) [(.t 20)],
          .pf 22 (.ia (.t 17) (.t 18) 9),
          .st false (.t 22) (.t 21) 9])))
      (.reg [.pf 23 (.bin .add (.t 12) (.k (.int .i64 1))),
        .pf 12 (.mv (.t 23))])))))))
  (.seq (.reg [.pf 24 (.mv (.t 5)),
    .pf 4 (.mv (.t 24))])
  .ret))))
theorem ac140 {args : List V} {s : H} {Q : V → H → Prop} (hn : args.length ≤ 25) (h : wpS Tryz.prog sc140 (bodyQ [.t 4] Q) (initT args) (fun _ => (0, [])) s) : AC Tryz.prog 140 args s Q :=
  ac_of_wpS [7] Tryz.func140 rfl (by kernel_rfl) (by kernel_rfl) (by kernel_rfl) hn h

/-- tapestry/copies.Fields$1 -/
def sc141 : SC :=
  (.seq (.reg [.boxl 1 9 (.t 0),
    .boxl 2 9 (.k (.agg [(.str []), (.int .u8 0), (.int .i64 0), (.str []), (.sl [] [] true none), (.sl [] [] true none), (.int .u8 0), (.str []), (.bool false)]))])
  (.seq (.reg [.p 3 (.fa (.t 1) 0),
    .p 4 (.ld true (.t 3) 1 false),
    .p 5 (.fa (.t 1) 1),
    .p 6 (.ld true (.t 5) 8 true),
    .call (some 7) 81 [(.t 6)],
    .p 8 (.build [(.str []), (.int .u8 0), (.int .i64 0), (.str []), (.sl [] [] true none), (.sl [] [] true none), (.int .u8 0), (.str []), (.bool false)] [(0, 1, (.t 4)), (1, 8, (.t 7))]),
    .st true (.t 2) (.t 8) 9])
  .ret))
theorem ac141 {args : List V} {s : H} {Q : V → H → Prop} (hn : args.length ≤ 9) (h : wpS Tryz.prog sc141 (bodyQ [.c 2 9 true] Q) (initT args) (fun _ => (0, [])) s) : AC Tryz.prog 141 args s Q :=
  ac_of_wpS [1, 2, 3, 5] Tryz.func141 rfl (by kernel_rfl) (by kernel_rfl) (by kernel_rfl) hn h

/-- tapestry/value.own -/
def sc142 : SC :=
  (.seq (.reg [.pf 2 (.mv (.k (.sl [] [] true none))),
    .pf 3 (.mv (.k (.bool false)))])
  (.seq (.seq (.reg [.pf 4 (.mv (.t 0))])
  (.block 0
    (.seq (.reg [.pf 6 (.bin .eql (.t 4) (.k (.int .u8 6))),
      .pf 5 (.mv (.t 6))])
    (.cond (.t 5)
      (.seq (.reg [.bsl 7 1 1 [(.str [])] [(0, (.k (.str [118, 97, 108, 117, 101])))],
        .pf 2 (.mv (.t 7)),
        .pf 3 (.mv (.k (.bool true)))])
      .ret)
      (.seq (.reg [.pf 9 (.bin .eql (.t 4) (.k (.int .u8 7))),
        .pf 8 (.mv (.t 9))])
      (.cond (.t 8)
        (.seq (.reg [.bsl 10 2 1 [(.str [])] [(0, (.k (.str [97, 103, 97, 105, 110]))), (1, (.k (.str [101, 108, 115, 101])))],
          .pf 2 (.mv (.t 10)),
          .pf 3 (.mv (.k (.bool true)))])
        .ret)
        (.seq (.reg [.pf 12 (.bin .eql (.t 4) (.k (.int .u8 8))),
          .pf 11 (.mv (.t 12))])
        (.cond (.t 11)
          (.seq (.reg [.bsl 13 1 1 [(.str [])] [(0, (.k (.str [101, 108, 115, 101])))],
            .pf 2 (.mv (.t 13)),
            .pf 3 (.mv (.k (.bool true)))])
          .ret)
          (.seq (.seq (.reg [.pf 15 (.bin .eql (.t 4) (.k (.int .u8 4))),
            .pf 14 (.mv (.t 15))])
          (.cond (.t 14)
            .skip
            (.reg [.pf 16 (.bin .eql (.t 4) (.k (.int .u8 5))),
              .pf 14 (.mv (.t 16))])))
          (.cond (.t 14)
            (.seq (.reg [.pf 2 (.mv (.k (.sl [] [] true none))),
              .pf 3 (.mv (.k (.bool true)))])
            .ret)
            .skip))))))))))
  (.seq (.reg [.pf 2 (.mv (.k (.sl [] [] true none))),
    .pf 3 (.mv (.k (.bool false)))])
  .ret)))
theorem ac142 {args : List V} {s : H} {Q : V → H → Prop} (hn : args.length ≤ 17) (h : wpS Tryz.prog sc142 (bodyQ [.t 2, .t 3] Q) (initT args) (fun _ => (0, [])) s) : AC Tryz.prog 142 args s Q :=
  ac_of_wpS [] Tryz.func142 rfl (by kernel_rfl) (by kernel_rfl) (by kernel_rfl) hn h

/-- slices.EqualFunc[[]tapestry/api.Field,[]string,tapestry/api.Field,string] -/
def sc143 : SC :=
  (.seq (.reg [.pf 6 (.mv (.k (.bool false)))])
  (.seq (.seq (.reg [.pf 10 (.mv (.t 0)),
    .pf 11 (.len false (.t 10)),
    .pf 12 (.mv (.t 1)),
    .pf 13 (.len false (.t 12)),
    .pf 14 (.bin .neq (.t 11) (.t 13))])
  (.cond (.t 14)
    (.seq (.reg [.pf 6 (.mv (.k (.bool false)))])
    .ret)
    .skip))
  (.seq (.seq (.reg [.pf 15 (.mv (.t 0)),
    .pf 16 (.len false (.t 15)),
    .pf 17 (.mv (.k (.int .i64 0)))])
  (.block 0
    (.loop
      (.seq (.reg [.pf 18 (.bin .lss (.t 17) (.t 16))])
      (.seq (.cond (.t 18)
        .skip
        (.exit 0))
      (.seq (.block 1
        (.seq (.reg [.pf 19 (.mv (.t 17)),
          .pf 20 (.ia (.t 15) (.t 17) 9),
          .pf 21 (.ld false (.t 20) 9 true),
          .boxl 8 9 (.k (.agg [(.str []), (.int .u8 0), (.int .i64 0), (.str []), (.sl [] [] true none), (.sl [] [] true none), (.int .u8 0), (.str []), (.bool false)])),
          .pf 7 (.mv (.t 19)),
          .st true (.t 8) (.t 21) 9])
        (.seq (.reg [.pf 22 (.mv (.t 1)),
          .pf 23 (.mv (.t 7)),
          .pf 24 (.ia (.t 22) (.t 23) 1),
          .pf 25 (.ld false (.t 24) 1 false),
          .pf 9 (.mv (.t 25))])
        (.seq (.reg [.pf 26 (.mv (.t 2)),
          .pf 27 (.ld true (.t 8) 9 true),
          .pf 28 (.mv (.t 9)),
          .callv (some 29) (.t 26) [(.t 27), (.t 28)],
          .pf 30 (.not (.t 29))])
        (.cond (.t 30)
          (.seq (.reg [.pf 6 (.mv (.k (.bool false)))])
          .ret)
          .skip)))))
      (.reg [.pf 31 (.bin .add (.t 17) (.k (.int .i64 1))),
        .pf 17 (.mv (.t 31))])))))))
  (.seq (.reg [.pf 6 (.mv (.k (.bool true)))])
  .ret))))
theorem ac143 {args : List V} {s : H} {Q : V → H → Prop} (hn : args.length ≤ 32) (h : wpS Tryz.prog sc143 (bodyQ [.t 6] Q) (initT args) (fun _ => (0, [])) s) : AC Tryz.prog 143 args s Q :=
  ac_of_wpS [8] Tryz.func143 rfl (by kernel_rfl) (by kernel_rfl) (by kernel_rfl) hn h

/-- tapestry/value.elem$1 -/
def sc144 : SC :=
  (.seq (.reg [.boxl 2 9 (.t 0),
    .pf 4 (.mv (.k (.bool false)))])
  (.seq (.reg [.pf 5 (.fa (.t 2) 0),
    .pf 6 (.ld true (.t 5) 1 false),
    .pf 7 (.mv (.t 1)),
    .pf 8 (.bin .eql (.t 6) (.t 7)),
    .pf 4 (.mv (.t 8))])
  .ret))
theorem ac144 {args : List V} {s : H} {Q : V → H → Prop} (hn : args.length ≤ 9) (h : wpS Tryz.prog sc144 (bodyQ [.t 4] Q) (initT args) (fun _ => (0, [])) s) : AC Tryz.prog 144 args s Q :=
  ac_of_wpS [2, 5] Tryz.func144 rfl (by kernel_rfl) (by kernel_rfl) (by kernel_rfl) hn h

/-- slices.Index[[]tapestry/api.Kind,tapestry/api.Kind] -/
def sc145 : SC :=
  (.seq (.reg [.pf 4 (.mv (.k (.int .i64 0)))])
  (.seq (.seq (.reg [.pf 6 (.mv (.t 0)),
    .pf 7 (.len false (.t 6)),
    .pf 8 (.mv (.k (.int .i64 0)))])
  (.block 0
    (.loop
      (.seq (.reg [.pf 9 (.bin .lss (.t 8) (.t 7))])
      (.seq (.cond (.t 9)
        .skip
        (.exit 0))
      (.seq (.block 1
        (.seq (.reg [.pf 10 (.mv (.t 8)),
          .pf 5 (.mv (.t 10))])
        (.seq (.reg [.pf 11 (.mv (.t 1)),
          .pf 12 (.mv (.t 0)),
          .pf 13 (.mv (.t 5)),
          .pf 14 (.ia (.t 12) (.t 13) 1),
          .pf 15 (.ld false (.t 14) 1 false),
          .pf 16 (.bin .eql (.t 11) (.t 15))])
        (.cond (.t 16)
          (.seq (.reg [.pf 17 (.mv (.t 5)),
            .pf 4 (.mv (.t 17))])
          .ret)
          .skip))))
      (.reg [.pf 18 (.bin .add (.t 8) (.k (.int .i64 1))),
        .pf 8 (.mv (.t 18))])))))))
  (.seq (.reg [.pf 4 (.mv (.k (.int .i64 (-1))))])
  .ret)))
theorem ac145 {args : List V} {s : H} {Q : V → H → Prop} (hn : args.length ≤ 19) (h : wpS Tryz.prog sc145 (bodyQ [.t 4] Q) (initT args) (fun _ => (0, [])) s) : AC Tryz.prog 145 args s Q :=
  ac_of_wpS [] Tryz.func145 rfl (by kernel_rfl) (by kernel_rfl) (by kernel_rfl) hn h

-- 146 slices.insertionSortCmpFunc[tapestry/api.Field]: not covered
-- 147 slices.heapSortCmpFunc[tapestry/api.Field]: not covered
-- 148 slices.breakPatternsCmpFunc[tapestry/api.Field]: not covered
/-- slices.choosePivotCmpFunc[tapestry/api.Field] -/
def sc149 : SC :=
  (.seq (.reg [.pf 8 (.mv (.k (.int .i64 0))),
    .pf 9 (.mv (.k (.int .i64 0)))])
  (.seq (.reg [.pf 15 (.mv (.t 2)),
    .pf 16 (.mv (.t 1)),
    .pf 17 (.bin .sub (.t 15) (.t 16)),
    .pf 10 (.mv (.t 17))])
  (.seq (.reg [.boxh 11 1 (.k (.int .i64 0))])
  (.seq (.reg [.pf 18 (.mv (.t 1)),
    .pf 19 (.mv (.t 10)),
    .pf 20 (.bin .quo (.t 19) (.k (.int .i64 4))),
    .pf 21 (.bin .mul (.t 20) (.k (.int .i64 1))),
    .pf 22 (.bin .add (.t 18) (.t 21)),
    .pf 12 (.mv (.t 22))])
  (.seq (.reg [.pf 23 (.mv (.t 1)),
    .pf 24 (.mv (.t 10)),
    .pf 25 (.bin .quo (.t 24) (.k (.int .i64 4))),
    .pf 26 (.bin .mul (.t 25) (.k (.int .i64 2))),
    .pf 27 (.bin .add (.t 23) (.t 26)),
    .pf 13 (.mv (.t 27))])
  (.seq (.reg [.pf 28 (.mv (.t 1)),
    .pf 29 (.mv (.t 10)),
    .pf 30 (.bin .quo (.t 29) (.k (.int .i64 4))),
    .pf 31 (.bin .mul (.t 30) (.k (.int .i64 3))),
    .pf 32 (.bin .add (.t 28) (.t 31)),
    .pf 14 (.mv (.t 32))])
  (.seq (.seq (.reg [.pf 33 (.mv (.t 10)),
    .pf 34 (.bin .geq (.t 33) (.k (.int .i64 8)))])
  (.cond (.t 34)
    (.seq (.seq (.reg [.pf 35 (.mv (.t 10)),
      .pf 36 (.bin .geq (.t 35) (.k (.int .i64 50)))])
    (.cond (.t 36)
      (.seq (.reg [.pf 37 (.mv (.t 0)),
        .pf 38 (.mv (.t 12)),
        .pf 39 (.mv (.t 3)),
        .call (some 40) 174 [(.t 37), (.t 38), (.t 11), (.t 39)],
        .pf 12 (.mv (.t 40))])
      (.seq (.reg [.pf 41 (.mv (.t 0)),
        .pf 42 (.mv (.t 13)),
        .pf 43 (.mv (.t 3)),
        .call (some 44) 174 [(.t 41), (.t 42), (.t 11), (.t 43)],
        .pf 13 (.mv (.t 44))])
      (.reg [.pf 45 (.mv (.t 0)),
        .pf 46 (.mv (.t 14)),
        .pf 47 (.mv (.t 3)),
        .call (some 48) 174 [(.t 45), (.t 46), (.t 11), (.t 47)],
        .pf 14 (.mv (.t 48))])))
      .skip))
    (.reg [.pf 49 (.mv (.t 0)),
      .pf 50 (.mv (.t 12)),
      .pf 51 (.mv (.t 13)),
      .pf 52 (.mv (.t 14)),
      .pf 53 (.mv (.t 3)),
      .call (some 54) 175 [(.t 49), (.t 50), (.t 51), (.t 52), (.t 11), (.t 53)],
      .pf 13 (.mv (.t 54))]))
    .skip))
  (.seq (.reg [.pf 55 (.ld false (.t 11) 1 false)])
  (.block 0
    (.seq (.reg [.pf 58 (.bin .eql (.t 55) (.k (.int .i64 0))),
      .pf 57 (.mv (.t 58))])
    (.cond (.t 57)
      (.seq (.reg [.pf 59 (.mv (.t 13)),
        .pf 8 (.mv (.t 59)),
        .pf 9 (.mv (.k (.int .i64 1)))])
      .ret)
      (.seq (.reg [.pf 61 (.bin .eql (.t 55) (.k (.int .i64 12))),
        .pf 60 (.mv (.t 61))])
      (.cond (.t 60)
        (.seq (.reg [.pf 62 (.mv (.t 13)),
          .pf 8 (.mv (.t 62)),
          .pf 9 (.mv (.k (.int .i64 2)))])
        .ret)
        (.seq (.reg [.pf 56 (.mv (.t 13)),
          .pf 8 (.mv (.t 56)),
          .pf 9 (.mv (.k (.int .i64 0)))])
        .ret))))))))))))))
theorem ac149 {args : List V} {s : H} {Q : V → H → Prop} (hn : args.length ≤ 63) (h : wpS Tryz.prog sc149 (bodyQ [.t 8, .t 9] Q) (initT args) (fun _ => (0, [])) s) : AC Tryz.prog 149 args s Q :=
  ac_of_wpS [] Tryz.func149 rfl (by kernel_rfl) (by kernel_rfl) (by kernel_rfl) hn h

-- 150 slices.reverseRangeCmpFunc[tapestry/api.Field]: not covered
-- 151 slices.partialInsertionSortCmpFunc[tapestry/api.Field]: not covered
-- 152 slices.partitionEqualCmpFunc[tapestry/api.Field]: not covered
-- 153 slices.partitionCmpFunc[tapestry/api.Field]: not covered
/-- math/bits.Len32 -/
def sc154 : SC :=
  (.seq (.reg [.pf 2 (.mv (.k (.int .i64 0)))])
  (.seq (.seq (.reg [.pf 3 (.mv (.t 0)),
    .pf 4 (.bin .geq (.t 3) (.k (.int .u32 65536)))])
  (.cond (.t 4)
    (.seq (.reg [.pf 5 (.mv (.t 0)),
      .pf 6 (.bin .shr (.t 5) (.k (.int .u64 16))),
      .pf 0 (.mv (.t 6))])
    (.reg [.pf 2 (.mv (.k (.int .i64 16)))]))
    .skip))
  (.seq (.seq (.reg [.pf 7 (.mv (.t 0)),
    .pf 8 (.bin .geq (.t 7) (.k (.int .u32 256)))])
  (.cond (.t 8)
    (.seq (.reg [.pf 9 (.mv (.t 0)),
      .pf 10 (.bin .shr (.t 9) (.k (.int .u64 8))),
      .pf 0 (.mv (.t 10))])
    (.reg [.pf 11 (.mv (.t 2)),
      .pf 12 (.bin .add (.t 11) (.k (.int .i64 8))),
      .pf 2 (.mv (.t 12))]))
    .skip))
  (.seq (.reg [.pf 13 (.mv (.t 2)),
    .pf 14 (.mv (.t 0)),
    .pf 15 (.cvi .u8 (.t 14)),
    .pf 16 (.ix (.k (.str [0, 1, 2, 2, 3, 3, 3, 3, 4, 4, 4, 4, 4, 4, 4, 4, 5, 5, 5, 5, 5, 5, 5, 5, 5, 5, 5, 5, 5, 5, 5, 5, 6, 6, 6, 6, 6, 6, 6, 6, 6, 6, 6, 6, 6, 6, 6, 6, 6, 6, 6, 6, 6, 6, 6, 6, 6, 6, 6, 6, 6, 6, 6, 6, 7, 7, 7, 7, 7, 7, 7, 7, 7, 7, 7, 7, 7, 7, 7, 7, 7, 7, 7, 7, 7, 7, 7, 7, 7, 7, 7, 7, 7, 7, 7, 7, 7, 7, 7, 7, 7, 7, 7, 7, 7, 7, 7, 7, 7, 7, 7, 7, 7, 7, 7, 7, 7, 7, 7, 7, 7, 7, 7, 7, 7, 7, 7, 7, 8, 8, 8, 8, 8, 8, 8, 8, 8, 8, 8, 8, 8, 8, 8, 8, 8, 8, 8, 8, 8, 8, 8, 8, 8, 8, 8, 8, 8, 8, 8, 8, 8, 8, 8, 8, 8, 8, 8, 8, 8, 8, 8, 8, 8, 8, 8, 8, 8, 8, 8, 8, 8, 8, 8, 8, 8, 8, 8, 8, 8, 8, 8, 8, 8, 8, 8, 8, 8, 8, 8, 8, 8, 8, 8, 8, 8, 8, 8, 8, 8, 8, 8, 8, 8, 8, 8, 8, 8, 8, 8, 8, 8, 8, 8, 8, 8, 8, 8, 8, 8, 8, 8, 8, 8, 8, 8, 8, 8, 8, 8, 8, 8, 8, 8, 8, 8, 8, 8, 8, 8, 8, 8, 8, 8, 8, 8, 8])) (.t 15)),
    .pf 17 (.cvi .i64 (.t 16)),
    .pf 18 (.bin .add (.t 13) (.t 17)),
    .pf 2 (.mv (.t 18))])
  .ret))))
theorem ac154 {args : List V} {s : H} {Q : V → H → Prop} (hn : args.length ≤ 19) (h : wpS Tryz.prog sc154 (bodyQ [.t 2] Q) (initT args) (fun _ => (0, [])) s) : AC Tryz.prog 154 args s Q :=
  ac_of_wpS [] Tryz.func154 rfl (by kernel_rfl) (by kernel_rfl) (by kernel_rfl) hn h

/-- math/bits.Len64 -/
def sc155 : SC :=
  (.seq (.reg [.pf 2 (.mv (.k (.int .i64 0)))])
  (.seq (.seq (.reg [.pf 3 (.mv (.t 0)),
    .pf 4 (.bin .geq (.t 3) (.k (.int .u64 4294967296)))])
  (.cond (.t 4)
    (.seq (.reg [.pf 5 (.mv (.t 0)),
      .pf 6 (.bin .shr (.t 5) (.k (.int .u64 32))),
      .pf 0 (.mv (.t 6))])
    (.reg [.pf 2 (.mv (.k (.int .i64 32)))]))
    .skip))
  (.seq (.seq (.reg [.pf 7 (.mv (.t 0)),
    .pf 8 (.bin .geq (.t 7) (.k (.int .u64 65536)))])
  (.cond (.t 8)
    (.seq (.reg [.pf 9 (.mv (.t 0)),
      .pf 10 (.bin .shr (.t 9) (.k (.int .u64 16))),
      .pf 0 (.mv (.t 10))])
    (.reg [.pf 11 (.mv (.t 2)),
      .pf 12 (.bin .add (.t 11) (.k (.int .i64 16))),
      .pf 2 (.mv (.t 12))]))
    .skip))
  (.seq (.seq (.reg [.pf 13 (.mv (.t 0)),
    .pf 14 (.bin .geq (.t 13) (.k (.int .u64 256)))])
  (.cond (.t 14)
    (.seq (.reg [.pf 15 (.mv (.t 0)),
      .pf 16 (.bin .shr (.t 15) (.k (.int .u64 8))),
      .pf 0 (.mv (.t 16))])
    (.reg [.pf 17 (.mv (.t 2)),
      .pf 18 (.bin .add (.t 17) (.k (.int .i64 8))),
      .pf 2 (.mv (.t 18))]))
    .skip))
  (.seq (.reg [.pf 19 (.mv (.t 2)),
    .pf 20 (.mv (.t 0)),
    .pf 21 (.cvi .u8 (.t 20)),
    .pf 22 (.ix (.k (.str [0, 1, 2, 2, 3, 3, 3, 3, 4, 4, 4, 4, 4, 4, 4, 4, 5, 5, 5, 5, 5, 5, 5, 5, 5, 5, 5, 5, 5, 5, 5, 5, 6, 6, 6, 6, 6, 6, 6, 6, 6, 6, 6, 6, 6, 6, 6, 6, 6, 6, 6, 6, 6, 6, 6, 6, 6, 6, 6, 6, 6, 6, 6, 6, 7, 7, 7, 7, 7, 7, 7, 7, 7, 7, 7, 7, 7, 7, 7, 7, 7, 7, 7, 7, 7, 7, 7, 7, 7, 7, 7, 7, 7, 7, 7, 7, 7, 7, 7, 7, 7, 7, 7, 7, 7, 7, 7, 7, 7, 7, 7, 7, 7, 7, 7, 7, 7, 7, 7, 7, 7, 7, 7, 7, 7, 7, 7, 7, 8, 8, 8, 8, 8, 8, 8, 8, 8, 8, 8, 8, 8, 8, 8, 8, 8, 8, 8, 8, 8, 8, 8, 8, 8, 8, 8, 8, 8, 8, 8, 8, 8, 8, 8, 8, 8, 8, 8, 8, 8, 8, 8, 8, 8, 8, 8, 8, 8, 8, 8, 8, 8, 8, 8, 8, 8, 8, 8, 8, 8, 8, 8, 8, 8, 8, 8, 8, 8, 8, 8, 8, 8, 8, 8, 8, 8, 8, 8, 8, 8, 8, 8, 8, 8, 8, 8, 8, 8, 8, 8, 8, 8, 8, 8, 8, 8, 8, 8, 8, 8, 8, 8, 8, 8, 8, 8, 8, 8, 8, 8, 8, 8, 8, 8, 8, 8, 8, 8, 8, 8, 8, 8, 8, 8, 8, 8, 8])) (.t 21)),
    .pf 23 (.cvi .i64 (.t 22)),
    .pf 24 (.bin .add (.t 19) (.t 23)),
    .pf 2 (.mv (.t 24))])
  .ret)))))
theorem ac155 {args : List V} {s : H} {Q : V → H → Prop} (hn : args.length ≤ 25) (h : wpS Tryz.prog sc155 (bodyQ [.t 2] Q) (initT args) (fun _ => (0, [])) s) : AC Tryz.prog 155 args s Q :=
  ac_of_wpS [] Tryz.func155 rfl (by kernel_rfl) (by kernel_rfl) (by kernel_rfl) hn h

/-- internal/strconv.log10Pow2 -/
def sc159 : SC :=
  (.seq (.reg [.pf 2 (.mv (.k (.int .i64 0)))])
  (.seq (.reg [.pf 3 (.mv (.t 0)),
    .pf 4 (.bin .mul (.t 3) (.k (.int .i64 78913))),
    .pf 5 (.bin .shr (.t 4) (.k (.int .u64 18))),
    .pf 2 (.mv (.t 5))])
  .ret))
theorem ac159 {args : List V} {s : H} {Q : V → H → Prop} (hn : args.length ≤ 6) (h : wpS Tryz.prog sc159 (bodyQ [.t 2] Q) (initT args) (fun _ => (0, [])) s) : AC Tryz.prog 159 args s Q :=
  ac_of_wpS [] Tryz.func159 rfl (by kernel_rfl) (by kernel_rfl) (by kernel_rfl) hn h

/-- internal/strconv.bool2[int] -/
def sc160 : SC :=
  (.seq (.reg [.pf 2 (.mv (.k (.int .i64 0)))])
  (.seq (.seq (.reg [.pf 3 (.mv (.t 0))])
  (.cond (.t 3)
    (.seq (.reg [.pf 2 (.mv (.k (.int .i64 1)))])
    .ret)
    .skip))
  (.seq (.reg [.pf 2 (.mv (.k (.int .i64 0)))])
  .ret)))
theorem ac160 {args : List V} {s : H} {Q : V → H → Prop} (hn : args.length ≤ 4) (h : wpS Tryz.prog sc160 (bodyQ [.t 2] Q) (initT args) (fun _ => (0, [])) s) : AC Tryz.prog 160 args s Q :=
  ac_of_wpS [] Tryz.func160 rfl (by kernel_rfl) (by kernel_rfl) (by kernel_rfl) hn h

/-- internal/strconv.isPowerOfTwo -/
def sc161 : SC :=
  (.seq (.reg [.pf 2 (.mv (.k (.bool false)))])
  (.seq (.reg [.pf 3 (.mv (.t 0)),
    .pf 4 (.mv (.t 0)),
    .pf 5 (.bin .sub (.t 4) (.k (.int .i64 1))),
    .pf 6 (.bin .and (.t 3) (.t 5)),
    .pf 7 (.bin .eql (.t 6) (.k (.int .i64 0))),
    .pf 2 (.mv (.t 7))])
  .ret))
theorem ac161 {args : List V} {s : H} {Q : V → H → Prop} (hn : args.length ≤ 8) (h : wpS Tryz.prog sc161 (bodyQ [.t 2] Q) (initT args) (fun _ => (0, [])) s) : AC Tryz.prog 161 args s Q :=
  ac_of_wpS [] Tryz.func161 rfl (by kernel_rfl) (by kernel_rfl) (by kernel_rfl) hn h

/-- math/bits.TrailingZeros -/
def sc162 : SC :=
  (.seq (.reg [.pf 2 (.mv (.k (.int .i64 0)))])
  (.seq (.cond (.k (.bool false))
    (.seq (.reg [.pf 3 (.mv (.t 0)),
      .pf 4 (.cvi .u32 (.t 3)),
      .call (some 5) 176 [(.t 4)],
      .pf 2 (.mv (.t 5))])
    .ret)
    .skip)
  (.seq (.reg [.pf 6 (.mv (.t 0)),
    .call (some 7) 177 [(.t 6)],
    .pf 2 (.mv (.t 7))])
  .ret)))
theorem ac162 {args : List V} {s : H} {Q : V → H → Prop} (hn : args.length ≤ 8) (h : wpS Tryz.prog sc162 (bodyQ [.t 2] Q) (initT args) (fun _ => (0, [])) s) : AC Tryz.prog 162 args s Q :=
  ac_of_wpS [] Tryz.func162 rfl (by kernel_rfl) (by kernel_rfl) (by kernel_rfl) hn h

/-- tapestry/oper.numbers$1 -/
def sc163 : SC :=
  (.seq (.reg [.boxl 3 8 (.k (.agg [(.int .u8 0), (.int .i64 0), (.str []), (.sl [] [] true none), (.sl [] [] true none), (.int .u8 0), (.str []), (.bool false)])),
    .pf 4 (.mv (.k (.bool false)))])
  (.seq (.seq (.reg [.pf 5 (.mv (.t 0)),
    .bsl 6 2 1 [(.int .u8 0)] [(0, (.k (.int .u8 1))), (1, (.k (.int .u8 1)))],
    .call (some 7) 135 [(.t 5), (.t 6)],
    .pf 8 (.not (.t 7))])
  (.cond (.t 8)
    (.seq (.reg [.pf 9 (.build [(.int .u8 0), (.int .i64 0), (.str []), (.sl [] [] true none), (.sl [] [] true none), (.int .u8 0), (.str []), (.bool false)] []),
      .st true (.t 3) (.t 9) 8,
      .pf 4 (.mv (.k (.bool false)))])
    .ret)
    .skip))
  (.seq (.reg [.p 10 (.ld false (.t 1) 1 false),
    .p 11 (.mv (.t 0)),
    .p 12 (.ia (.t 11) (.k (.int .i64 0)) 8),
    .p 13 (.fa (.t 12) 1),
    .p 14 (.ld false (.t 13) 1 false),
    .p 15 (.mv (.t 0)),
    .p 16 (.ia (.t 15) (.k (.int .i64 1)) 8),
    .p 17 (.fa (.t 16) 1),
    .p 18 (.ld false (.t 17) 1 false),
    .callv (some 19) (.t 10) [(.t 14), (.t 18)],
    .call (some 20) 164 [(.t 19)],
    .st true (.t 3) (.t 20) 8,
    .p 4 (.mv (.k (.bool true)))])
  .ret)))
theorem ac163 {args : List V} {s : H} {Q : V → H → Prop} (hn : args.length ≤ 21) (h : wpS Tryz.prog sc163 (bodyQ [.c 3 8 true, .t 4] Q) (initT args) (fun _ => (0, [])) s) : AC Tryz.prog 163 args s Q :=
  ac_of_wpS [3] Tryz.func163 rfl (by kernel_rfl) (by kernel_rfl) (by kernel_rfl) hn h

/-- tapestry/oper.number -/
def sc164 : SC :=
  (.seq (.reg [.boxl 2 8 (.k (.agg [(.int .u8 0), (.int .i64 0), (.str []), (.sl [] [] true none), (.sl [] [] true none), (.int .u8 0), (.str []), (.bool false)]))])
  (.seq (.reg [.pf 3 (.mv (.t 0)),
    .pf 4 (.build [(.int .u8 0), (.int .i64 0), (.str []), (.sl [] [] true none), (.sl [] [] true none), (.int .u8 0), (.str []), (.bool false)] [(0, 1, (.k (.int .u8 1))), (1, 1, (.t 3))]),
    .st true (.t 2) (.t 4) 8])
  .ret))
theorem ac164 {args : List V} {s : H} {Q : V → H → Prop} (hn : args.length ≤ 5) (h : wpS Tryz.prog sc164 (bodyQ [.c 2 8 true] Q) (initT args) (fun _ => (0, [])) s) : AC Tryz.prog 164 args s Q :=
  ac_of_wpS [2] Tryz.func164 rfl (by kernel_rfl) (by kernel_rfl) (by kernel_rfl) hn h

/-- slices.EqualFunc[[]tapestry/api.Value,[]tapestry/api.Value,tapestry/api.Value,tapestry/api.Value] -/
def sc165 : SC :=
  (.seq (.reg [.pf 6 (.mv (.k (.bool false)))])
  (.seq (.seq (.reg [.pf 10 (.mv (.t 0)),
    .pf 11 (.len false (.t 10)),
    .pf 12 (.mv (.t 1)),
    .pf 13 (.len false (.t 12)),
    .pf 14 (.bin .neq (.t 11) (.t 13))])
  (.cond (.t 14)
    (.seq (.reg [.pf 6 (.mv (.k (.bool false)))])
    .ret)
    .skip))
  (.seq (.seq (.reg [.pf 15 (.mv (.t 0)),
    .pf 16 (.len false (.t 15)),
    .pf 17 (.mv (.k (.int .i64 0)))])
  (.block 0
    (.loop
      (.seq (.reg [.pf 18 (.bin .lss (.t 17) (.t 16))])
      (.seq (.cond (.t 18)
        .skip
        (.exit 0))
      (.seq (.block 1
        (.seq (.reg [.pf 19 (.mv (.t 17)),
          .pf 20 (.ia (.t 15) (.t 17) 8),
          .pf 21 (.ld false (.t 20) 8 true),
          .boxl 8 8 (.k (.agg [(.int .u8 0), (.int .i64 0), (.str []), (.sl [] [] true none), (.sl [] [] true none), (.int .u8 0), (.str []), (.bool false)])),
          .pf 7 (.mv (.t 19)),
          .st true (.t 8) (.t 21) 8])
        (.seq (.reg [.pf 22 (.mv (.t 1)),
          .pf 23 (.mv (.t 7)),
          .pf 24 (.ia (.t 22) (.t 23) 8),
          .pf 25 (.ld false (.t 24) 8 true),
          .boxl 9 8 (.k (.agg [(.int .u8 0), (.int .i64 0), (.str []), (.sl [] [] true none), (.sl [] [] true none), (.int .u8 0), (.str []), (.bool false)])),
          .st true (.t 9) (.t 25) 8])
        (.seq (.reg [.pf 26 (.mv (.t 2)),
          .pf 27 (.ld true (.t 8) 8 true),
          .pf 28 (.ld true (.t 9) 8 true),
          .callv (some 29) (.t 26) [(.t 27), (.t 28)],
          .pf 30 (.not (.t 29))])
        (.cond (.t 30)
          (.seq (.reg [.pf 6 (.mv (.k (.bool false)))])
          .ret)
          .skip)))))
      (.reg [.pf 31 (.bin .add (.t 17) (.k (.int .i64 1))),
        .pf 17 (.mv (.t 31))])))))))
  (.seq (.reg [.pf 6 (.mv (.k (.bool true)))])
  .ret))))
theorem ac165 {args : List V} {s : H} {Q : V → H → Prop} (hn : args.length ≤ 32) (h : wpS Tryz.prog sc165 (bodyQ [.t 6] Q) (initT args) (fun _ => (0, [])) s) : AC Tryz.prog 165 args s Q :=
  ac_of_wpS [8, 9] Tryz.func165 rfl (by kernel_rfl) (by kernel_rfl) (by kernel_rfl) hn h

/-- tapestry/value.sameFields -/
def sc166 : SC :=
  (.seq (.reg [.pf 4 (.mv (.k (.bool false)))])
  (.seq (.reg [.pf 5 (.mv (.t 0)),
    .pf 6 (.mv (.t 1)),
    .call (some 7) 178 [(.t 5), (.t 6), (.k (.fn (.func 179) [] []))],
    .pf 4 (.mv (.t 7))])
  .ret))
theorem ac166 {args : List V} {s : H} {Q : V → H → Prop} (hn : args.length ≤ 8) (h : wpS Tryz.prog sc166 (bodyQ [.t 4] Q) (initT args) (fun _ => (0, [])) s) : AC Tryz.prog 166 args s Q :=
  ac_of_wpS [] Tryz.func166 rfl (by kernel_rfl) (by kernel_rfl) (by kernel_rfl) hn h

/-- slices.EqualFunc[[]tapestry/api.Value,[]tapestry/api.Kind,tapestry/api.Value,tapestry/api.Kind] -/
def sc167 : SC :=
  (.seq (.reg [.pf 6 (.mv (.k (.bool false)))])
  (.seq (.seq (.reg [.pf 10 (.mv (.t 0)),
    .pf 11 (.len false (.t 10)),
    .pf 12 (.mv (.t 1)),
    .pf 13 (.len false (.t 12)),
    .pf 14 (.bin .neq (.t 11) (.t 13))])
  (.cond (.t 14)
    (.seq (.reg [.pf 6 (.mv (.k (.bool false)))])
    .ret)
    .skip))
  (.seq (.seq (.reg [.pf 15 (.mv (.t 0)),
    .pf 16 (.len false (.t 15)),
    .pf 17 (.mv (.k (.int .i64 0)))])
  (.block 0
    (.loop
      (.seq (.reg [.pf 18 (.bin .lss (.t 17) (.t 16))])
      (.seq (.cond (.t 18)
        .skip
        (.exit 0))
      (.seq (.block 1
        (.seq (.reg [.pf 19 (.mv (.t 17)),
          .pf 20 (.ia (.t 15) (.t 17) 8),
          .pf 21 (.ld false (.t 20) 8 true),
          .boxl 8 8 (.k (.agg [(.int .u8 0), (.int .i64 0), (.str []), (.sl [] [] true none), (.sl [] [] true none), (.int .u8 0), (.str []), (.bool false)])),
          .pf 7 (.mv (.t 19)),
          .st true (.t 8) (.t 21) 8])
        (.seq (.reg [.pf 22 (.mv (.t 1)),
          .pf 23 (.mv (.t 7)),
          .pf 24 (.ia (.t 22) (.t 23) 1),
          .pf 25 (.ld false (.t 24) 1 false),
          .pf 9 (.mv (.t 25))])
        (.seq (.reg [.pf 26 (.mv (.t 2)),
          .pf 27 (.ld true (.t 8) 8 true),
          .pf 28 (.mv (.t 9)),
          .callv (some 29) (.t 26) [(.t 27), (.t 28)],
          .pf 30 (.not (.t 29))])
        (.cond (.t 30)
          (.seq (.reg [.pf 6 (.mv (.k (.bool false)))])
          .ret)
          .skip)))))
      (.reg [.pf 31 (.bin .add (.t 17) (.k (.int .i64 1))),
        .pf 17 (.mv (.t 31))])))))))
  (.seq (.reg [.pf 6 (.mv (.k (.bool true)))])
  .ret))))
theorem ac167 {args : List V} {s : H} {Q : V → H → Prop} (hn : args.length ≤ 32) (h : wpS Tryz.prog sc167 (bodyQ [.t 6] Q) (initT args) (fun _ => (0, [])) s) : AC Tryz.prog 167 args s Q :=
  ac_of_wpS [8] Tryz.func167 rfl (by kernel_rfl) (by kernel_rfl) (by kernel_rfl) hn h

/-- tapestry/oper.are$1 -/
def sc168 : SC :=
  (.seq (.reg [.boxl 2 8 (.t 0),
    .pf 4 (.mv (.k (.bool false)))])
  (.seq (.reg [.pf 5 (.fa (.t 2) 0),
    .pf 6 (.ld true (.t 5) 1 false),
    .pf 7 (.mv (.t 1)),
    .pf 8 (.bin .eql (.t 6) (.t 7)),
    .pf 4 (.mv (.t 8))])
  .ret))
theorem ac168 {args : List V} {s : H} {Q : V → H → Prop} (hn : args.length ≤ 9) (h : wpS Tryz.prog sc168 (bodyQ [.t 4] Q) (initT args) (fun _ => (0, [])) s) : AC Tryz.prog 168 args s Q :=
  ac_of_wpS [2, 5] Tryz.func168 rfl (by kernel_rfl) (by kernel_rfl) (by kernel_rfl) hn h

end Go.Proofs.YthjjlmkooofdiaaGreatDoor
