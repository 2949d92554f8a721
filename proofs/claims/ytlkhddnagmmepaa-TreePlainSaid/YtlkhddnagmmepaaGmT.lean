/-
  The ghost code of the program's functions, one by one; that it is theirs is proved in the next text.
-/
import Derived.Test.YtlkhddnagmmepaaGmC
import Derived.Test.YtlkhddnagmmepaaGmF
namespace Go.Proofs.Try
set_option linter.unusedSimpArgs false
set_option linter.unusedVariables false
open Go.Gm
/-- sieveholes/sieveholeslaw28.TreePlain -/
def g3 : GFn := ⟨112, [.tmp 4],
  (.seq
    (.ops false [o 3 (.bp (.t 1)),
      o 4 (.mv (.c (.bool false)))])
    (.seq
      (.seq
        (.ops false [o 12 (.ld false (.t 3) 7 true),
          o 13 (.ca 0 (.c (.fn (.func 5) [] [])) [.t 12, .c (.int .i64 60)]),
          o 14 (.un .not (.t 13)),
          o 15 (.mv (.t 14)),
          og 16 (.ld false (.t 3) 7 true) 15 false,
          og 17 (.ca 0 (.c (.fn (.func 6) [] [])) [.t 16]) 15 false,
          og 18 (.un .not (.t 17)) 15 false,
          o 19 (.pk (.t 15) (.c (.bool true)) (.t 18))])
        (.cond (.t 19)
          (.seq
            (.ops false [o 20 (.ca 0 (.c (.fn (.func 7) [] [])) []),
              o 4 (.mv (.t 20))])
            .ret)
          .skip))
      (.seq
        (.ops false [o 21 (.mv (.t 0)),
          o 22 (.mn [.t 21, .c (.int .i64 6)]),
          o 23 (.mx [.c (.int .i64 1), .t 22]),
          o 5 (.mv (.t 23))])
        (.seq
          (.ops false [o 24 (.ld false (.t 3) 7 true),
            o 25 (.ca 0 (.c (.fn (.func 8) [] [])) [.t 24]),
            o 6 (.bp (.c (.agg [.int .i64 0, .nilSl, .int .u64 0, .bool false, .bool false, .int .u64 0, .nilSl]))),
            u (.st false (.t 6) (.t 25) 7)])
          (.seq
            (.ops false [o 26 (.mv (.t 5)),
              o 27 (.ld false (.t 6) 7 true),
              o 28 (.ca 0 (.c (.fn (.func 9) [] [])) [.t 26, .t 27]),
              o 7 (.bp (.c (.agg [.bool false, .nilSl, .nilSl]))),
              u (.st false (.t 7) (.t 28) 3)])
            (.seq
              (.ops false [o 30 (.mv (.t 5)),
                o 31 (.ld false (.t 6) 7 true),
                o 32 (.ca 0 (.c (.fn (.func 10) [] [])) [.t 30, .t 31]),
                o 29 (.mv (.t 32)),
                o 33 (.ex (.t 29) 0),
                o 34 (.ex (.t 29) 1),
                o 8 (.bp (.c (.agg [.nilSl, .nilSl, .nilSl]))),
                u (.st false (.t 8) (.t 33) 3),
                o 9 (.mv (.t 34))])
              (.seq
                (.seq
                  (.ops true [o 35 (.ld false (.t 6) 7 true),
                    o 36 (.ca 0 (.c (.fn (.func 6) [] [])) [.t 35]),
                    o 37 (.un .not (.t 36)),
                    o 38 (.mv (.t 37)),
                    og 39 (.ad (.t 7) 0) 38 false,
                    og 40 (.ld false (.t 39) 1 false) 38 false,
                    o 41 (.pk (.t 38) (.c (.bool true)) (.t 40)),
                    o 42 (.mv (.t 41)),
                    og 43 (.ad (.t 7) 1) 42 false,
                    og 44 (.ld false (.t 43) 1 true) 42 false,
                    og 45 (.ca 0 (.c (.fn (.func 12) [] [])) [.c (.int .u64 1)]) 42 false,
                    og 46 (.ca 0 (.c (.fn (.func 11) [] [])) [.t 44, .t 45]) 42 false,
                    og 47 (.bi .neq (.t 46) (.c (.int .i64 0))) 42 false,
                    o 48 (.pk (.t 42) (.c (.bool true)) (.t 47)),
                    o 49 (.mv (.t 48)),
                    og 50 (.ad (.t 7) 2) 49 false,
                    og 51 (.ld false (.t 50) 1 true) 49 false,
                    og 52 (.ca 0 (.c (.fn (.func 13) [] [])) [.t 51]) 49 false,
                    og 53 (.bi .neq (.t 52) (.c (.int .i64 0))) 49 false,
                    o 54 (.pk (.t 49) (.c (.bool true)) (.t 53)),
                    o 55 (.mv (.t 54)),
                    og 56 (.mv (.t 9)) 55 false,
                    og 57 (.un .not (.t 56)) 55 false,
                    o 58 (.pk (.t 55) (.c (.bool true)) (.t 57)),
                    o 59 (.mv (.t 58)),
                    og 60 (.ad (.t 8) 0) 59 false,
                    og 61 (.ld false (.t 60) 1 true) 59 false,
                    og 62 (.ca 0 (.c (.fn (.func 13) [] [])) [.t 61]) 59 false,
                    og 63 (.bi .neq (.t 62) (.c (.int .i64 0))) 59 false,
                    o 64 (.pk (.t 59) (.c (.bool true)) (.t 63)),
                    o 65 (.mv (.t 64)),
                    og 66 (.ad (.t 8) 1) 65 false,
                    og 67 (.ld false (.t 66) 1 true) 65 false,
                    og 68 (.ca 0 (.c (.fn (.func 13) [] [])) [.t 67]) 65 false,
                    og 69 (.bi .neq (.t 68) (.c (.int .i64 0))) 65 false,
                    o 70 (.pk (.t 65) (.c (.bool true)) (.t 69)),
                    o 71 (.mv (.t 70)),
                    og 72 (.ad (.t 8) 2) 71 false,
                    og 73 (.ld false (.t 72) 1 true) 71 false,
                    og 74 (.ca 0 (.c (.fn (.func 12) [] [])) [.c (.int .u64 1)]) 71 false,
                    og 75 (.ca 0 (.c (.fn (.func 11) [] [])) [.t 73, .t 74]) 71 false,
                    og 76 (.bi .neq (.t 75) (.c (.int .i64 0))) 71 false,
                    o 77 (.pk (.t 71) (.c (.bool true)) (.t 76))])
                  (.cond (.t 77)
                    (.seq
                      (.ops false [o 4 (.mv (.c (.bool false)))])
                      .ret)
                    .skip))
                (.seq
                  (.ops false [o 78 (.mv (.t 5)),
                    o 79 (.ld false (.t 3) 7 true),
                    o 80 (.ca 0 (.c (.fn (.func 9) [] [])) [.t 78, .t 79]),
                    o 10 (.bp (.c (.agg [.bool false, .nilSl, .nilSl]))),
                    u (.st false (.t 10) (.t 80) 3)])
                  (.seq
                    (.ops false [o 81 (.mv (.t 5)),
                      o 82 (.ld false (.t 6) 7 true),
                      o 83 (.ld false (.t 3) 7 true),
                      o 84 (.ld false (.t 6) 7 true),
                      o 85 (.bl 7 3 [.int .i64 0, .nilSl, .int .u64 0, .bool false, .bool false, .int .u64 0, .nilSl] [(0, (.t 82)), (1, (.t 83)), (2, (.t 84))]),
                      o 86 (.bu [.int .i64 0, .nilSl, .int .u64 0, .bool false, .bool false, .int .u64 0, .nilSl] [(0, 1, (.c (.int .i64 1))), (6, 1, (.t 85))]),
                      o 87 (.ca 0 (.c (.fn (.func 9) [] [])) [.t 81, .t 86]),
                      o 11 (.bp (.c (.agg [.bool false, .nilSl, .nilSl]))),
                      u (.st false (.t 11) (.t 87) 3)])
                    (.seq
                      (.ops false [o 88 (.ad (.t 10) 0),
                        o 89 (.ld false (.t 88) 1 false),
                        o 90 (.ad (.t 11) 0),
                        o 91 (.ld false (.t 90) 1 false),
                        o 92 (.be false (.t 89) (.t 91)),
                        o 93 (.mv (.t 92)),
                        og 94 (.ad (.t 10) 1) 93 true,
                        og 95 (.ld false (.t 94) 1 true) 93 true,
                        og 96 (.ad (.t 11) 1) 93 true,
                        og 97 (.ld false (.t 96) 1 true) 93 true,
                        og 98 (.ca 0 (.c (.fn (.func 11) [] [])) [.t 95, .t 97]) 93 true,
                        og 99 (.bi .eql (.t 98) (.c (.int .i64 0))) 93 true,
                        o 100 (.pk (.t 93) (.t 99) (.c (.bool false))),
                        o 101 (.mv (.t 100)),
                        og 102 (.ad (.t 10) 2) 101 true,
                        og 103 (.ld false (.t 102) 1 true) 101 true,
                        og 104 (.ad (.t 11) 2) 101 true,
                        og 105 (.ld false (.t 104) 1 true) 101 true,
                        og 106 (.ca 0 (.c (.fn (.func 11) [] [])) [.t 103, .t 105]) 101 true,
                        og 107 (.bi .eql (.t 106) (.c (.int .i64 0))) 101 true,
                        o 108 (.pk (.t 101) (.t 107) (.c (.bool false))),
                        o 109 (.mv (.t 108)),
                        og 110 (.ca 0 (.c (.fn (.func 7) [] [])) []) 109 true,
                        o 111 (.pk (.t 109) (.t 110) (.c (.bool false))),
                        o 4 (.mv (.t 111))])
                      .ret))))))))))⟩
def h3 : Hint := { sh := [], conv := [], shCall := [], loops := [] }

/-- sieveholes/sieveholesdocs.FewTrees -/
def g5 : GFn := ⟨10, [.tmp 4],
  (.seq
    (.ops false [o 2 (.bp (.t 0)),
      o 4 (.mv (.c (.bool false)))])
    (.seq
      (.ops false [o 5 (.ld false (.t 2) 7 true),
        o 6 (.mv (.t 1)),
        o 7 (.ca 0 (.c (.fn (.func 19) [] [])) [.t 5, .t 6, .c (.int .i64 30)]),
        o 8 (.mv (.t 1)),
        o 9 (.bi .leq (.t 7) (.t 8)),
        o 4 (.mv (.t 9))])
      .ret))⟩
def h5 : Hint := { sh := [], conv := [], shCall := [], loops := [] }

/-- sieveholes/tree.Right -/
def g6 : GFn := ⟨72, [.tmp 2],
  (.seq
    (.ops false [o 1 (.bs 29 (.t 0)),
      o 2 (.mv (.c (.bool false)))])
    (.seq
      (.seq
        (.ops false [o 4 (.ad (.t 1) 6),
          o 5 (.ld true (.t 4) 1 false),
          o 6 (.ca 0 (.c (.fn (.func 20) [] [])) [.t 5, .c (.fn (.func 21) [] [])])])
        (.cond (.t 6)
          (.seq
            (.ops false [o 2 (.mv (.c (.bool false)))])
            .ret)
          .skip))
      (.seq
        (.ops false [o 7 (.ad (.t 1) 0),
          o 8 (.ld true (.t 7) 1 false),
          o 9 (.bu [.int .i64 0, .nilSl, .int .u64 0, .bool false, .bool false, .int .u64 0, .nilSl] [(0, 1, (.t 8))]),
          o 3 (.bp (.c (.agg [.int .i64 0, .nilSl, .int .u64 0, .bool false, .bool false, .int .u64 0, .nilSl]))),
          u (.st false (.t 3) (.t 9) 7)])
        (.seq
          (.seq
            (.ops false [o 10 (.ad (.t 1) 0),
              o 11 (.ld true (.t 10) 1 false)])
            (.block 0
              (.seq
                (.ops false [o 13 (.bi .eql (.t 11) (.c (.int .i64 0))),
                  o 12 (.mv (.t 13))])
                (.cond (.t 12)
                  (.seq
                    (.seq
                      (.ops false [o 14 (.ad (.t 1) 1),
                        o 15 (.ld true (.t 14) 1 true),
                        o 16 (.ca 0 (.c (.fn (.func 13) [] [])) [.t 15]),
                        o 17 (.bi .eql (.t 16) (.c (.int .i64 0)))])
                      (.cond (.t 17)
                        (.seq
                          (.ops false [o 2 (.mv (.c (.bool false)))])
                          .ret)
                        .skip))
                    (.ops true [o 18 (.ad (.t 1) 1),
                      o 19 (.ld true (.t 18) 1 true),
                      o 20 (.ad (.t 1) 2),
                      o 21 (.ld true (.t 20) 1 false),
                      o 22 (.ad (.t 3) 1),
                      u (.st false (.t 22) (.t 19) 1),
                      o 23 (.ad (.t 3) 2),
                      u (.st false (.t 23) (.t 21) 1)]))
                  (.seq
                    (.ops false [o 25 (.bi .eql (.t 11) (.c (.int .i64 2))),
                      o 24 (.mv (.t 25))])
                    (.cond (.t 24)
                      (.ops true [o 26 (.ad (.t 1) 2),
                        o 27 (.ld true (.t 26) 1 false),
                        o 28 (.ad (.t 1) 6),
                        o 29 (.ld true (.t 28) 1 false),
                        o 30 (.ad (.t 3) 2),
                        u (.st false (.t 30) (.t 27) 1),
                        o 31 (.ad (.t 3) 6),
                        u (.st false (.t 31) (.t 29) 1)])
                      (.seq
                        (.seq
                          (.ops false [o 33 (.bi .eql (.t 11) (.c (.int .i64 1))),
                            o 32 (.mv (.t 33))])
                          (.cond (.t 32)
                            .skip
                            (.ops false [o 34 (.bi .eql (.t 11) (.c (.int .i64 3))),
                              o 32 (.mv (.t 34))])))
                        (.cond (.t 32)
                          (.ops false [o 35 (.ad (.t 1) 6),
                            o 36 (.ld true (.t 35) 1 false),
                            o 37 (.ad (.t 3) 6),
                            u (.st false (.t 37) (.t 36) 1)])
                          (.seq
                            (.ops false [o 39 (.bi .eql (.t 11) (.c (.int .i64 4))),
                              o 38 (.mv (.t 39))])
                            (.cond (.t 38)
                              (.seq
                                (.seq
                                  (.ops false [o 40 (.ad (.t 1) 6),
                                    o 41 (.ld true (.t 40) 1 false),
                                    o 42 (.ln false (.t 41)),
                                    o 43 (.bi .neq (.t 42) (.c (.int .i64 1))),
                                    o 44 (.mv (.t 43)),
                                    og 45 (.ad (.t 1) 3) 44 false,
                                    og 46 (.ld true (.t 45) 1 false) 44 false,
                                    og 47 (.un .not (.t 46)) 44 false,
                                    og 48 (.mv (.t 47)) 44 false,
                                    og 49 (.ad (.t 1) 2) 48 true,
                                    og 50 (.ld true (.t 49) 1 false) 48 true,
                                    og 51 (.bi .gtr (.t 50) (.c (.int .u64 0))) 48 true,
                                    og 52 (.pk (.t 48) (.t 51) (.c (.bool false))) 44 false,
                                    o 53 (.pk (.t 44) (.c (.bool true)) (.t 52)),
                                    o 54 (.mv (.t 53)),
                                    og 55 (.ad (.t 1) 4) 54 false,
                                    og 56 (.ld true (.t 55) 1 false) 54 false,
                                    og 57 (.un .not (.t 56)) 54 false,
                                    og 58 (.mv (.t 57)) 54 false,
                                    og 59 (.ad (.t 1) 5) 58 true,
                                    og 60 (.ld true (.t 59) 1 false) 58 true,
                                    og 61 (.bi .gtr (.t 60) (.c (.int .u64 0))) 58 true,
                                    og 62 (.pk (.t 58) (.t 61) (.c (.bool false))) 54 false,
                                    o 63 (.pk (.t 54) (.c (.bool true)) (.t 62))])
                                  (.cond (.t 63)
                                    (.seq
                                      (.ops false [o 2 (.mv (.c (.bool false)))])
                                      .ret)
                                    .skip))
                                (.seq
                                  (.ops false [o 64 (.ld true (.t 1) 7 true),
                                    u (.st false (.t 3) (.t 64) 7)])
                                  (.ops false [o 65 (.bu [.nilSl] []),
                                    o 66 (.ad (.t 3) 1),
                                    u (.st false (.t 66) (.t 65) 1)])))
                              (.seq
                                (.ops false [o 68 (.bi .eql (.t 11) (.c (.int .i64 5))),
                                  o 67 (.mv (.t 68))])
                                (.cond (.t 67)
                                  .skip
                                  (.seq
                                    (.ops false [o 2 (.mv (.c (.bool false)))])
                                    .ret)))))))))))))
          (.seq
            (.ops false [o 69 (.ld true (.t 1) 7 true),
              o 70 (.ld false (.t 3) 7 true),
              o 71 (.ca 0 (.c (.fn (.func 22) [] [])) [.t 69, .t 70]),
              o 2 (.mv (.t 71))])
            .ret)))))⟩
def h6 : Hint := { sh := [1, 5, 8, 11, 15, 19, 21, 27, 29, 36, 41, 46, 50, 56, 60, 64, 69], conv := [], shCall := [], loops := [] }

def g7_b0 : GCode :=
  (.seq
    (.seq
      (.ops false [o 72 (.mv (.t 10)),
        o 73 (.bi .lss (.t 72) (.c (.int .i64 5)))])
      (.cond (.t 73)
        .skip
        (.exit 2)))
    (.seq
      (.block 3
        (.seq
          (.ops true [o 76 (.mv (.t 9)),
            o 77 (.mv (.t 10)),
            o 78 (.el false (.t 76) (.t 77) 1),
            o 79 (.ld false (.t 78) 1 true),
            o 80 (.mv (.t 4)),
            o 81 (.mv (.t 5)),
            o 82 (.el false (.t 80) (.t 81) 1),
            o 83 (.ld false (.t 82) 1 false),
            o 84 (.mv (.t 10)),
            o 85 (.el false (.t 83) (.t 84) 1),
            o 86 (.ld false (.t 85) 1 false),
            o 87 (.ca 0 (.c (.fn (.func 12) [] [])) [.t 86]),
            o 88 (.ca 0 (.c (.fn (.func 11) [] [])) [.t 79, .t 87]),
            o 89 (.bi .neq (.t 88) (.c (.int .i64 0)))])
          (.cond (.t 89)
            (.seq
              (.ops false [o 0 (.mv (.c (.bool false)))])
              .ret)
            .skip)))
      (.ops false [o 74 (.mv (.t 10)),
        o 75 (.bi .add (.t 74) (.c (.int .i64 1))),
        o 10 (.mv (.t 75))])))
def g7_l0 : GCode := .loop [2, 6] [3, 4, 5, 8, 9, 10] [2, 6] [0, 3, 4, 5, 8] g7_b0
def g7_b1 : GCode :=
  (.seq
    (.seq
      (.ops false [o 42 (.mv (.t 5)),
        o 43 (.mv (.t 3)),
        o 44 (.ln false (.t 43)),
        o 45 (.bi .lss (.t 42) (.t 44))])
      (.cond (.t 45)
        .skip
        (.exit 0)))
    (.seq
      (.block 1
        (.seq
          (.ops false [o 48 (.mv (.t 3)),
            o 49 (.mv (.t 5)),
            o 50 (.el false (.t 48) (.t 49) 7),
            o 51 (.ld false (.t 50) 7 true),
            o 52 (.ca 0 (.c (.fn (.func 9) [] [])) [.c (.int .i64 9), .t 51]),
            o 6 (.bp (.c (.agg [.bool false, .nilSl, .nilSl]))),
            u (.st false (.t 6) (.t 52) 3)])
          (.seq
            (.ops false [o 54 (.mv (.t 3)),
              o 55 (.mv (.t 5)),
              o 56 (.el false (.t 54) (.t 55) 7),
              o 57 (.ld false (.t 56) 7 true),
              o 58 (.ca 0 (.c (.fn (.func 10) [] [])) [.c (.int .i64 9), .t 57]),
              o 53 (.mv (.t 58)),
              o 59 (.ex (.t 53) 0),
              o 60 (.ex (.t 53) 1),
              o 7 (.bp (.c (.agg [.nilSl, .nilSl, .nilSl]))),
              u (.st false (.t 7) (.t 59) 3),
              o 8 (.mv (.t 60))])
            (.seq
              (.ops false [o 61 (.ad (.t 6) 1),
                o 62 (.ld false (.t 61) 1 true),
                o 63 (.ad (.t 6) 2),
                o 64 (.ld false (.t 63) 1 true),
                o 65 (.ad (.t 7) 0),
                o 66 (.ld false (.t 65) 1 true),
                o 67 (.ad (.t 7) 1),
                o 68 (.ld false (.t 67) 1 true),
                o 69 (.ad (.t 7) 2),
                o 70 (.ld false (.t 69) 1 true),
                o 71 (.bl 1 5 [.nilSl] [(0, (.t 62)), (1, (.t 64)), (2, (.t 66)), (3, (.t 68)), (4, (.t 70))]),
                o 9 (.mv (.t 71))])
              (.seq
                (.seq
                  (.ops false [o 10 (.mv (.c (.int .i64 0)))])
                  (.block 2
                    g7_l0))
                (.seq
                  (.ops false [o 90 (.ad (.t 6) 0),
                    o 91 (.ld false (.t 90) 1 false),
                    o 92 (.mv (.t 91)),
                    og 93 (.mv (.t 8)) 92 false,
                    og 94 (.un .not (.t 93)) 92 false,
                    o 95 (.pk (.t 92) (.c (.bool true)) (.t 94))])
                  (.cond (.t 95)
                    (.seq
                      (.ops false [o 0 (.mv (.c (.bool false)))])
                      .ret)
                    .skip)))))))
      (.ops false [o 46 (.mv (.t 5)),
        o 47 (.bi .add (.t 46) (.c (.int .i64 1))),
        o 5 (.mv (.t 47))])))
def g7_l1 : GCode := .loop [2] [3, 4, 5] [2] [0] g7_b1
/-- sieveholes/sieveholeslaw28.works -/
def g7 : GFn := ⟨111, [.tmp 0],
  (.seq
    (.ops false [o 0 (.mv (.c (.bool false)))])
    (.seq
      (.ops false [o 14 (.ca 0 (.c (.fn (.func 12) [] [])) [.c (.int .u64 1)]),
        o 15 (.bu [.int .i64 0, .nilSl, .int .u64 0, .bool false, .bool false, .int .u64 0, .nilSl] [(0, 1, (.c (.int .i64 0))), (1, 1, (.t 14))]),
        o 1 (.bp (.c (.agg [.int .i64 0, .nilSl, .int .u64 0, .bool false, .bool false, .int .u64 0, .nilSl]))),
        u (.st false (.t 1) (.t 15) 7)])
      (.seq
        (.ops false [o 16 (.ld false (.t 1) 7 true),
          o 17 (.ld false (.t 1) 7 true),
          o 18 (.bl 7 2 [.int .i64 0, .nilSl, .int .u64 0, .bool false, .bool false, .int .u64 0, .nilSl] [(0, (.t 16)), (1, (.t 17))]),
          o 19 (.bu [.int .i64 0, .nilSl, .int .u64 0, .bool false, .bool false, .int .u64 0, .nilSl] [(0, 1, (.c (.int .i64 2))), (2, 1, (.c (.int .u64 1))), (6, 1, (.t 18))]),
          o 2 (.bp (.c (.agg [.int .i64 0, .nilSl, .int .u64 0, .bool false, .bool false, .int .u64 0, .nilSl]))),
          u (.st false (.t 2) (.t 19) 7)])
        (.seq
          (.ops true [o 20 (.ld false (.t 2) 7 true),
            o 21 (.ld false (.t 2) 7 true),
            o 22 (.ld false (.t 2) 7 true),
            o 23 (.bl 7 2 [.int .i64 0, .nilSl, .int .u64 0, .bool false, .bool false, .int .u64 0, .nilSl] [(0, (.t 21)), (1, (.t 22))]),
            o 24 (.bu [.int .i64 0, .nilSl, .int .u64 0, .bool false, .bool false, .int .u64 0, .nilSl] [(0, 1, (.c (.int .i64 1))), (6, 1, (.t 23))]),
            o 25 (.ld false (.t 1) 7 true),
            o 26 (.bl 7 1 [.int .i64 0, .nilSl, .int .u64 0, .bool false, .bool false, .int .u64 0, .nilSl] [(0, (.t 25))]),
            o 27 (.bu [.int .i64 0, .nilSl, .int .u64 0, .bool false, .bool false, .int .u64 0, .nilSl] [(0, 1, (.c (.int .i64 4))), (3, 1, (.c (.bool true))), (4, 1, (.c (.bool true))), (5, 1, (.c (.int .u64 3))), (6, 1, (.t 26))]),
            o 28 (.ca 0 (.c (.fn (.func 12) [] [])) [.c (.int .u64 5)]),
            o 29 (.bu [.int .i64 0, .nilSl, .int .u64 0, .bool false, .bool false, .int .u64 0, .nilSl] [(0, 1, (.c (.int .i64 0))), (1, 1, (.t 28))]),
            o 30 (.bl 7 1 [.int .i64 0, .nilSl, .int .u64 0, .bool false, .bool false, .int .u64 0, .nilSl] [(0, (.t 29))]),
            o 31 (.bu [.int .i64 0, .nilSl, .int .u64 0, .bool false, .bool false, .int .u64 0, .nilSl] [(0, 1, (.c (.int .i64 4))), (4, 1, (.c (.bool true))), (5, 1, (.c (.int .u64 3))), (6, 1, (.t 30))]),
            o 32 (.ld false (.t 1) 7 true),
            o 33 (.bl 7 1 [.int .i64 0, .nilSl, .int .u64 0, .bool false, .bool false, .int .u64 0, .nilSl] [(0, (.t 32))]),
            o 34 (.bu [.int .i64 0, .nilSl, .int .u64 0, .bool false, .bool false, .int .u64 0, .nilSl] [(0, 1, (.c (.int .i64 4))), (6, 1, (.t 33))]),
            o 35 (.bl 7 5 [.int .i64 0, .nilSl, .int .u64 0, .bool false, .bool false, .int .u64 0, .nilSl] [(0, (.t 20)), (1, (.t 24)), (2, (.t 27)), (3, (.t 31)), (4, (.t 34))]),
            o 3 (.mv (.t 35))])
          (.seq
            (.ops false [o 36 (.bl 1 5 [.int .u64 0] [(0, (.c (.int .u64 2))), (1, (.c (.int .u64 1))), (2, (.c (.int .u64 1))), (3, (.c (.int .u64 1))), (4, (.c (.int .u64 1)))]),
              o 37 (.bl 1 5 [.int .u64 0] [(0, (.c (.int .u64 4))), (1, (.c (.int .u64 3))), (2, (.c (.int .u64 2))), (3, (.c (.int .u64 2))), (4, (.c (.int .u64 1)))]),
              o 38 (.bl 1 5 [.int .u64 0] [(0, (.c (.int .u64 4))), (1, (.c (.int .u64 0))), (2, (.c (.int .u64 3))), (3, (.c (.int .u64 0))), (4, (.c (.int .u64 1)))]),
              o 39 (.bl 1 5 [.int .u64 0] [(0, (.c (.int .u64 125))), (1, (.c (.int .u64 0))), (2, (.c (.int .u64 0))), (3, (.c (.int .u64 0))), (4, (.c (.int .u64 125)))]),
              o 40 (.bl 1 5 [.int .u64 0] [(0, (.c (.int .u64 1))), (1, (.c (.int .u64 0))), (2, (.c (.int .u64 0))), (3, (.c (.int .u64 0))), (4, (.c (.int .u64 1)))]),
              o 41 (.bl 1 5 [.nilSl] [(0, (.t 36)), (1, (.t 37)), (2, (.t 38)), (3, (.t 39)), (4, (.t 40))]),
              o 4 (.mv (.t 41))])
            (.seq
              (.seq
                (.ops false [o 5 (.mv (.c (.int .i64 0)))])
                (.block 0
                  g7_l1))
              (.seq
                (.ops false [o 96 (.ld false (.t 2) 7 true),
                  o 97 (.bl 7 1 [.int .i64 0, .nilSl, .int .u64 0, .bool false, .bool false, .int .u64 0, .nilSl] [(0, (.t 96))]),
                  o 98 (.bu [.int .i64 0, .nilSl, .int .u64 0, .bool false, .bool false, .int .u64 0, .nilSl] [(0, 1, (.c (.int .i64 4))), (6, 1, (.t 97))]),
                  o 11 (.bp (.c (.agg [.int .i64 0, .nilSl, .int .u64 0, .bool false, .bool false, .int .u64 0, .nilSl]))),
                  u (.st false (.t 11) (.t 98) 7)])
                (.seq
                  (.ops false [o 100 (.ld false (.t 11) 7 true),
                    o 101 (.ca 0 (.c (.fn (.func 10) [] [])) [.c (.int .i64 9), .t 100]),
                    o 99 (.mv (.t 101)),
                    o 102 (.ex (.t 99) 0),
                    o 103 (.ex (.t 99) 1),
                    o 12 (.bp (.c (.agg [.nilSl, .nilSl, .nilSl]))),
                    u (.st false (.t 12) (.t 102) 3),
                    o 13 (.mv (.t 103))])
                  (.seq
                    (.ops false [o 104 (.ld false (.t 11) 7 true),
                      o 105 (.ca 0 (.c (.fn (.func 9) [] [])) [.c (.int .i64 9), .t 104]),
                      o 106 (.fi (.t 105) 0 1 false),
                      o 107 (.mv (.t 106)),
                      og 108 (.mv (.t 13)) 107 true,
                      og 109 (.un .not (.t 108)) 107 true,
                      o 110 (.pk (.t 107) (.t 109) (.c (.bool false))),
                      o 0 (.mv (.t 110))])
                    .ret)))))))))⟩
def h7 : Hint := { sh := [], conv := [], shCall := [], loops := [([2], [3, 4, 5], [2], [0]), ([2, 6], [3, 4, 5, 8, 9, 10], [2, 6], [0, 3, 4, 5, 8])] }

def g8_b0 : GCode :=
  (.seq
    (.seq
      (.ops false [o 26 (.mv (.t 4)),
        o 27 (.ad (.t 1) 6),
        o 28 (.ld false (.t 27) 1 false),
        o 29 (.ln false (.t 28)),
        o 30 (.bi .lss (.t 26) (.t 29))])
      (.cond (.t 30)
        .skip
        (.exit 0)))
    (.seq
      (.block 1
        (.ops true [o 33 (.ad (.t 3) 6),
          o 34 (.ld false (.t 33) 1 false),
          o 35 (.ad (.t 1) 6),
          o 36 (.ld false (.t 35) 1 false),
          o 37 (.mv (.t 4)),
          o 38 (.el false (.t 36) (.t 37) 7),
          o 39 (.ld false (.t 38) 7 true),
          o 40 (.ca 0 (.c (.fn (.func 8) [] [])) [.t 39]),
          o 41 (.bl 7 1 [.int .i64 0, .nilSl, .int .u64 0, .bool false, .bool false, .int .u64 0, .nilSl] [(0, (.t 40))]),
          o 42 (.ap 29 7 80 (.t 34) (.t 41)),
          o 43 (.ad (.t 3) 6),
          u (.st false (.t 43) (.t 42) 1)]))
      (.ops false [o 31 (.mv (.t 4)),
        o 32 (.bi .add (.t 31) (.c (.int .i64 1))),
        o 4 (.mv (.t 32))])))
def g8_l0 : GCode := .loop [1, 2, 3] [4] [2, 3] [] g8_b0
/-- sieveholes/sieveholeslaw28.plain -/
def g8 : GFn := ⟨45, [.cell 2 7 true],
  (.seq
    (.ops false [o 1 (.bp (.t 0)),
      o 2 (.bp (.c (.agg [.int .i64 0, .nilSl, .int .u64 0, .bool false, .bool false, .int .u64 0, .nilSl])))])
    (.seq
      (.ops false [o 5 (.ad (.t 1) 0),
        o 6 (.ld false (.t 5) 1 false),
        o 7 (.ad (.t 1) 4),
        o 8 (.ld false (.t 7) 1 false),
        o 9 (.ad (.t 1) 5),
        o 10 (.ld false (.t 9) 1 false),
        o 11 (.bu [.int .i64 0, .nilSl, .int .u64 0, .bool false, .bool false, .int .u64 0, .nilSl] [(0, 1, (.t 6)), (4, 1, (.t 8)), (5, 1, (.t 10))]),
        o 3 (.bp (.c (.agg [.int .i64 0, .nilSl, .int .u64 0, .bool false, .bool false, .int .u64 0, .nilSl]))),
        u (.st false (.t 3) (.t 11) 7)])
      (.seq
        (.seq
          (.ops false [o 12 (.ad (.t 1) 0),
            o 13 (.ld false (.t 12) 1 false),
            o 14 (.bi .eql (.t 13) (.c (.int .i64 2)))])
          (.cond (.t 14)
            (.ops false [o 15 (.ad (.t 3) 0),
              u (.st false (.t 15) (.c (.int .i64 3)) 1)])
            .skip))
        (.seq
          (.seq
            (.ops false [o 16 (.ad (.t 1) 0),
              o 17 (.ld false (.t 16) 1 false),
              o 18 (.bi .eql (.t 17) (.c (.int .i64 0))),
              o 19 (.mv (.t 18)),
              og 20 (.ad (.t 1) 0) 19 false,
              og 21 (.ld false (.t 20) 1 false) 19 false,
              og 22 (.bi .eql (.t 21) (.c (.int .i64 5))) 19 false,
              o 23 (.pk (.t 19) (.c (.bool true)) (.t 22))])
            (.cond (.t 23)
              (.seq
                (.ops false [o 24 (.ca 0 (.c (.fn (.func 12) [] [])) [.c (.int .u64 1)]),
                  o 25 (.bu [.int .i64 0, .nilSl, .int .u64 0, .bool false, .bool false, .int .u64 0, .nilSl] [(0, 1, (.c (.int .i64 0))), (1, 1, (.t 24))]),
                  u (.st false (.t 2) (.t 25) 7)])
                .ret)
              .skip))
          (.seq
            (.seq
              (.ops false [o 4 (.mv (.c (.int .i64 0)))])
              (.block 0
                g8_l0))
            (.seq
              (.ops false [o 44 (.ld false (.t 3) 7 true),
                u (.st false (.t 2) (.t 44) 7)])
              .ret))))))⟩
def h8 : Hint := { sh := [], conv := [], shCall := [], loops := [([1, 2, 3], [4], [2, 3], [])] }

/-- sieveholes/tree.Eval -/
def g9 : GFn := ⟨23, [.cell 4 3 true],
  (.seq
    (.ops false [o 3 (.bp (.t 1)),
      o 4 (.bp (.c (.agg [.bool false, .nilSl, .nilSl])))])
    (.seq
      (.seq
        (.ops false [o 6 (.ad (.t 3) 0),
          o 7 (.ld false (.t 6) 1 false),
          o 8 (.bi .lss (.t 7) (.c (.int .i64 0))),
          o 9 (.mv (.t 8)),
          og 10 (.ad (.t 3) 0) 9 false,
          og 11 (.ld false (.t 10) 1 false) 9 false,
          og 12 (.bi .geq (.t 11) (.c (.int .i64 6))) 9 false,
          o 13 (.pk (.t 9) (.c (.bool true)) (.t 12))])
        (.cond (.t 13)
          (.seq
            (.ops false [o 14 (.ca 0 (.c (.fn (.func 23) [] [])) []),
              u (.st false (.t 4) (.t 14) 3)])
            .ret)
          .skip))
      (.seq
        (.ops false [o 15 (.bu [.nilFn, .nilFn, .nilFn, .nilFn, .nilFn, .nilFn] [(0, 1, (.c (.fn (.func 24) [] []))), (1, 1, (.c (.fn (.func 25) [] []))), (2, 1, (.c (.fn (.func 26) [] []))), (3, 1, (.c (.fn (.func 27) [] []))), (4, 1, (.c (.fn (.func 28) [] []))), (5, 1, (.c (.fn (.func 29) [] [])))]),
          o 5 (.bp (.c (.agg [.nilFn, .nilFn, .nilFn, .nilFn, .nilFn, .nilFn]))),
          u (.st false (.t 5) (.t 15) 6)])
        (.seq
          (.ops true [o 16 (.ad (.t 3) 0),
            o 17 (.ld false (.t 16) 1 false),
            o 18 (.ea (.t 5) (.t 17) 6 1),
            o 19 (.ld false (.t 18) 1 false),
            o 20 (.ld false (.t 3) 7 true),
            o 21 (.mv (.t 0)),
            o 22 (.ca 0 (.t 19) [.t 20, .t 21]),
            u (.st false (.t 4) (.t 22) 3)])
          .ret))))⟩
def h9 : Hint := { sh := [], conv := [], shCall := [], loops := [] }

/-- sieveholes/tree.Weigh -/
def g10 : GFn := ⟨61, [.cell 4 3 true, .tmp 5],
  (.seq
    (.ops false [o 3 (.bp (.t 1)),
      o 4 (.bp (.c (.agg [.nilSl, .nilSl, .nilSl]))),
      o 5 (.mv (.c (.bool false)))])
    (.seq
      (.seq
        (.ops false [o 6 (.ad (.t 3) 0),
          o 7 (.ld false (.t 6) 1 false)])
        (.block 0
          (.seq
            (.ops false [o 9 (.bi .eql (.t 7) (.c (.int .i64 0))),
              o 8 (.mv (.t 9))])
            (.cond (.t 8)
              (.seq
                (.ops true [o 10 (.mv (.t 0)),
                  o 11 (.ad (.t 3) 2),
                  o 12 (.ld false (.t 11) 1 false),
                  o 13 (.ca 0 (.c (.fn (.func 12) [] [])) [.t 12]),
                  o 14 (.ad (.t 3) 1),
                  o 15 (.ld false (.t 14) 1 true),
                  o 16 (.bu [.nilSl, .nilSl, .nilSl] [(1, 1, (.t 13)), (2, 1, (.t 15))]),
                  o 17 (.ca 0 (.c (.fn (.func 30) [] [])) [.t 10, .t 16]),
                  o 18 (.ex (.t 17) 0),
                  o 19 (.ex (.t 17) 1),
                  u (.st false (.t 4) (.t 18) 3),
                  o 5 (.mv (.t 19))])
                .ret)
              (.seq
                (.seq
                  (.ops false [o 21 (.bi .eql (.t 7) (.c (.int .i64 1))),
                    o 20 (.mv (.t 21))])
                  (.cond (.t 20)
                    .skip
                    (.ops false [o 22 (.bi .eql (.t 7) (.c (.int .i64 3))),
                      o 20 (.mv (.t 22))])))
                (.cond (.t 20)
                  (.seq
                    (.ops true [o 23 (.ld false (.t 3) 7 true),
                      o 24 (.mv (.t 0)),
                      o 25 (.ca 0 (.c (.fn (.func 32) [] [])) []),
                      o 26 (.bu [.nilSl, .nilSl, .nilSl] [(2, 1, (.t 25))]),
                      o 27 (.ca 0 (.c (.fn (.func 31) [] [])) [.t 23, .t 24, .t 26]),
                      o 28 (.ex (.t 27) 0),
                      o 29 (.ex (.t 27) 1),
                      u (.st false (.t 4) (.t 28) 3),
                      o 5 (.mv (.t 29))])
                    .ret)
                  (.seq
                    (.ops false [o 31 (.bi .eql (.t 7) (.c (.int .i64 2))),
                      o 30 (.mv (.t 31))])
                    (.cond (.t 30)
                      (.seq
                        (.ops true [o 32 (.ld false (.t 3) 7 true),
                          o 33 (.mv (.t 0)),
                          o 34 (.ad (.t 3) 6),
                          o 35 (.ld false (.t 34) 1 false),
                          o 36 (.ln false (.t 35)),
                          o 37 (.bi .sub (.t 36) (.c (.int .i64 1))),
                          o 38 (.mx [.c (.int .i64 1), .t 37]),
                          o 39 (.cv .u64 (.t 38)),
                          o 40 (.ca 0 (.c (.fn (.func 12) [] [])) [.t 39]),
                          o 41 (.ad (.t 3) 2),
                          o 42 (.ld false (.t 41) 1 false),
                          o 43 (.ca 0 (.c (.fn (.func 12) [] [])) [.t 42]),
                          o 44 (.ca 0 (.c (.fn (.func 32) [] [])) []),
                          o 45 (.bu [.nilSl, .nilSl, .nilSl] [(0, 1, (.t 40)), (1, 1, (.t 43)), (2, 1, (.t 44))]),
                          o 46 (.ca 0 (.c (.fn (.func 31) [] [])) [.t 32, .t 33, .t 45]),
                          o 47 (.ex (.t 46) 0),
                          o 48 (.ex (.t 46) 1),
                          u (.st false (.t 4) (.t 47) 3),
                          o 5 (.mv (.t 48))])
                        .ret)
                      (.seq
                        (.ops false [o 50 (.bi .eql (.t 7) (.c (.int .i64 4))),
                          o 49 (.mv (.t 50))])
                        (.cond (.t 49)
                          (.seq
                            (.ops false [o 51 (.ad (.t 3) 6),
                              o 52 (.ld false (.t 51) 1 false),
                              o 53 (.ln false (.t 52)),
                              o 54 (.bi .gtr (.t 53) (.c (.int .i64 0)))])
                            (.cond (.t 54)
                              (.seq
                                (.ops false [o 55 (.ld false (.t 3) 7 true),
                                  o 56 (.mv (.t 0)),
                                  o 57 (.ca 0 (.c (.fn (.func 33) [] [])) [.t 55, .t 56]),
                                  o 58 (.ex (.t 57) 0),
                                  o 59 (.ex (.t 57) 1),
                                  u (.st false (.t 4) (.t 58) 3),
                                  o 5 (.mv (.t 59))])
                                .ret)
                              .skip))
                          .skip))))))))))
      (.seq
        (.ops false [o 60 (.bu [.nilSl, .nilSl, .nilSl] []),
          u (.st false (.t 4) (.t 60) 3),
          o 5 (.mv (.c (.bool false)))])
        .ret)))⟩
def h10 : Hint := { sh := [], conv := [], shCall := [], loops := [] }

def g11_b0 : GCode :=
  (.seq
    (.seq
      (.ops false [o 13 (.mv (.t 5)),
        o 14 (.bi .geq (.t 13) (.c (.int .i64 0)))])
      (.cond (.t 14)
        .skip
        (.exit 0)))
    (.seq
      (.block 1
        (.seq
          (.ops true [o 17 (.ld false (.t 2) 1 true),
            o 18 (.mv (.t 5)),
            o 19 (.ca 0 (.c (.fn (.func 35) [] [])) [.t 17, .t 18]),
            o 20 (.ld false (.t 3) 1 true),
            o 21 (.mv (.t 5)),
            o 22 (.ca 0 (.c (.fn (.func 35) [] [])) [.t 20, .t 21]),
            o 23 (.ca 0 (.c (.fn (.func 34) [] [])) [.t 19, .t 22]),
            o 6 (.mv (.t 23))])
          (.seq
            (.ops false [o 24 (.mv (.t 6)),
              o 25 (.bi .neq (.t 24) (.c (.int .i64 0)))])
            (.cond (.t 25)
              (.seq
                (.ops false [o 26 (.mv (.t 6)),
                  o 4 (.mv (.t 26))])
                .ret)
              .skip))))
      (.ops false [o 15 (.mv (.t 5)),
        o 16 (.bi .sub (.t 15) (.c (.int .i64 1))),
        o 5 (.mv (.t 16))])))
def g11_l0 : GCode := .loop [2, 3] [5] [] [4] g11_b0
/-- sieveholes/nat.Cmp -/
def g11 : GFn := ⟨27, [.tmp 4],
  (.seq
    (.ops false [o 2 (.bp (.t 0)),
      o 3 (.bp (.t 1)),
      o 4 (.mv (.c (.int .i64 0)))])
    (.seq
      (.seq
        (.ops true [o 7 (.ld false (.t 2) 1 true),
          o 8 (.ca 0 (.c (.fn (.func 13) [] [])) [.t 7]),
          o 9 (.ld false (.t 3) 1 true),
          o 10 (.ca 0 (.c (.fn (.func 13) [] [])) [.t 9]),
          o 11 (.mx [.t 8, .t 10]),
          o 12 (.bi .sub (.t 11) (.c (.int .i64 1))),
          o 5 (.mv (.t 12))])
        (.block 0
          g11_l0))
      (.seq
        (.ops false [o 4 (.mv (.c (.int .i64 0)))])
        .ret)))⟩
def h11 : Hint := { sh := [], conv := [], shCall := [], loops := [([2, 3], [5], [], [4])] }

/-- sieveholes/nat.Of -/
def g12 : GFn := ⟨6, [.cell 2 1 true],
  (.seq
    (.ops false [o 2 (.bp (.c (.agg [.nilSl])))])
    (.seq
      (.ops false [o 3 (.mv (.t 0)),
        o 4 (.bl 1 1 [.int .u64 0] [(0, (.t 3))]),
        o 5 (.ca 0 (.c (.fn (.func 36) [] [])) [.t 4]),
        u (.st false (.t 2) (.t 5) 1)])
      .ret))⟩
def h12 : Hint := { sh := [], conv := [], shCall := [], loops := [] }

/-- (sieveholes/nat.Nat).Len -/
def g13 : GFn := ⟨6, [.tmp 2],
  (.seq
    (.ops false [o 1 (.bp (.t 0)),
      o 2 (.mv (.c (.int .i64 0)))])
    (.seq
      (.ops false [o 3 (.ad (.t 1) 0),
        o 4 (.ld false (.t 3) 1 false),
        o 5 (.ln false (.t 4)),
        o 2 (.mv (.t 5))])
      .ret))⟩
def h13 : Hint := { sh := [], conv := [], shCall := [], loops := [] }

def g18_b0 : GCode :=
  (.seq
    (.ops false [o 32 (.bi .lss (.t 31) (.t 30))])
    (.seq
      (.cond (.t 32)
        .skip
        (.exit 2))
      (.seq
        (.block 3
          (.seq
            (.ops false [o 33 (.mv (.t 31)),
              o 34 (.el false (.t 29) (.t 31) 1),
              o 35 (.ld false (.t 34) 1 false),
              o 9 (.mv (.t 33)),
              o 10 (.mv (.t 35))])
            (.seq
              (.ops false [o 37 (.mv (.t 7)),
                o 38 (.mv (.t 10)),
                o 39 (.ca 0 (.c (.fn (.func 41) [] [])) [.t 37, .t 38]),
                o 36 (.mv (.t 39)),
                o 40 (.ex (.t 36) 0),
                o 41 (.ex (.t 36) 1),
                o 11 (.mv (.t 40)),
                o 12 (.mv (.t 41))])
              (.seq
                (.ops false [o 43 (.mv (.t 12)),
                  o 44 (.mv (.t 5)),
                  o 45 (.mv (.t 6)),
                  o 46 (.mv (.t 9)),
                  o 47 (.bi .add (.t 45) (.t 46)),
                  o 48 (.el true (.t 44) (.t 47) 1),
                  o 49 (.ld true (.t 48) 1 false),
                  o 50 (.a64 (.t 43) (.t 49) (.c (.int .u64 0))),
                  o 42 (.mv (.t 50)),
                  o 51 (.ex (.t 42) 0),
                  o 52 (.ex (.t 42) 1),
                  o 12 (.mv (.t 51)),
                  o 13 (.mv (.t 52))])
                (.seq
                  (.ops false [o 53 (.mv (.t 11)),
                    o 54 (.mv (.t 13)),
                    o 55 (.bi .add (.t 53) (.t 54)),
                    o 11 (.mv (.t 55))])
                  (.seq
                    (.ops false [o 57 (.mv (.t 12)),
                      o 58 (.mv (.t 8)),
                      o 59 (.a64 (.t 57) (.t 58) (.c (.int .u64 0))),
                      o 56 (.mv (.t 59)),
                      o 60 (.ex (.t 56) 0),
                      o 61 (.ex (.t 56) 1),
                      o 12 (.mv (.t 60)),
                      o 13 (.mv (.t 61))])
                    (.ops false [o 62 (.mv (.t 5)),
                      o 63 (.mv (.t 6)),
                      o 64 (.mv (.t 9)),
                      o 65 (.bi .add (.t 63) (.t 64)),
                      o 66 (.mv (.t 12)),
                      o 67 (.mv (.t 11)),
                      o 68 (.mv (.t 13)),
                      o 69 (.bi .add (.t 67) (.t 68)),
                      o 70 (.el true (.t 62) (.t 65) 1),
                      u (.st true (.t 70) (.t 66) 1),
                      o 8 (.mv (.t 69))])))))))
        (.ops false [o 71 (.bi .add (.t 31) (.c (.int .i64 1))),
          o 31 (.mv (.t 71))]))))
def g18_l0 : GCode := .loop [3, 4] [5, 6, 7, 8, 21, 22, 23, 29, 30, 31] [3, 4] [5, 6, 8, 21, 22, 23] g18_b0
def g18_b1 : GCode :=
  (.seq
    (.ops false [o 24 (.bi .lss (.t 23) (.t 22))])
    (.seq
      (.cond (.t 24)
        .skip
        (.exit 0))
      (.seq
        (.block 1
          (.seq
            (.ops false [o 25 (.mv (.t 23)),
              o 26 (.el false (.t 21) (.t 23) 1),
              o 27 (.ld false (.t 26) 1 false),
              o 6 (.mv (.t 25)),
              o 7 (.mv (.t 27))])
            (.seq
              (.ops false [o 8 (.mv (.c (.int .u64 0)))])
              (.seq
                (.seq
                  (.ops false [o 28 (.ad (.t 3) 0),
                    o 29 (.ld false (.t 28) 1 false),
                    o 30 (.ln false (.t 29)),
                    o 31 (.mv (.c (.int .i64 0)))])
                  (.block 2
                    g18_l0))
                (.ops false [o 72 (.mv (.t 5)),
                  o 73 (.mv (.t 6)),
                  o 74 (.ld false (.t 3) 1 true),
                  o 75 (.ca 0 (.c (.fn (.func 13) [] [])) [.t 74]),
                  o 76 (.bi .add (.t 73) (.t 75)),
                  o 77 (.mv (.t 8)),
                  o 78 (.el true (.t 72) (.t 76) 1),
                  u (.st true (.t 78) (.t 77) 1)])))))
        (.ops false [o 79 (.bi .add (.t 23) (.c (.int .i64 1))),
          o 23 (.mv (.t 79))]))))
def g18_l1 : GCode := .loop [3, 4] [5, 21, 22, 23] [4] [5] g18_b1
/-- sieveholes/nat.Mul -/
def g18 : GFn := ⟨82, [.cell 4 1 true],
  (.seq
    (.ops false [o 2 (.bp (.t 0)),
      o 3 (.bp (.t 1)),
      o 4 (.bp (.c (.agg [.nilSl])))])
    (.seq
      (.ops true [o 14 (.ld false (.t 2) 1 true),
        o 15 (.ca 0 (.c (.fn (.func 13) [] [])) [.t 14]),
        o 16 (.ld false (.t 3) 1 true),
        o 17 (.ca 0 (.c (.fn (.func 13) [] [])) [.t 16]),
        o 18 (.bi .add (.t 15) (.t 17)),
        o 19 (.ms 26 1 8 [.int .u64 0] (.t 18) (.t 18)),
        o 5 (.mv (.t 19))])
      (.seq
        (.seq
          (.ops false [o 20 (.ad (.t 2) 0),
            o 21 (.ld false (.t 20) 1 false),
            o 22 (.ln false (.t 21)),
            o 23 (.mv (.c (.int .i64 0)))])
          (.block 0
            g18_l1))
        (.seq
          (.ops false [o 80 (.mv (.t 5)),
            o 81 (.ca 1 (.c (.fn (.func 36) [] [])) [.t 80]),
            u (.st false (.t 4) (.t 81) 1)])
          .ret))))⟩
def h18 : Hint := { sh := [48, 49, 70, 78], conv := [81], shCall := [], loops := [([3, 4], [5, 21, 22, 23], [4], [5]), ([3, 4], [5, 6, 7, 8, 21, 22, 23, 29, 30, 31], [3, 4], [5, 6, 8, 21, 22, 23])] }

def g19_b0 : GCode :=
  (.seq
    (.seq
      (.ops false [o 17 (.mv (.t 8)),
        o 18 (.ad (.t 3) 6),
        o 19 (.ld false (.t 18) 1 false),
        o 20 (.ln false (.t 19)),
        o 21 (.bi .lss (.t 17) (.t 20)),
        o 22 (.mv (.t 21)),
        og 23 (.mv (.t 7)) 22 true,
        og 24 (.mv (.t 1)) 22 true,
        og 25 (.bi .leq (.t 23) (.t 24)) 22 true,
        o 26 (.pk (.t 22) (.t 25) (.c (.bool false)))])
      (.cond (.t 26)
        .skip
        (.exit 0)))
    (.seq
      (.block 1
        (.ops false [o 29 (.mv (.t 7)),
          o 30 (.ad (.t 3) 6),
          o 31 (.ld false (.t 30) 1 false),
          o 32 (.mv (.t 8)),
          o 33 (.el false (.t 31) (.t 32) 7),
          o 34 (.ld false (.t 33) 7 true),
          o 35 (.mv (.t 1)),
          o 36 (.mv (.t 2)),
          o 37 (.bi .sub (.t 36) (.c (.int .i64 1))),
          o 38 (.ca 0 (.c (.fn (.func 19) [] [])) [.t 34, .t 35, .t 37]),
          o 39 (.bi .add (.t 29) (.t 38)),
          o 7 (.mv (.t 39))]))
      (.ops false [o 27 (.mv (.t 8)),
        o 28 (.bi .add (.t 27) (.c (.int .i64 1))),
        o 8 (.mv (.t 28))])))
def g19_l0 : GCode := .loop [3] [1, 2, 7, 8] [] [7] g19_b0
/-- sieveholes/sieveholesdocs.trees -/
def g19 : GFn := ⟨41, [.tmp 6],
  (.seq
    (.ops false [o 3 (.bp (.t 0)),
      o 6 (.mv (.c (.int .i64 0)))])
    (.seq
      (.seq
        (.ops false [o 9 (.mv (.t 2)),
          o 10 (.bi .eql (.t 9) (.c (.int .i64 0))),
          o 11 (.mv (.t 10)),
          og 12 (.ad (.t 3) 1) 11 false,
          og 13 (.ld false (.t 12) 1 true) 11 false,
          og 14 (.ca 0 (.c (.fn (.func 13) [] [])) [.t 13]) 11 false,
          og 15 (.bi .gtr (.t 14) (.c (.int .i64 3))) 11 false,
          o 16 (.pk (.t 11) (.c (.bool true)) (.t 15))])
        (.cond (.t 16)
          (.seq
            (.ops false [o 6 (.mv (.c (.int .i64 1000000)))])
            .ret)
          .skip))
      (.seq
        (.ops false [o 7 (.mv (.c (.int .i64 1)))])
        (.seq
          (.seq
            (.ops false [o 8 (.mv (.c (.int .i64 0)))])
            (.block 0
              g19_l0))
          (.seq
            (.ops false [o 40 (.mv (.t 7)),
              o 6 (.mv (.t 40))])
            .ret)))))⟩
def h19 : Hint := { sh := [], conv := [], shCall := [], loops := [([3], [1, 2, 7, 8], [], [7])] }

/-- slices.ContainsFunc[[]sieveholes/tree.Tree,sieveholes/tree.Tree] -/
def g20 : GFn := ⟨9, [.tmp 4],
  (.seq
    (.ops false [o 4 (.mv (.c (.bool false)))])
    (.seq
      (.ops false [o 5 (.mv (.t 0)),
        o 6 (.mv (.t 1)),
        o 7 (.ca 0 (.c (.fn (.func 43) [] [])) [.t 5, .t 6]),
        o 8 (.bi .geq (.t 7) (.c (.int .i64 0))),
        o 4 (.mv (.t 8))])
      .ret))⟩
def h20 : Hint := { sh := [], conv := [], shCall := [], loops := [] }

/-- sieveholes/tree.Right$1 -/
def g21 : GFn := ⟨6, [.tmp 2],
  (.seq
    (.ops false [o 1 (.bp (.t 0)),
      o 2 (.mv (.c (.bool false)))])
    (.seq
      (.ops false [o 3 (.ld false (.t 1) 7 true),
        o 4 (.ca 0 (.c (.fn (.func 6) [] [])) [.t 3]),
        o 5 (.un .not (.t 4)),
        o 2 (.mv (.t 5))])
      .ret))⟩
def h21 : Hint := { sh := [], conv := [], shCall := [], loops := [] }

/-- sieveholes/tree.Same -/
def g22 : GFn := ⟨55, [.tmp 4],
  (.seq
    (.ops false [o 2 (.bp (.t 0)),
      o 3 (.bp (.t 1)),
      o 4 (.mv (.c (.bool false)))])
    (.seq
      (.ops false [o 6 (.ad (.t 2) 0),
        o 7 (.ld false (.t 6) 1 false),
        o 8 (.ad (.t 3) 0),
        o 9 (.ld false (.t 8) 1 false),
        o 10 (.bi .eql (.t 7) (.t 9)),
        o 11 (.mv (.t 10)),
        og 12 (.ad (.t 2) 2) 11 true,
        og 13 (.ld false (.t 12) 1 false) 11 true,
        og 14 (.ad (.t 3) 2) 11 true,
        og 15 (.ld false (.t 14) 1 false) 11 true,
        og 16 (.bi .eql (.t 13) (.t 15)) 11 true,
        o 17 (.pk (.t 11) (.t 16) (.c (.bool false))),
        o 18 (.mv (.t 17)),
        og 19 (.ad (.t 2) 3) 18 true,
        og 20 (.ld false (.t 19) 1 false) 18 true,
        og 21 (.ad (.t 3) 3) 18 true,
        og 22 (.ld false (.t 21) 1 false) 18 true,
        og 23 (.be false (.t 20) (.t 22)) 18 true,
        o 24 (.pk (.t 18) (.t 23) (.c (.bool false))),
        o 25 (.mv (.t 24)),
        og 26 (.ad (.t 2) 4) 25 true,
        og 27 (.ld false (.t 26) 1 false) 25 true,
        og 28 (.ad (.t 3) 4) 25 true,
        og 29 (.ld false (.t 28) 1 false) 25 true,
        og 30 (.be false (.t 27) (.t 29)) 25 true,
        o 31 (.pk (.t 25) (.t 30) (.c (.bool false))),
        o 32 (.mv (.t 31)),
        og 33 (.ad (.t 2) 5) 32 true,
        og 34 (.ld false (.t 33) 1 false) 32 true,
        og 35 (.ad (.t 3) 5) 32 true,
        og 36 (.ld false (.t 35) 1 false) 32 true,
        og 37 (.bi .eql (.t 34) (.t 36)) 32 true,
        o 38 (.pk (.t 32) (.t 37) (.c (.bool false))),
        o 5 (.mv (.t 38))])
      (.seq
        (.ops false [o 39 (.mv (.t 5)),
          o 40 (.mv (.t 39)),
          og 41 (.ad (.t 2) 1) 40 true,
          og 42 (.ld false (.t 41) 1 true) 40 true,
          og 43 (.ad (.t 3) 1) 40 true,
          og 44 (.ld false (.t 43) 1 true) 40 true,
          og 45 (.ca 0 (.c (.fn (.func 11) [] [])) [.t 42, .t 44]) 40 true,
          og 46 (.bi .eql (.t 45) (.c (.int .i64 0))) 40 true,
          o 47 (.pk (.t 40) (.t 46) (.c (.bool false))),
          o 48 (.mv (.t 47)),
          og 49 (.ad (.t 2) 6) 48 true,
          og 50 (.ld false (.t 49) 1 false) 48 true,
          og 51 (.ad (.t 3) 6) 48 true,
          og 52 (.ld false (.t 51) 1 false) 48 true,
          og 53 (.ca 0 (.c (.fn (.func 44) [] [])) [.t 50, .t 52, .c (.fn (.func 22) [] [])]) 48 true,
          o 54 (.pk (.t 48) (.t 53) (.c (.bool false))),
          o 4 (.mv (.t 54))])
        .ret)))⟩
def h22 : Hint := { sh := [], conv := [], shCall := [], loops := [] }

/-- sieveholes/tree.top -/
def g23 : GFn := ⟨2, [.cell 0 3 true],
  (.seq
    (.ops false [o 0 (.bp (.c (.agg [.bool false, .nilSl, .nilSl])))])
    (.seq
      (.ops false [o 1 (.bu [.bool false, .nilSl, .nilSl] [(0, 1, (.c (.bool true)))]),
        u (.st false (.t 0) (.t 1) 3)])
      .ret))⟩
def h23 : Hint := { sh := [], conv := [], shCall := [], loops := [] }

/-- (sieveholes/tree.Tree).leaf -/
def g24 : GFn := ⟨12, [.cell 4 3 true],
  (.seq
    (.ops false [o 2 (.bp (.t 0)),
      o 4 (.bp (.c (.agg [.bool false, .nilSl, .nilSl])))])
    (.seq
      (.ops true [o 5 (.mv (.t 1)),
        o 6 (.ad (.t 2) 1),
        o 7 (.ld false (.t 6) 1 true),
        o 8 (.ad (.t 2) 2),
        o 9 (.ld false (.t 8) 1 false),
        o 10 (.ca 0 (.c (.fn (.func 12) [] [])) [.t 9]),
        o 11 (.ca 0 (.c (.fn (.func 45) [] [])) [.t 5, .t 7, .t 10]),
        u (.st false (.t 4) (.t 11) 3)])
      .ret))⟩
def h24 : Hint := { sh := [], conv := [], shCall := [], loops := [] }

/-- (sieveholes/tree.Tree).seq -/
def g25 : GFn := ⟨12, [.cell 4 3 true],
  (.seq
    (.ops false [o 2 (.bp (.t 0)),
      o 4 (.bp (.c (.agg [.bool false, .nilSl, .nilSl])))])
    (.seq
      (.ops true [o 5 (.ld false (.t 2) 7 true),
        o 6 (.mv (.t 1)),
        o 7 (.mv (.t 1)),
        o 8 (.ca 0 (.c (.fn (.func 32) [] [])) []),
        o 9 (.bu [.nilSl] []),
        o 10 (.ca 0 (.c (.fn (.func 45) [] [])) [.t 7, .t 8, .t 9]),
        o 11 (.ca 0 (.c (.fn (.func 46) [] [])) [.t 5, .t 6, .t 10, .c (.fn (.func 47) [] [])]),
        u (.st false (.t 4) (.t 11) 3)])
      .ret))⟩
def h25 : Hint := { sh := [], conv := [], shCall := [], loops := [] }

/-- (sieveholes/tree.Tree).choice -/
def g26 : GFn := ⟨24, [.cell 4 3 true],
  (.seq
    (.ops false [o 2 (.bp (.t 0)),
      o 4 (.bp (.c (.agg [.bool false, .nilSl, .nilSl])))])
    (.seq
      (.seq
        (.ops false [o 5 (.ad (.t 2) 6),
          o 6 (.ld false (.t 5) 1 false),
          o 7 (.ln false (.t 6)),
          o 8 (.bi .eql (.t 7) (.c (.int .i64 0)))])
        (.cond (.t 8)
          (.seq
            (.ops true [o 9 (.mv (.t 1)),
              o 10 (.ca 0 (.c (.fn (.func 32) [] [])) []),
              o 11 (.ad (.t 2) 2),
              o 12 (.ld false (.t 11) 1 false),
              o 13 (.ca 0 (.c (.fn (.func 12) [] [])) [.t 12]),
              o 14 (.ca 0 (.c (.fn (.func 45) [] [])) [.t 9, .t 10, .t 13]),
              u (.st false (.t 4) (.t 14) 3)])
            .ret)
          .skip))
      (.seq
        (.ops true [o 15 (.ld false (.t 2) 7 true),
          o 16 (.mv (.t 1)),
          o 17 (.mv (.t 1)),
          o 18 (.bu [.nilSl] []),
          o 19 (.ad (.t 2) 2),
          o 20 (.ld false (.t 19) 1 false),
          o 21 (.ca 0 (.c (.fn (.func 12) [] [])) [.t 20]),
          o 22 (.ca 0 (.c (.fn (.func 45) [] [])) [.t 17, .t 18, .t 21]),
          o 23 (.ca 0 (.c (.fn (.func 46) [] [])) [.t 15, .t 16, .t 22, .c (.fn (.func 48) [] [])]),
          u (.st false (.t 4) (.t 23) 3)])
        .ret)))⟩
def h26 : Hint := { sh := [], conv := [], shCall := [], loops := [] }

/-- (sieveholes/tree.Tree).either -/
def g27 : GFn := ⟨12, [.cell 4 3 true],
  (.seq
    (.ops false [o 2 (.bp (.t 0)),
      o 4 (.bp (.c (.agg [.bool false, .nilSl, .nilSl])))])
    (.seq
      (.ops true [o 5 (.ld false (.t 2) 7 true),
        o 6 (.mv (.t 1)),
        o 7 (.mv (.t 1)),
        o 8 (.ca 0 (.c (.fn (.func 32) [] [])) []),
        o 9 (.bu [.nilSl] []),
        o 10 (.ca 0 (.c (.fn (.func 45) [] [])) [.t 7, .t 8, .t 9]),
        o 11 (.ca 0 (.c (.fn (.func 46) [] [])) [.t 5, .t 6, .t 10, .c (.fn (.func 49) [] [])]),
        u (.st false (.t 4) (.t 11) 3)])
      .ret))⟩
def h27 : Hint := { sh := [], conv := [], shCall := [], loops := [] }

/-- (sieveholes/tree.Tree).loop -/
def g28 : GFn := ⟨94, [.cell 4 3 true],
  (.seq
    (.ops false [o 2 (.bp (.t 0)),
      o 4 (.bp (.c (.agg [.bool false, .nilSl, .nilSl])))])
    (.seq
      (.seq
        (.ops false [o 11 (.ad (.t 2) 6),
          o 12 (.ld false (.t 11) 1 false),
          o 13 (.ln false (.t 12)),
          o 14 (.bi .eql (.t 13) (.c (.int .i64 0)))])
        (.cond (.t 14)
          (.seq
            (.ops false [o 15 (.ca 0 (.c (.fn (.func 23) [] [])) []),
              u (.st false (.t 4) (.t 15) 3)])
            .ret)
          .skip))
      (.seq
        (.ops false [o 16 (.ld false (.t 2) 7 true),
          o 17 (.mv (.t 1)),
          o 18 (.ca 0 (.c (.fn (.func 51) [] [])) [.t 16, .t 17]),
          o 5 (.bp (.c (.agg [.bool false, .nilSl, .nilSl]))),
          u (.st false (.t 5) (.t 18) 3)])
        (.seq
          (.block 0
            (.seq
              (.ops false [o 20 (.ad (.t 5) 0),
                o 21 (.ld false (.t 20) 1 false),
                o 19 (.mv (.t 21))])
              (.cond (.t 19)
                (.seq
                  (.ops false [o 22 (.ld false (.t 5) 3 true),
                    u (.st false (.t 4) (.t 22) 3)])
                  .ret)
                (.seq
                  (.ops false [o 24 (.ad (.t 2) 4),
                    o 25 (.ld false (.t 24) 1 false),
                    o 26 (.un .not (.t 25)),
                    o 27 (.mv (.t 26)),
                    og 28 (.ad (.t 2) 3) 27 true,
                    og 29 (.ld false (.t 28) 1 false) 27 true,
                    og 30 (.mv (.t 29)) 27 true,
                    og 31 (.ad (.t 5) 1) 30 false,
                    og 32 (.ld false (.t 31) 1 true) 30 false,
                    og 33 (.ca 0 (.c (.fn (.func 52) [] [])) [.t 32]) 30 false,
                    og 34 (.un .not (.t 33)) 30 false,
                    og 35 (.pk (.t 30) (.c (.bool true)) (.t 34)) 27 true,
                    og 36 (.mv (.t 35)) 27 true,
                    og 37 (.ad (.t 5) 2) 36 false,
                    og 38 (.ld false (.t 37) 1 true) 36 false,
                    og 39 (.ca 0 (.c (.fn (.func 13) [] [])) [.t 38]) 36 false,
                    og 40 (.bi .gtr (.t 39) (.c (.int .i64 0))) 36 false,
                    og 41 (.pk (.t 36) (.c (.bool true)) (.t 40)) 27 true,
                    o 42 (.pk (.t 27) (.t 41) (.c (.bool false))),
                    o 23 (.mv (.t 42))])
                  (.cond (.t 23)
                    (.seq
                      (.ops false [o 43 (.ca 0 (.c (.fn (.func 23) [] [])) []),
                        u (.st false (.t 4) (.t 43) 3)])
                      .ret)
                    (.seq
                      (.ops false [o 45 (.ad (.t 2) 4),
                        o 46 (.ld false (.t 45) 1 false),
                        o 47 (.un .not (.t 46)),
                        o 44 (.mv (.t 47))])
                      (.cond (.t 44)
                        (.seq
                          (.ops false [o 48 (.ld false (.t 5) 3 true),
                            u (.st false (.t 4) (.t 48) 3)])
                          .ret)
                        .skip)))))))
          (.seq
            (.ops false [o 50 (.mv (.t 1)),
              o 51 (.ad (.t 5) 1),
              o 52 (.ld false (.t 51) 1 true),
              o 53 (.ad (.t 2) 5),
              o 54 (.ld false (.t 53) 1 false),
              o 55 (.ca 0 (.c (.fn (.func 53) [] [])) [.t 50, .t 52, .t 54]),
              o 49 (.mv (.t 55)),
              o 56 (.ex (.t 49) 0),
              o 57 (.ex (.t 49) 1),
              o 6 (.bp (.c (.agg [.nilSl]))),
              u (.st false (.t 6) (.t 56) 1),
              o 7 (.mv (.t 57))])
            (.seq
              (.ops false [o 59 (.mv (.t 1)),
                o 60 (.ad (.t 5) 1),
                o 61 (.ld false (.t 60) 1 true),
                o 62 (.ad (.t 2) 5),
                o 63 (.ld false (.t 62) 1 false),
                o 64 (.ca 0 (.c (.fn (.func 54) [] [])) [.t 59, .t 61, .t 63]),
                o 58 (.mv (.t 64)),
                o 65 (.ex (.t 58) 0),
                o 66 (.ex (.t 58) 1),
                o 8 (.bp (.c (.agg [.nilSl]))),
                u (.st false (.t 8) (.t 65) 1),
                o 9 (.mv (.t 66))])
              (.seq
                (.seq
                  (.ops false [o 67 (.mv (.t 7)),
                    o 68 (.un .not (.t 67)),
                    o 69 (.mv (.t 68)),
                    og 70 (.mv (.t 9)) 69 false,
                    og 71 (.un .not (.t 70)) 69 false,
                    o 72 (.pk (.t 69) (.c (.bool true)) (.t 71))])
                  (.cond (.t 72)
                    (.seq
                      (.ops false [o 73 (.ca 0 (.c (.fn (.func 23) [] [])) []),
                        u (.st false (.t 4) (.t 73) 3)])
                      .ret)
                    .skip))
                (.seq
                  (.ops false [o 74 (.ld false (.t 6) 1 true),
                    o 75 (.ad (.t 5) 2),
                    o 76 (.ld false (.t 75) 1 true),
                    o 77 (.ca 0 (.c (.fn (.func 18) [] [])) [.t 74, .t 76]),
                    o 10 (.bp (.c (.agg [.nilSl]))),
                    u (.st false (.t 10) (.t 77) 1)])
                  (.seq
                    (.seq
                      (.ops false [o 78 (.ad (.t 2) 3),
                        o 79 (.ld false (.t 78) 1 false)])
                      (.cond (.t 79)
                        (.seq
                          (.ops false [o 80 (.ld false (.t 6) 1 true),
                            o 81 (.ld false (.t 8) 1 true),
                            o 82 (.ca 0 (.c (.fn (.func 38) [] [])) [.t 80, .t 81]),
                            u (.st false (.t 8) (.t 82) 1)])
                          (.ops true [o 83 (.ld false (.t 10) 1 true),
                            o 84 (.ld false (.t 8) 1 true),
                            o 85 (.ad (.t 2) 2),
                            o 86 (.ld false (.t 85) 1 false),
                            o 87 (.ca 0 (.c (.fn (.func 12) [] [])) [.t 86]),
                            o 88 (.ca 0 (.c (.fn (.func 18) [] [])) [.t 84, .t 87]),
                            o 89 (.ca 0 (.c (.fn (.func 38) [] [])) [.t 83, .t 88]),
                            u (.st false (.t 10) (.t 89) 1)]))
                        .skip))
                    (.seq
                      (.ops false [o 90 (.mv (.t 1)),
                        o 91 (.ld false (.t 8) 1 true),
                        o 92 (.ld false (.t 10) 1 true),
                        o 93 (.ca 0 (.c (.fn (.func 45) [] [])) [.t 90, .t 91, .t 92]),
                        u (.st false (.t 4) (.t 93) 3)])
                      .ret))))))))))⟩
def h28 : Hint := { sh := [], conv := [], shCall := [], loops := [] }

/-- (sieveholes/tree.Tree).top -/
def g29 : GFn := ⟨6, [.cell 4 3 true],
  (.seq
    (.ops false [o 2 (.bp (.t 0)),
      o 4 (.bp (.c (.agg [.bool false, .nilSl, .nilSl])))])
    (.seq
      (.ops false [o 5 (.ca 0 (.c (.fn (.func 23) [] [])) []),
        u (.st false (.t 4) (.t 5) 3)])
      .ret))⟩
def h29 : Hint := { sh := [], conv := [], shCall := [], loops := [] }

/-- sieveholes/tree.weighed -/
def g30 : GFn := ⟨13, [.cell 4 3 true, .tmp 5],
  (.seq
    (.ops false [o 3 (.bp (.t 1)),
      o 4 (.bp (.c (.agg [.nilSl, .nilSl, .nilSl]))),
      o 5 (.mv (.c (.bool false)))])
    (.seq
      (.seq
        (.ops false [o 6 (.mv (.t 0)),
          o 7 (.ad (.t 3) 2),
          o 8 (.ld false (.t 7) 1 true),
          o 9 (.ca 0 (.c (.fn (.func 55) [] [])) [.t 6, .t 8]),
          o 10 (.un .not (.t 9))])
        (.cond (.t 10)
          (.seq
            (.ops false [o 11 (.bu [.nilSl, .nilSl, .nilSl] []),
              u (.st false (.t 4) (.t 11) 3),
              o 5 (.mv (.c (.bool false)))])
            .ret)
          .skip))
      (.seq
        (.ops false [o 12 (.ld false (.t 3) 3 true),
          u (.st false (.t 4) (.t 12) 3),
          o 5 (.mv (.c (.bool true)))])
        .ret)))⟩
def h30 : Hint := { sh := [], conv := [], shCall := [], loops := [] }

def g31_b0 : GCode :=
  (.seq
    (.ops false [o 23 (.bi .lss (.t 22) (.t 21))])
    (.seq
      (.cond (.t 23)
        .skip
        (.exit 0))
      (.seq
        (.block 1
          (.seq
            (.ops false [o 24 (.el false (.t 20) (.t 22) 7),
              o 25 (.ld false (.t 24) 7 true),
              o 10 (.bp (.c (.agg [.int .i64 0, .nilSl, .int .u64 0, .bool false, .bool false, .int .u64 0, .nilSl]))),
              u (.st false (.t 10) (.t 25) 7)])
            (.seq
              (.ops false [o 27 (.mv (.t 1)),
                o 28 (.ld false (.t 10) 7 true),
                o 29 (.ca 0 (.c (.fn (.func 10) [] [])) [.t 27, .t 28]),
                o 26 (.mv (.t 29)),
                o 30 (.ex (.t 26) 0),
                o 31 (.ex (.t 26) 1),
                o 11 (.bp (.c (.agg [.nilSl, .nilSl, .nilSl]))),
                u (.st false (.t 11) (.t 30) 3),
                o 12 (.mv (.t 31))])
              (.seq
                (.seq
                  (.ops false [o 32 (.mv (.t 8)),
                    o 33 (.un .not (.t 32)),
                    o 34 (.mv (.t 33)),
                    og 35 (.mv (.t 12)) 34 false,
                    og 36 (.un .not (.t 35)) 34 false,
                    o 37 (.pk (.t 34) (.c (.bool true)) (.t 36))])
                  (.cond (.t 37)
                    (.seq
                      (.ops false [o 38 (.bu [.nilSl, .nilSl, .nilSl] []),
                        u (.st false (.t 6) (.t 38) 3),
                        o 7 (.mv (.c (.bool false)))])
                      .ret)
                    .skip))
                (.ops true [o 40 (.mv (.t 1)),
                  o 41 (.ad (.t 5) 0),
                  o 42 (.ld false (.t 41) 1 true),
                  o 43 (.ad (.t 11) 0),
                  o 44 (.ld false (.t 43) 1 true),
                  o 45 (.ca 0 (.c (.fn (.func 38) [] [])) [.t 42, .t 44]),
                  o 46 (.ad (.t 5) 1),
                  o 47 (.ld false (.t 46) 1 true),
                  o 48 (.ad (.t 11) 1),
                  o 49 (.ld false (.t 48) 1 true),
                  o 50 (.ca 0 (.c (.fn (.func 38) [] [])) [.t 47, .t 49]),
                  o 51 (.ad (.t 5) 2),
                  o 52 (.ld false (.t 51) 1 true),
                  o 53 (.ad (.t 11) 2),
                  o 54 (.ld false (.t 53) 1 true),
                  o 55 (.ca 0 (.c (.fn (.func 18) [] [])) [.t 52, .t 54]),
                  o 56 (.bu [.nilSl, .nilSl, .nilSl] [(0, 1, (.t 45)), (1, 1, (.t 50)), (2, 1, (.t 55))]),
                  o 57 (.ca 0 (.c (.fn (.func 30) [] [])) [.t 40, .t 56]),
                  o 39 (.mv (.t 57)),
                  o 58 (.ex (.t 39) 0),
                  o 59 (.ex (.t 39) 1),
                  u (.st false (.t 5) (.t 58) 3),
                  o 8 (.mv (.t 59))])))))
        (.ops false [o 60 (.bi .add (.t 22) (.c (.int .i64 1))),
          o 22 (.mv (.t 60))]))))
def g31_l0 : GCode := .loop [5, 6] [1, 8, 20, 21, 22] [5, 6] [7, 8] g31_b0
/-- (sieveholes/tree.Tree).row -/
def g31 : GFn := ⟨63, [.cell 6 3 true, .tmp 7],
  (.seq
    (.ops false [o 3 (.bp (.t 0)),
      o 5 (.bp (.t 2)),
      o 6 (.bp (.c (.agg [.nilSl, .nilSl, .nilSl]))),
      o 7 (.mv (.c (.bool false)))])
    (.seq
      (.ops false [o 14 (.mv (.t 1)),
        o 15 (.ld false (.t 5) 3 true),
        o 16 (.ca 0 (.c (.fn (.func 30) [] [])) [.t 14, .t 15]),
        o 13 (.mv (.t 16)),
        o 17 (.ex (.t 13) 0),
        o 18 (.ex (.t 13) 1),
        u (.st false (.t 5) (.t 17) 3),
        o 8 (.mv (.t 18))])
      (.seq
        (.seq
          (.ops false [o 19 (.ad (.t 3) 6),
            o 20 (.ld false (.t 19) 1 false),
            o 21 (.ln false (.t 20)),
            o 22 (.mv (.c (.int .i64 0)))])
          (.block 0
            g31_l0))
        (.seq
          (.ops false [o 61 (.ld false (.t 5) 3 true),
            o 62 (.mv (.t 8)),
            u (.st false (.t 6) (.t 61) 3),
            o 7 (.mv (.t 62))])
          .ret))))⟩
def h31 : Hint := { sh := [], conv := [], shCall := [], loops := [([5, 6], [1, 8, 20, 21, 22], [5, 6], [7, 8])] }

/-- sieveholes/tree.one -/
def g32 : GFn := ⟨2, [.cell 0 1 true],
  (.seq
    (.ops false [o 0 (.bp (.c (.agg [.nilSl])))])
    (.seq
      (.ops false [o 1 (.ca 0 (.c (.fn (.func 12) [] [])) [.c (.int .u64 1)]),
        u (.st false (.t 0) (.t 1) 1)])
      .ret))⟩
def h32 : Hint := { sh := [], conv := [], shCall := [], loops := [] }

/-- (sieveholes/tree.Tree).looped -/
def g33 : GFn := ⟨120, [.cell 4 3 true, .tmp 5],
  (.seq
    (.ops false [o 2 (.bp (.t 0)),
      o 4 (.bp (.c (.agg [.nilSl, .nilSl, .nilSl]))),
      o 5 (.mv (.c (.bool false)))])
    (.seq
      (.ops false [o 13 (.ad (.t 2) 5),
        o 14 (.ld false (.t 13) 1 false),
        o 15 (.ca 0 (.c (.fn (.func 12) [] [])) [.t 14]),
        o 6 (.bp (.c (.agg [.nilSl]))),
        u (.st false (.t 6) (.t 15) 1)])
      (.seq
        (.ops false [o 16 (.ca 0 (.c (.fn (.func 32) [] [])) []),
          o 17 (.bu [.nilSl, .nilSl, .nilSl] [(2, 1, (.t 16))]),
          o 7 (.bp (.c (.agg [.nilSl, .nilSl, .nilSl]))),
          u (.st false (.t 7) (.t 17) 3)])
        (.seq
          (.seq
            (.ops false [o 18 (.ad (.t 2) 4),
              o 19 (.ld false (.t 18) 1 false),
              o 20 (.un .not (.t 19)),
              o 21 (.mv (.t 20)),
              og 22 (.ad (.t 2) 5) 21 false,
              og 23 (.ld false (.t 22) 1 false) 21 false,
              og 24 (.bi .gtr (.t 23) (.c (.int .u64 0))) 21 false,
              o 25 (.pk (.t 21) (.c (.bool true)) (.t 24))])
            (.cond (.t 25)
              (.seq
                (.ops false [o 27 (.mv (.t 1)),
                  o 28 (.ad (.t 2) 6),
                  o 29 (.ld false (.t 28) 1 false),
                  o 30 (.el false (.t 29) (.c (.int .i64 0)) 7),
                  o 31 (.ld false (.t 30) 7 true),
                  o 32 (.ca 0 (.c (.fn (.func 10) [] [])) [.t 27, .t 31]),
                  o 26 (.mv (.t 32)),
                  o 33 (.ex (.t 26) 0),
                  o 34 (.ex (.t 26) 1),
                  o 8 (.bp (.c (.agg [.nilSl, .nilSl, .nilSl]))),
                  u (.st false (.t 8) (.t 33) 3),
                  o 9 (.mv (.t 34))])
                (.seq
                  (.ops false [o 35 (.ad (.t 8) 0),
                    o 36 (.ld false (.t 35) 1 true),
                    o 37 (.ca 0 (.c (.fn (.func 13) [] [])) [.t 36]),
                    o 38 (.bi .eql (.t 37) (.c (.int .i64 0))),
                    o 39 (.mv (.t 38)),
                    og 40 (.ad (.t 8) 1) 39 true,
                    og 41 (.ld false (.t 40) 1 true) 39 true,
                    og 42 (.ca 0 (.c (.fn (.func 13) [] [])) [.t 41]) 39 true,
                    og 43 (.bi .eql (.t 42) (.c (.int .i64 0))) 39 true,
                    o 44 (.pk (.t 39) (.t 43) (.c (.bool false))),
                    o 45 (.mv (.t 44)),
                    og 46 (.ad (.t 8) 2) 45 true,
                    og 47 (.ld false (.t 46) 1 true) 45 true,
                    og 48 (.ca 0 (.c (.fn (.func 52) [] [])) [.t 47]) 45 true,
                    o 49 (.pk (.t 45) (.t 48) (.c (.bool false))),
                    o 10 (.mv (.t 49))])
                  (.seq
                    (.ops false [o 51 (.mv (.t 1)),
                      o 52 (.ad (.t 8) 2),
                      o 53 (.ld false (.t 52) 1 true),
                      o 54 (.ad (.t 2) 5),
                      o 55 (.ld false (.t 54) 1 false),
                      o 56 (.ca 0 (.c (.fn (.func 54) [] [])) [.t 51, .t 53, .t 55]),
                      o 50 (.mv (.t 56)),
                      o 57 (.ex (.t 50) 0),
                      o 58 (.ex (.t 50) 1),
                      o 11 (.bp (.c (.agg [.nilSl]))),
                      u (.st false (.t 11) (.t 57) 1),
                      o 12 (.mv (.t 58))])
                    (.block 0
                      (.seq
                        (.ops false [o 60 (.mv (.t 9)),
                          o 61 (.un .not (.t 60)),
                          o 62 (.mv (.t 61)),
                          og 63 (.ad (.t 2) 4) 62 false,
                          og 64 (.ld false (.t 63) 1 false) 62 false,
                          og 65 (.un .not (.t 64)) 62 false,
                          og 66 (.mv (.t 65)) 62 false,
                          og 67 (.ad (.t 2) 3) 66 true,
                          og 68 (.ld false (.t 67) 1 false) 66 true,
                          og 69 (.mv (.t 68)) 66 true,
                          og 70 (.mv (.t 10)) 69 false,
                          og 71 (.un .not (.t 70)) 69 false,
                          og 72 (.pk (.t 69) (.c (.bool true)) (.t 71)) 66 true,
                          og 73 (.pk (.t 66) (.t 72) (.c (.bool false))) 62 false,
                          o 74 (.pk (.t 62) (.c (.bool true)) (.t 73)),
                          o 75 (.mv (.t 74)),
                          og 76 (.ad (.t 2) 4) 75 false,
                          og 77 (.ld false (.t 76) 1 false) 75 false,
                          og 78 (.mv (.t 77)) 75 false,
                          og 79 (.mv (.t 12)) 78 true,
                          og 80 (.un .not (.t 79)) 78 true,
                          og 81 (.pk (.t 78) (.t 80) (.c (.bool false))) 75 false,
                          o 82 (.pk (.t 75) (.c (.bool true)) (.t 81)),
                          o 59 (.mv (.t 82))])
                        (.cond (.t 59)
                          (.seq
                            (.ops false [o 83 (.bu [.nilSl, .nilSl, .nilSl] []),
                              u (.st false (.t 4) (.t 83) 3),
                              o 5 (.mv (.c (.bool false)))])
                            .ret)
                          (.seq
                            (.ops false [o 85 (.ad (.t 2) 4),
                              o 86 (.ld false (.t 85) 1 false),
                              o 84 (.mv (.t 86))])
                            (.cond (.t 84)
                              (.ops true [o 87 (.ld false (.t 6) 1 true),
                                o 88 (.ad (.t 8) 0),
                                o 89 (.ld false (.t 88) 1 true),
                                o 90 (.ca 0 (.c (.fn (.func 18) [] [])) [.t 87, .t 89]),
                                o 91 (.ld false (.t 6) 1 true),
                                o 92 (.ad (.t 8) 1),
                                o 93 (.ld false (.t 92) 1 true),
                                o 94 (.ca 0 (.c (.fn (.func 18) [] [])) [.t 91, .t 93]),
                                o 95 (.ld false (.t 11) 1 true),
                                o 96 (.bu [.nilSl, .nilSl, .nilSl] [(0, 1, (.t 90)), (1, 1, (.t 94)), (2, 1, (.t 95))]),
                                u (.st false (.t 7) (.t 96) 3)])
                              .skip))))))))
              .skip))
          (.seq
            (.seq
              (.ops false [o 97 (.ad (.t 2) 3),
                o 98 (.ld false (.t 97) 1 false)])
              (.cond (.t 98)
                (.seq
                  (.ops false [o 99 (.ad (.t 7) 0),
                    o 100 (.ld false (.t 99) 1 true),
                    o 101 (.ld false (.t 6) 1 true),
                    o 102 (.ca 0 (.c (.fn (.func 38) [] [])) [.t 100, .t 101]),
                    o 103 (.ad (.t 7) 0),
                    u (.st false (.t 103) (.t 102) 1)])
                  (.ops true [o 104 (.ad (.t 7) 1),
                    o 105 (.ld false (.t 104) 1 true),
                    o 106 (.ld false (.t 6) 1 true),
                    o 107 (.ca 0 (.c (.fn (.func 32) [] [])) []),
                    o 108 (.ca 0 (.c (.fn (.func 38) [] [])) [.t 106, .t 107]),
                    o 109 (.ad (.t 2) 2),
                    o 110 (.ld false (.t 109) 1 false),
                    o 111 (.ca 0 (.c (.fn (.func 12) [] [])) [.t 110]),
                    o 112 (.ca 0 (.c (.fn (.func 18) [] [])) [.t 108, .t 111]),
                    o 113 (.ca 0 (.c (.fn (.func 38) [] [])) [.t 105, .t 112]),
                    o 114 (.ad (.t 7) 1),
                    u (.st false (.t 114) (.t 113) 1)]))
                .skip))
            (.seq
              (.ops false [o 115 (.mv (.t 1)),
                o 116 (.ld false (.t 7) 3 true),
                o 117 (.ca 0 (.c (.fn (.func 30) [] [])) [.t 115, .t 116]),
                o 118 (.ex (.t 117) 0),
                o 119 (.ex (.t 117) 1),
                u (.st false (.t 4) (.t 118) 3),
                o 5 (.mv (.t 119))])
              .ret))))))⟩
def h33 : Hint := { sh := [], conv := [], shCall := [], loops := [] }

/-- cmp.Compare[uint64] -/
def g34 : GFn := ⟨20, [.tmp 4],
  (.seq
    (.ops false [o 4 (.mv (.c (.int .i64 0)))])
    (.seq
      (.ops false [o 7 (.mv (.t 0)),
        o 8 (.ca 0 (.c (.fn (.func 56) [] [])) [.t 7]),
        o 5 (.mv (.t 8))])
      (.seq
        (.ops false [o 9 (.mv (.t 1)),
          o 10 (.ca 0 (.c (.fn (.func 56) [] [])) [.t 9]),
          o 6 (.mv (.t 10))])
        (.seq
          (.seq
            (.ops false [o 11 (.mv (.t 5))])
            (.cond (.t 11)
              (.seq
                (.seq
                  (.ops false [o 12 (.mv (.t 6))])
                  (.cond (.t 12)
                    (.seq
                      (.ops false [o 4 (.mv (.c (.int .i64 0)))])
                      .ret)
                    .skip))
                (.seq
                  (.ops false [o 4 (.mv (.c (.int .i64 (-1))))])
                  .ret))
              .skip))
          (.seq
            (.seq
              (.ops false [o 13 (.mv (.t 6))])
              (.cond (.t 13)
                (.seq
                  (.ops false [o 4 (.mv (.c (.int .i64 1)))])
                  .ret)
                .skip))
            (.seq
              (.seq
                (.ops false [o 14 (.mv (.t 0)),
                  o 15 (.mv (.t 1)),
                  o 16 (.bi .lss (.t 14) (.t 15))])
                (.cond (.t 16)
                  (.seq
                    (.ops false [o 4 (.mv (.c (.int .i64 (-1))))])
                    .ret)
                  .skip))
              (.seq
                (.seq
                  (.ops false [o 17 (.mv (.t 0)),
                    o 18 (.mv (.t 1)),
                    o 19 (.bi .gtr (.t 17) (.t 18))])
                  (.cond (.t 19)
                    (.seq
                      (.ops false [o 4 (.mv (.c (.int .i64 1)))])
                      .ret)
                    .skip))
                (.seq
                  (.ops false [o 4 (.mv (.c (.int .i64 0)))])
                  .ret))))))))⟩
def h34 : Hint := { sh := [], conv := [], shCall := [], loops := [] }

/-- (sieveholes/nat.Nat).limb -/
def g35 : GFn := ⟨14, [.tmp 4],
  (.seq
    (.ops false [o 2 (.bp (.t 0)),
      o 4 (.mv (.c (.int .u64 0)))])
    (.seq
      (.seq
        (.ops false [o 5 (.mv (.t 1)),
          o 6 (.ld false (.t 2) 1 true),
          o 7 (.ca 0 (.c (.fn (.func 13) [] [])) [.t 6]),
          o 8 (.bi .geq (.t 5) (.t 7))])
        (.cond (.t 8)
          (.seq
            (.ops false [o 4 (.mv (.c (.int .u64 0)))])
            .ret)
          .skip))
      (.seq
        (.ops false [o 9 (.ad (.t 2) 0),
          o 10 (.ld false (.t 9) 1 false),
          o 11 (.mv (.t 1)),
          o 12 (.el false (.t 10) (.t 11) 1),
          o 13 (.ld false (.t 12) 1 false),
          o 4 (.mv (.t 13))])
        .ret)))⟩
def h35 : Hint := { sh := [], conv := [], shCall := [], loops := [] }

def g36_b0 : GCode :=
  (.seq
    (.seq
      (.ops false [o 3 (.mv (.t 0)),
        o 4 (.ln false (.t 3)),
        o 5 (.bi .gtr (.t 4) (.c (.int .i64 0))),
        o 6 (.mv (.t 5)),
        og 7 (.mv (.t 0)) 6 true,
        og 8 (.mv (.t 0)) 6 true,
        og 9 (.ln false (.t 8)) 6 true,
        og 10 (.bi .sub (.t 9) (.c (.int .i64 1))) 6 true,
        og 11 (.el false (.t 7) (.t 10) 1) 6 true,
        og 12 (.ld false (.t 11) 1 false) 6 true,
        og 13 (.bi .eql (.t 12) (.c (.int .u64 0))) 6 true,
        o 14 (.pk (.t 6) (.t 13) (.c (.bool false)))])
      (.cond (.t 14)
        .skip
        (.exit 0)))
    (.block 1
      (.ops false [o 15 (.mv (.t 0)),
        o 16 (.mv (.t 0)),
        o 17 (.ln false (.t 16)),
        o 18 (.bi .sub (.t 17) (.c (.int .i64 1))),
        o 19 (.sl 1 (.t 15) Option.none (some (.t 18))),
        o 0 (.mv (.t 19))])))
def g36_l0 : GCode := .loop [2] [0] [2] [0] g36_b0
/-- sieveholes/nat.Limbs -/
def g36 : GFn := ⟨23, [.cell 2 1 true],
  (.seq
    (.ops false [o 2 (.bp (.c (.agg [.nilSl])))])
    (.seq
      (.block 0
        g36_l0)
      (.seq
        (.ops false [o 20 (.mv (.t 0)),
          o 21 (.ca 0 (.c (.fn (.func 57) [] [])) [.t 20]),
          o 22 (.bu [.nilSl] [(0, 1, (.t 21))]),
          u (.st false (.t 2) (.t 22) 1)])
        .ret)))⟩
def h36 : Hint := { sh := [], conv := [], shCall := [], loops := [([2], [0], [2], [0])] }

def g38_b0 : GCode :=
  (.seq
    (.ops false [o 16 (.bi .lss (.t 15) (.t 14))])
    (.seq
      (.cond (.t 16)
        .skip
        (.exit 0))
      (.seq
        (.block 1
          (.seq
            (.ops false [o 17 (.mv (.t 15)),
              o 8 (.mv (.t 17))])
            (.ops true [o 18 (.mv (.t 5)),
              o 19 (.mv (.t 7)),
              o 20 (.ld false (.t 2) 1 true),
              o 21 (.mv (.t 8)),
              o 22 (.ca 0 (.c (.fn (.func 35) [] [])) [.t 20, .t 21]),
              o 23 (.ld false (.t 3) 1 true),
              o 24 (.mv (.t 8)),
              o 25 (.ca 0 (.c (.fn (.func 35) [] [])) [.t 23, .t 24]),
              o 26 (.ca 2 (.t 19) [.t 22, .t 25]),
              o 27 (.bl 1 1 [.int .u64 0] [(0, (.t 26))]),
              o 28 (.ap 26 1 8 (.t 18) (.t 27)),
              o 5 (.mv (.t 28))])))
        (.ops false [o 29 (.bi .add (.t 15) (.c (.int .i64 1))),
          o 15 (.mv (.t 29))]))))
def g38_l0 : GCode := .loop [2, 3, 4] [5, 6, 7, 14, 15] [4] [5, 6] g38_b0
/-- sieveholes/nat.Add -/
def g38 : GFn := ⟨35, [.cell 4 1 true],
  (.seq
    (.ops false [o 2 (.bp (.t 0)),
      o 3 (.bp (.t 1)),
      o 4 (.bp (.c (.agg [.nilSl])))])
    (.seq
      (.ops false [o 5 (.mv (.c (.nilSl)))])
      (.seq
        (.ops false [o 6 (.bs 26 (.c (.int .u64 0))),
          u (.st true (.t 6) (.c (.int .u64 0)) 1)])
        (.seq
          (.ops false [o 9 (.mf (.func 62) [] [.t 6]),
            o 7 (.mv (.t 9))])
          (.seq
            (.seq
              (.ops true [o 10 (.ld false (.t 2) 1 true),
                o 11 (.ca 0 (.c (.fn (.func 13) [] [])) [.t 10]),
                o 12 (.ld false (.t 3) 1 true),
                o 13 (.ca 0 (.c (.fn (.func 13) [] [])) [.t 12]),
                o 14 (.mx [.t 11, .t 13]),
                o 15 (.mv (.c (.int .i64 0)))])
              (.block 0
                g38_l0))
            (.seq
              (.ops false [o 30 (.mv (.t 5)),
                o 31 (.ld true (.t 6) 1 false),
                o 32 (.bl 1 1 [.int .u64 0] [(0, (.t 31))]),
                o 33 (.ap 26 1 8 (.t 30) (.t 32)),
                o 34 (.ca 1 (.c (.fn (.func 36) [] [])) [.t 33]),
                u (.st false (.t 4) (.t 34) 1)])
              .ret))))))⟩
def h38 : Hint := { sh := [6, 31], conv := [34], shCall := [26], loops := [([2, 3, 4], [5, 6, 7, 14, 15], [4], [5, 6])] }

/-- (sieveholes/nat.Cap).Add -/
def g39 : GFn := ⟨15, [.cell 6 1 true, .tmp 7],
  (.seq
    (.ops false [o 4 (.bp (.t 1)),
      o 5 (.bp (.t 2)),
      o 6 (.bp (.c (.agg [.nilSl]))),
      o 7 (.mv (.c (.bool false)))])
    (.seq
      (.ops false [o 8 (.mv (.t 0)),
        o 9 (.ld false (.t 4) 1 true),
        o 10 (.ld false (.t 5) 1 true),
        o 11 (.ca 0 (.c (.fn (.func 38) [] [])) [.t 9, .t 10]),
        o 12 (.ca 0 (.c (.fn (.func 63) [] [])) [.t 8, .t 11]),
        o 13 (.ex (.t 12) 0),
        o 14 (.ex (.t 12) 1),
        u (.st false (.t 6) (.t 13) 1),
        o 7 (.mv (.t 14))])
      .ret))⟩
def h39 : Hint := { sh := [], conv := [], shCall := [], loops := [] }

/-- sieveholes/power.most -/
def g40 : GFn := ⟨11, [.tmp 2],
  (.seq
    (.ops false [o 2 (.mv (.c (.int .u64 0)))])
    (.seq
      (.seq
        (.ops false [o 3 (.mv (.t 0)),
          o 4 (.bi .leq (.t 3) (.c (.int .i64 0)))])
        (.cond (.t 4)
          (.seq
            (.ops false [o 2 (.mv (.c (.int .u64 0)))])
            .ret)
          .skip))
      (.seq
        (.seq
          (.ops false [o 5 (.mv (.t 0)),
            o 6 (.cv .u64 (.t 5)),
            o 7 (.bi .gtr (.t 6) (.c (.int .u64 288230376151711743)))])
          (.cond (.t 7)
            (.seq
              (.ops false [o 2 (.mv (.c (.int .u64 18446744073709551615)))])
              .ret)
            .skip))
        (.seq
          (.ops false [o 8 (.mv (.t 0)),
            o 9 (.cv .u64 (.t 8)),
            o 10 (.bi .mul (.t 9) (.c (.int .u64 64))),
            o 2 (.mv (.t 10))])
          .ret))))⟩
def h40 : Hint := { sh := [], conv := [], shCall := [], loops := [] }

/-- math/bits.Mul64 -/
def g41 : GFn := ⟨51, [.tmp 4, .tmp 5],
  (.seq
    (.ops false [o 4 (.mv (.c (.int .u64 0))),
      o 5 (.mv (.c (.int .u64 0)))])
    (.seq
      (.ops false [o 14 (.mv (.t 0)),
        o 15 (.bi .and (.t 14) (.c (.int .u64 4294967295))),
        o 6 (.mv (.t 15))])
      (.seq
        (.ops false [o 16 (.mv (.t 0)),
          o 17 (.bi .shr (.t 16) (.c (.int .u64 32))),
          o 7 (.mv (.t 17))])
        (.seq
          (.ops false [o 18 (.mv (.t 1)),
            o 19 (.bi .and (.t 18) (.c (.int .u64 4294967295))),
            o 8 (.mv (.t 19))])
          (.seq
            (.ops false [o 20 (.mv (.t 1)),
              o 21 (.bi .shr (.t 20) (.c (.int .u64 32))),
              o 9 (.mv (.t 21))])
            (.seq
              (.ops false [o 22 (.mv (.t 6)),
                o 23 (.mv (.t 8)),
                o 24 (.bi .mul (.t 22) (.t 23)),
                o 10 (.mv (.t 24))])
              (.seq
                (.ops false [o 25 (.mv (.t 7)),
                  o 26 (.mv (.t 8)),
                  o 27 (.bi .mul (.t 25) (.t 26)),
                  o 28 (.mv (.t 10)),
                  o 29 (.bi .shr (.t 28) (.c (.int .u64 32))),
                  o 30 (.bi .add (.t 27) (.t 29)),
                  o 11 (.mv (.t 30))])
                (.seq
                  (.ops false [o 31 (.mv (.t 11)),
                    o 32 (.bi .and (.t 31) (.c (.int .u64 4294967295))),
                    o 12 (.mv (.t 32))])
                  (.seq
                    (.ops false [o 33 (.mv (.t 11)),
                      o 34 (.bi .shr (.t 33) (.c (.int .u64 32))),
                      o 13 (.mv (.t 34))])
                    (.seq
                      (.ops false [o 35 (.mv (.t 12)),
                        o 36 (.mv (.t 6)),
                        o 37 (.mv (.t 9)),
                        o 38 (.bi .mul (.t 36) (.t 37)),
                        o 39 (.bi .add (.t 35) (.t 38)),
                        o 12 (.mv (.t 39))])
                      (.seq
                        (.ops false [o 40 (.mv (.t 7)),
                          o 41 (.mv (.t 9)),
                          o 42 (.bi .mul (.t 40) (.t 41)),
                          o 43 (.mv (.t 13)),
                          o 44 (.bi .add (.t 42) (.t 43)),
                          o 45 (.mv (.t 12)),
                          o 46 (.bi .shr (.t 45) (.c (.int .u64 32))),
                          o 47 (.bi .add (.t 44) (.t 46)),
                          o 4 (.mv (.t 47))])
                        (.seq
                          (.ops false [o 48 (.mv (.t 0)),
                            o 49 (.mv (.t 1)),
                            o 50 (.bi .mul (.t 48) (.t 49)),
                            o 5 (.mv (.t 50))])
                          .ret))))))))))))⟩
def h41 : Hint := { sh := [], conv := [], shCall := [], loops := [] }

def g43_b0 : GCode :=
  (.seq
    (.ops false [o 9 (.bi .lss (.t 8) (.t 7))])
    (.seq
      (.cond (.t 9)
        .skip
        (.exit 0))
      (.seq
        (.block 1
          (.seq
            (.ops false [o 10 (.mv (.t 8)),
              o 5 (.mv (.t 10))])
            (.seq
              (.ops false [o 11 (.mv (.t 1)),
                o 12 (.mv (.t 0)),
                o 13 (.mv (.t 5)),
                o 14 (.el false (.t 12) (.t 13) 7),
                o 15 (.ld false (.t 14) 7 true),
                o 16 (.ca 0 (.t 11) [.t 15])])
              (.cond (.t 16)
                (.seq
                  (.ops false [o 17 (.mv (.t 5)),
                    o 4 (.mv (.t 17))])
                  .ret)
                .skip))))
        (.ops false [o 18 (.bi .add (.t 8) (.c (.int .i64 1))),
          o 8 (.mv (.t 18))]))))
def g43_l0 : GCode := .loop [] [0, 1, 7, 8] [] [4] g43_b0
/-- slices.IndexFunc[[]sieveholes/tree.Tree,sieveholes/tree.Tree] -/
def g43 : GFn := ⟨19, [.tmp 4],
  (.seq
    (.ops false [o 4 (.mv (.c (.int .i64 0)))])
    (.seq
      (.seq
        (.ops false [o 6 (.mv (.t 0)),
          o 7 (.ln false (.t 6)),
          o 8 (.mv (.c (.int .i64 0)))])
        (.block 0
          g43_l0))
      (.seq
        (.ops false [o 4 (.mv (.c (.int .i64 (-1))))])
        .ret)))⟩
def h43 : Hint := { sh := [], conv := [], shCall := [], loops := [([], [0, 1, 7, 8], [], [4])] }

def g44_b0 : GCode :=
  (.seq
    (.ops false [o 18 (.bi .lss (.t 17) (.t 16))])
    (.seq
      (.cond (.t 18)
        .skip
        (.exit 0))
      (.seq
        (.block 1
          (.seq
            (.ops false [o 19 (.mv (.t 17)),
              o 20 (.el false (.t 15) (.t 17) 7),
              o 21 (.ld false (.t 20) 7 true),
              o 8 (.bp (.c (.agg [.int .i64 0, .nilSl, .int .u64 0, .bool false, .bool false, .int .u64 0, .nilSl]))),
              o 7 (.mv (.t 19)),
              u (.st false (.t 8) (.t 21) 7)])
            (.seq
              (.ops false [o 22 (.mv (.t 1)),
                o 23 (.mv (.t 7)),
                o 24 (.el false (.t 22) (.t 23) 7),
                o 25 (.ld false (.t 24) 7 true),
                o 9 (.bp (.c (.agg [.int .i64 0, .nilSl, .int .u64 0, .bool false, .bool false, .int .u64 0, .nilSl]))),
                u (.st false (.t 9) (.t 25) 7)])
              (.seq
                (.ops false [o 26 (.mv (.t 2)),
                  o 27 (.ld false (.t 8) 7 true),
                  o 28 (.ld false (.t 9) 7 true),
                  o 29 (.ca 0 (.t 26) [.t 27, .t 28]),
                  o 30 (.un .not (.t 29))])
                (.cond (.t 30)
                  (.seq
                    (.ops false [o 6 (.mv (.c (.bool false)))])
                    .ret)
                  .skip)))))
        (.ops false [o 31 (.bi .add (.t 17) (.c (.int .i64 1))),
          o 17 (.mv (.t 31))]))))
def g44_l0 : GCode := .loop [] [1, 2, 15, 16, 17] [] [6] g44_b0
/-- slices.EqualFunc[[]sieveholes/tree.Tree,[]sieveholes/tree.Tree,sieveholes/tree.Tree,sieveholes/tree.Tree] -/
def g44 : GFn := ⟨32, [.tmp 6],
  (.seq
    (.ops false [o 6 (.mv (.c (.bool false)))])
    (.seq
      (.seq
        (.ops false [o 10 (.mv (.t 0)),
          o 11 (.ln false (.t 10)),
          o 12 (.mv (.t 1)),
          o 13 (.ln false (.t 12)),
          o 14 (.bi .neq (.t 11) (.t 13))])
        (.cond (.t 14)
          (.seq
            (.ops false [o 6 (.mv (.c (.bool false)))])
            .ret)
          .skip))
      (.seq
        (.seq
          (.ops false [o 15 (.mv (.t 0)),
            o 16 (.ln false (.t 15)),
            o 17 (.mv (.c (.int .i64 0)))])
          (.block 0
            g44_l0))
        (.seq
          (.ops false [o 6 (.mv (.c (.bool true)))])
          .ret))))⟩
def h44 : Hint := { sh := [], conv := [], shCall := [], loops := [([], [1, 2, 15, 16, 17], [], [6])] }

/-- sieveholes/tree.held -/
def g45 : GFn := ⟨21, [.cell 6 3 true],
  (.seq
    (.ops false [o 4 (.bp (.t 1)),
      o 5 (.bp (.t 2)),
      o 6 (.bp (.c (.agg [.bool false, .nilSl, .nilSl])))])
    (.seq
      (.seq
        (.ops false [o 7 (.mv (.t 0)),
          o 8 (.ld false (.t 4) 1 true),
          o 9 (.ca 0 (.c (.fn (.func 55) [] [])) [.t 7, .t 8]),
          o 10 (.un .not (.t 9)),
          o 11 (.mv (.t 10)),
          og 12 (.mv (.t 0)) 11 false,
          og 13 (.ld false (.t 5) 1 true) 11 false,
          og 14 (.ca 0 (.c (.fn (.func 55) [] [])) [.t 12, .t 13]) 11 false,
          og 15 (.un .not (.t 14)) 11 false,
          o 16 (.pk (.t 11) (.c (.bool true)) (.t 15))])
        (.cond (.t 16)
          (.seq
            (.ops false [o 17 (.ca 0 (.c (.fn (.func 23) [] [])) []),
              u (.st false (.t 6) (.t 17) 3)])
            .ret)
          .skip))
      (.seq
        (.ops false [o 18 (.ld false (.t 4) 1 true),
          o 19 (.ld false (.t 5) 1 true),
          o 20 (.bu [.bool false, .nilSl, .nilSl] [(1, 1, (.t 18)), (2, 1, (.t 19))]),
          u (.st false (.t 6) (.t 20) 3)])
        .ret)))⟩
def h45 : Hint := { sh := [], conv := [], shCall := [], loops := [] }

def g46_b0 : GCode :=
  (.seq
    (.ops false [o 17 (.bi .lss (.t 16) (.t 15))])
    (.seq
      (.cond (.t 17)
        .skip
        (.exit 0))
      (.seq
        (.block 1
          (.seq
            (.ops false [o 18 (.el false (.t 14) (.t 16) 7),
              o 19 (.ld false (.t 18) 7 true),
              o 11 (.bp (.c (.agg [.int .i64 0, .nilSl, .int .u64 0, .bool false, .bool false, .int .u64 0, .nilSl]))),
              u (.st false (.t 11) (.t 19) 7)])
            (.seq
              (.ops false [o 20 (.mv (.t 9)),
                o 21 (.ld false (.t 11) 7 true),
                o 22 (.ca 2 (.t 20) [.t 21]),
                o 23 (.un .not (.t 22))])
              (.cond (.t 23)
                (.exit 0)
                .skip))))
        (.ops false [o 24 (.bi .add (.t 16) (.c (.int .i64 1))),
          o 16 (.mv (.t 24))]))))
def g46_l0 : GCode := .loop [8] [6, 9, 14, 15, 16] [8] [6] g46_b0
/-- (sieveholes/tree.Tree).parts -/
def g46 : GFn := ⟨26, [.cell 8 3 true],
  (.seq
    (.ops false [o 4 (.bp (.t 0)),
      o 5 (.bs 33 (.t 1)),
      o 6 (.bs 36 (.t 2)),
      o 7 (.bs 78 (.t 3)),
      o 8 (.bp (.c (.agg [.bool false, .nilSl, .nilSl])))])
    (.seq
      (.ops false [o 12 (.mf (.func 64) [] [.t 5, .t 6, .t 7]),
        o 9 (.mv (.t 12))])
      (.seq
        (.seq
          (.ops false [o 13 (.ad (.t 4) 6),
            o 14 (.ld false (.t 13) 1 false),
            o 15 (.ln false (.t 14)),
            o 16 (.mv (.c (.int .i64 0)))])
          (.block 0
            g46_l0))
        (.seq
          (.ops false [o 25 (.ld true (.t 6) 3 true),
            u (.st false (.t 8) (.t 25) 3)])
          .ret))))⟩
def h46 : Hint := { sh := [5, 6, 7, 25], conv := [], shCall := [22], loops := [([8], [6, 9, 14, 15, 16], [8], [6])] }

/-- (sieveholes/tree.Tree).seq$1 -/
def g47 : GFn := ⟨19, [.cell 4 3 true],
  (.seq
    (.ops false [o 2 (.bp (.t 0)),
      o 3 (.bp (.t 1)),
      o 4 (.bp (.c (.agg [.bool false, .nilSl, .nilSl])))])
    (.seq
      (.ops true [o 5 (.ad (.t 2) 1),
        o 6 (.ld false (.t 5) 1 true),
        o 7 (.ad (.t 3) 1),
        o 8 (.ld false (.t 7) 1 true),
        o 9 (.ca 0 (.c (.fn (.func 18) [] [])) [.t 6, .t 8]),
        o 10 (.ad (.t 2) 2),
        o 11 (.ld false (.t 10) 1 true),
        o 12 (.ad (.t 2) 1),
        o 13 (.ld false (.t 12) 1 true),
        o 14 (.ad (.t 3) 2),
        o 15 (.ld false (.t 14) 1 true),
        o 16 (.ca 0 (.c (.fn (.func 18) [] [])) [.t 13, .t 15]),
        o 17 (.ca 0 (.c (.fn (.func 38) [] [])) [.t 11, .t 16]),
        o 18 (.bu [.bool false, .nilSl, .nilSl] [(1, 1, (.t 9)), (2, 1, (.t 17))]),
        u (.st false (.t 4) (.t 18) 3)])
      .ret))⟩
def h47 : Hint := { sh := [], conv := [], shCall := [], loops := [] }

/-- (sieveholes/tree.Tree).choice$1 -/
def g48 : GFn := ⟨16, [.cell 4 3 true],
  (.seq
    (.ops false [o 2 (.bp (.t 0)),
      o 3 (.bp (.t 1)),
      o 4 (.bp (.c (.agg [.bool false, .nilSl, .nilSl])))])
    (.seq
      (.ops true [o 5 (.ad (.t 2) 1),
        o 6 (.ld false (.t 5) 1 true),
        o 7 (.ad (.t 3) 1),
        o 8 (.ld false (.t 7) 1 true),
        o 9 (.ca 0 (.c (.fn (.func 38) [] [])) [.t 6, .t 8]),
        o 10 (.ad (.t 2) 2),
        o 11 (.ld false (.t 10) 1 true),
        o 12 (.ad (.t 3) 2),
        o 13 (.ld false (.t 12) 1 true),
        o 14 (.ca 0 (.c (.fn (.func 38) [] [])) [.t 11, .t 13]),
        o 15 (.bu [.bool false, .nilSl, .nilSl] [(1, 1, (.t 9)), (2, 1, (.t 14))]),
        u (.st false (.t 4) (.t 15) 3)])
      .ret))⟩
def h48 : Hint := { sh := [], conv := [], shCall := [], loops := [] }

/-- (sieveholes/tree.Tree).either$1 -/
def g49 : GFn := ⟨18, [.cell 4 3 true],
  (.seq
    (.ops false [o 2 (.bp (.t 0)),
      o 3 (.bp (.t 1)),
      o 4 (.bp (.c (.agg [.bool false, .nilSl, .nilSl])))])
    (.seq
      (.ops true [o 5 (.ad (.t 2) 1),
        o 6 (.ld false (.t 5) 1 true),
        o 7 (.ad (.t 3) 1),
        o 8 (.ld false (.t 7) 1 true),
        o 9 (.bl 1 2 [.nilSl] [(0, (.t 6)), (1, (.t 8))]),
        o 10 (.ca 0 (.c (.fn (.func 50) [] [])) [.t 9]),
        o 11 (.ad (.t 2) 2),
        o 12 (.ld false (.t 11) 1 true),
        o 13 (.ad (.t 3) 2),
        o 14 (.ld false (.t 13) 1 true),
        o 15 (.bl 1 2 [.nilSl] [(0, (.t 12)), (1, (.t 14))]),
        o 16 (.ca 0 (.c (.fn (.func 50) [] [])) [.t 15]),
        o 17 (.bu [.bool false, .nilSl, .nilSl] [(1, 1, (.t 10)), (2, 1, (.t 16))]),
        u (.st false (.t 4) (.t 17) 3)])
      .ret))⟩
def h49 : Hint := { sh := [], conv := [], shCall := [], loops := [] }

def g50_b0 : GCode :=
  (.seq
    (.ops false [o 9 (.bi .lss (.t 8) (.t 7))])
    (.seq
      (.cond (.t 9)
        .skip
        (.exit 0))
      (.seq
        (.block 1
          (.seq
            (.ops false [o 10 (.el false (.t 6) (.t 8) 1),
              o 11 (.ld false (.t 10) 1 true),
              o 5 (.bp (.c (.agg [.nilSl]))),
              u (.st false (.t 5) (.t 11) 1)])
            (.seq
              (.ops false [o 12 (.ld false (.t 5) 1 true),
                o 13 (.ld false (.t 3) 1 true),
                o 14 (.ca 0 (.c (.fn (.func 11) [] [])) [.t 12, .t 13]),
                o 15 (.bi .gtr (.t 14) (.c (.int .i64 0)))])
              (.cond (.t 15)
                (.ops false [o 16 (.ld false (.t 5) 1 true),
                  u (.st false (.t 3) (.t 16) 1)])
                .skip))))
        (.ops false [o 17 (.bi .add (.t 8) (.c (.int .i64 1))),
          o 8 (.mv (.t 17))]))))
def g50_l0 : GCode := .loop [2, 3] [6, 7, 8] [2, 3] [] g50_b0
/-- sieveholes/nat.Max -/
def g50 : GFn := ⟨21, [.cell 2 1 true],
  (.seq
    (.ops false [o 2 (.bp (.c (.agg [.nilSl])))])
    (.seq
      (.ops false [o 3 (.bp (.c (.agg [.nilSl])))])
      (.seq
        (.seq
          (.ops false [o 6 (.mv (.t 0)),
            o 7 (.ln false (.t 6)),
            o 8 (.mv (.c (.int .i64 0)))])
          (.block 0
            g50_l0))
        (.seq
          (.ops false [o 18 (.ad (.t 3) 0),
            o 19 (.ld false (.t 18) 1 false),
            o 20 (.ca 0 (.c (.fn (.func 36) [] [])) [.t 19]),
            u (.st false (.t 2) (.t 20) 1)])
          .ret))))⟩
def h50 : Hint := { sh := [], conv := [], shCall := [], loops := [([2, 3], [6, 7, 8], [2, 3], [])] }

/-- (sieveholes/tree.Tree).body -/
def g51 : GFn := ⟨22, [.cell 4 3 true],
  (.seq
    (.ops false [o 2 (.bp (.t 0)),
      o 4 (.bp (.c (.agg [.bool false, .nilSl, .nilSl])))])
    (.seq
      (.seq
        (.ops false [o 5 (.ad (.t 2) 4),
          o 6 (.ld false (.t 5) 1 false),
          o 7 (.mv (.t 6)),
          og 8 (.ad (.t 2) 5) 7 true,
          og 9 (.ld false (.t 8) 1 false) 7 true,
          og 10 (.bi .eql (.t 9) (.c (.int .u64 0))) 7 true,
          o 11 (.pk (.t 7) (.t 10) (.c (.bool false)))])
        (.cond (.t 11)
          (.seq
            (.ops false [o 12 (.mv (.t 1)),
              o 13 (.ca 0 (.c (.fn (.func 32) [] [])) []),
              o 14 (.bu [.nilSl] []),
              o 15 (.ca 0 (.c (.fn (.func 45) [] [])) [.t 12, .t 13, .t 14]),
              u (.st false (.t 4) (.t 15) 3)])
            .ret)
          .skip))
      (.seq
        (.ops false [o 16 (.mv (.t 1)),
          o 17 (.ad (.t 2) 6),
          o 18 (.ld false (.t 17) 1 false),
          o 19 (.el false (.t 18) (.c (.int .i64 0)) 7),
          o 20 (.ld false (.t 19) 7 true),
          o 21 (.ca 0 (.c (.fn (.func 9) [] [])) [.t 16, .t 20]),
          u (.st false (.t 4) (.t 21) 3)])
        .ret)))⟩
def h51 : Hint := { sh := [], conv := [], shCall := [], loops := [] }

/-- sieveholes/tree.is1 -/
def g52 : GFn := ⟨7, [.tmp 2],
  (.seq
    (.ops false [o 1 (.bp (.t 0)),
      o 2 (.mv (.c (.bool false)))])
    (.seq
      (.ops true [o 3 (.ld false (.t 1) 1 true),
        o 4 (.ca 0 (.c (.fn (.func 32) [] [])) []),
        o 5 (.ca 0 (.c (.fn (.func 11) [] [])) [.t 3, .t 4]),
        o 6 (.bi .eql (.t 5) (.c (.int .i64 0))),
        o 2 (.mv (.t 6))])
      .ret))⟩
def h52 : Hint := { sh := [], conv := [], shCall := [], loops := [] }

/-- sieveholes/tree.before -/
def g53 : GFn := ⟨18, [.cell 6 1 true, .tmp 7],
  (.seq
    (.ops false [o 4 (.bp (.t 1)),
      o 6 (.bp (.c (.agg [.nilSl]))),
      o 7 (.mv (.c (.bool false)))])
    (.seq
      (.seq
        (.ops false [o 8 (.mv (.t 2)),
          o 9 (.bi .eql (.t 8) (.c (.int .u64 0)))])
        (.cond (.t 9)
          (.seq
            (.ops false [o 10 (.bu [.nilSl] []),
              u (.st false (.t 6) (.t 10) 1),
              o 7 (.mv (.c (.bool true)))])
            .ret)
          .skip))
      (.seq
        (.ops false [o 11 (.mv (.t 0)),
          o 12 (.ld false (.t 4) 1 true),
          o 13 (.mv (.t 2)),
          o 14 (.bi .sub (.t 13) (.c (.int .u64 1))),
          o 15 (.ca 0 (.c (.fn (.func 65) [] [])) [.t 11, .t 12, .t 14]),
          o 16 (.ex (.t 15) 0),
          o 17 (.ex (.t 15) 1),
          u (.st false (.t 6) (.t 16) 1),
          o 7 (.mv (.t 17))])
        .ret)))⟩
def h53 : Hint := { sh := [], conv := [], shCall := [], loops := [] }

def g54_b0 : GCode :=
  (.seq
    (.seq
      (.ops false [o 40 (.mv (.t 11)),
        o 41 (.bi .geq (.t 40) (.c (.int .i64 0)))])
      (.cond (.t 41)
        .skip
        (.exit 1)))
    (.seq
      (.block 2
        (.seq
          (.seq
            (.ops false [o 44 (.mv (.t 10)),
              o 45 (.ca 2 (.t 44) [])])
            (.seq
              (.ops false [o 46 (.ld true (.t 9) 1 false),
                o 47 (.mv (.t 46)),
                og 48 (.mv (.t 2)) 47 true,
                og 49 (.mv (.t 11)) 47 true,
                og 50 (.bi .shr (.t 48) (.t 49)) 47 true,
                og 51 (.bi .and (.t 50) (.c (.int .u64 1))) 47 true,
                og 52 (.bi .eql (.t 51) (.c (.int .u64 1))) 47 true,
                o 53 (.pk (.t 47) (.t 52) (.c (.bool false)))])
              (.cond (.t 53)
                (.ops false [o 55 (.ld true (.t 3) 1 false),
                  o 56 (.ld true (.t 8) 1 true),
                  o 57 (.ld false (.t 4) 1 true),
                  o 58 (.ca 0 (.c (.fn (.func 61) [] [])) [.t 55, .t 56, .t 57]),
                  o 54 (.mv (.t 58)),
                  o 59 (.ex (.t 54) 0),
                  o 60 (.ex (.t 54) 1),
                  u (.st true (.t 8) (.t 59) 1),
                  u (.st true (.t 9) (.t 60) 1)])
                .skip)))
          (.seq
            (.ops false [o 61 (.ld true (.t 9) 1 false),
              o 62 (.un .not (.t 61))])
            (.cond (.t 62)
              (.exit 1)
              .skip))))
      (.ops false [o 42 (.mv (.t 11)),
        o 43 (.bi .sub (.t 42) (.c (.int .i64 1))),
        o 11 (.mv (.t 43))])))
def g54_l0 : GCode := .loop [4, 6] [2, 3, 8, 9, 10, 11] [6] [8, 9] g54_b0
/-- sieveholes/power.Pow -/
def g54 : GFn := ⟨65, [.cell 6 1 true, .tmp 7],
  (.seq
    (.ops false [o 3 (.bs 33 (.t 0)),
      o 4 (.bp (.t 1)),
      o 6 (.bp (.c (.agg [.nilSl]))),
      o 7 (.mv (.c (.bool false)))])
    (.scope
      (.seq
        (.block 0
          (.seq
            (.ops false [o 13 (.mv (.t 2)),
              o 14 (.bi .eql (.t 13) (.c (.int .u64 0))),
              o 12 (.mv (.t 14))])
            (.cond (.t 12)
              (.seq
                (.ops true [o 15 (.ld true (.t 3) 1 false),
                  o 16 (.ca 0 (.c (.fn (.func 12) [] [])) [.c (.int .u64 1)]),
                  o 17 (.ca 0 (.c (.fn (.func 58) [] [])) [.t 15, .t 16]),
                  o 18 (.ex (.t 17) 0),
                  o 19 (.ex (.t 17) 1),
                  u (.st false (.t 6) (.t 18) 1),
                  o 7 (.mv (.t 19))])
                .ret)
              (.seq
                (.ops false [o 21 (.ld false (.t 4) 1 true),
                  o 22 (.ca 0 (.c (.fn (.func 66) [] [])) [.t 21]),
                  o 23 (.un .not (.t 22)),
                  o 20 (.mv (.t 23))])
                (.cond (.t 20)
                  (.seq
                    (.ops false [o 24 (.ld true (.t 3) 1 false),
                      o 25 (.ld false (.t 4) 1 true),
                      o 26 (.ca 0 (.c (.fn (.func 58) [] [])) [.t 24, .t 25]),
                      o 27 (.ex (.t 26) 0),
                      o 28 (.ex (.t 26) 1),
                      u (.st false (.t 6) (.t 27) 1),
                      o 7 (.mv (.t 28))])
                    .ret)
                  (.seq
                    (.ops false [o 30 (.mv (.t 2)),
                      o 31 (.ld true (.t 3) 1 false),
                      o 32 (.ca 0 (.c (.fn (.func 40) [] [])) [.t 31]),
                      o 33 (.bi .gtr (.t 30) (.t 32)),
                      o 29 (.mv (.t 33))])
                    (.cond (.t 29)
                      (.seq
                        (.ops false [o 34 (.bu [.nilSl] []),
                          u (.st false (.t 6) (.t 34) 1),
                          o 7 (.mv (.c (.bool false)))])
                        .ret)
                      .skip)))))))
        (.seq
          (.ops false [o 35 (.ca 0 (.c (.fn (.func 12) [] [])) [.c (.int .u64 1)]),
            o 8 (.bs 25 (.c (.agg [.nilSl]))),
            o 9 (.bs 4 (.c (.bool false))),
            u (.st true (.t 8) (.t 35) 1),
            u (.st true (.t 9) (.c (.bool true)) 1)])
          (.seq
            (.ops false [o 36 (.mf (.func 67) [] [.t 3, .t 8, .t 9]),
              o 10 (.mv (.t 36))])
            (.seq
              .label
              (.seq
                (.seq
                  (.ops false [o 37 (.mv (.t 2)),
                    o 38 (.ca 0 (.c (.fn (.func 68) [] [])) [.t 37]),
                    o 39 (.bi .sub (.t 38) (.c (.int .i64 1))),
                    o 11 (.mv (.t 39))])
                  (.block 1
                    g54_l0))
                (.seq
                  (.ops true [o 63 (.ld true (.t 8) 1 true),
                    o 64 (.ld true (.t 9) 1 false),
                    u (.st false (.t 6) (.t 63) 1),
                    o 7 (.mv (.t 64))])
                  .ret))))))))⟩
def h54 : Hint := { sh := [3, 8, 9, 15, 24, 31, 46, 55, 56, 61, 63, 64], conv := [], shCall := [45], loops := [([4, 6], [2, 3, 8, 9, 10, 11], [6], [8, 9])] }

/-- (sieveholes/nat.Cap).Fits -/
def g55 : GFn := ⟨10, [.tmp 4],
  (.seq
    (.ops false [o 3 (.bp (.t 1)),
      o 4 (.mv (.c (.bool false)))])
    (.seq
      (.ops false [o 5 (.ld false (.t 3) 1 true),
        o 6 (.ca 0 (.c (.fn (.func 13) [] [])) [.t 5]),
        o 7 (.mv (.t 0)),
        o 8 (.mx [.c (.int .i64 0), .t 7]),
        o 9 (.bi .leq (.t 6) (.t 8)),
        o 4 (.mv (.t 9))])
      .ret))⟩
def h55 : Hint := { sh := [], conv := [], shCall := [], loops := [] }

/-- cmp.isNaN[uint64] -/
def g56 : GFn := ⟨6, [.tmp 2],
  (.seq
    (.ops false [o 2 (.mv (.c (.bool false)))])
    (.seq
      (.ops false [o 3 (.mv (.t 0)),
        o 4 (.mv (.t 0)),
        o 5 (.bi .neq (.t 3) (.t 4)),
        o 2 (.mv (.t 5))])
      .ret))⟩
def h56 : Hint := { sh := [], conv := [], shCall := [], loops := [] }

/-- slices.Clone[[]uint64,uint64] -/
def g57 : GFn := ⟨8, [.tmp 2],
  (.seq
    (.ops false [o 2 (.mv (.c (.nilSl)))])
    (.seq
      (.seq
        (.ops false [o 3 (.mv (.t 0)),
          o 4 (.en false (.t 3))])
        (.cond (.t 4)
          (.seq
            (.ops false [o 2 (.mv (.c (.nilSl)))])
            .ret)
          .skip))
      (.seq
        (.ops false [o 5 (.bl 1 0 [.int .u64 0] []),
          o 6 (.mv (.t 0)),
          o 7 (.ap 26 1 8 (.t 5) (.t 6)),
          o 2 (.mv (.t 7))])
        .ret)))⟩
def h57 : Hint := { sh := [], conv := [], shCall := [], loops := [] }

/-- sieveholes/power.fit -/
def g58 : GFn := ⟨14, [.cell 4 1 true, .tmp 5],
  (.seq
    (.ops false [o 3 (.bp (.t 1)),
      o 4 (.bp (.c (.agg [.nilSl]))),
      o 5 (.mv (.c (.bool false)))])
    (.seq
      (.seq
        (.ops false [o 6 (.mv (.t 0)),
          o 7 (.ld false (.t 3) 1 true),
          o 8 (.ca 0 (.c (.fn (.func 55) [] [])) [.t 6, .t 7]),
          o 9 (.un .not (.t 8))])
        (.cond (.t 9)
          (.seq
            (.ops false [o 10 (.bu [.nilSl] []),
              u (.st false (.t 4) (.t 10) 1),
              o 5 (.mv (.c (.bool false)))])
            .ret)
          .skip))
      (.seq
        (.ops false [o 11 (.ld false (.t 3) 1 true),
          o 12 (.ca 0 (.c (.fn (.func 69) [] [])) [.t 11]),
          o 13 (.ca 0 (.c (.fn (.func 36) [] [])) [.t 12]),
          u (.st false (.t 4) (.t 13) 1),
          o 5 (.mv (.c (.bool true)))])
        .ret)))⟩
def h58 : Hint := { sh := [], conv := [], shCall := [], loops := [] }

/-- (sieveholes/nat.Cap).Mul -/
def g61 : GFn := ⟨15, [.cell 6 1 true, .tmp 7],
  (.seq
    (.ops false [o 4 (.bp (.t 1)),
      o 5 (.bp (.t 2)),
      o 6 (.bp (.c (.agg [.nilSl]))),
      o 7 (.mv (.c (.bool false)))])
    (.seq
      (.ops false [o 8 (.mv (.t 0)),
        o 9 (.ld false (.t 4) 1 true),
        o 10 (.ld false (.t 5) 1 true),
        o 11 (.ca 0 (.c (.fn (.func 18) [] [])) [.t 9, .t 10]),
        o 12 (.ca 0 (.c (.fn (.func 63) [] [])) [.t 8, .t 11]),
        o 13 (.ex (.t 12) 0),
        o 14 (.ex (.t 12) 1),
        u (.st false (.t 6) (.t 13) 1),
        o 7 (.mv (.t 14))])
      .ret))⟩
def h61 : Hint := { sh := [], conv := [], shCall := [], loops := [] }

/-- sieveholes/nat.Add$1 -/
def g62 : GFn := ⟨17, [.tmp 5],
  (.seq
    (.ops false [o 5 (.mv (.c (.int .u64 0)))])
    (.seq
      (.ops false [o 9 (.mv (.t 0)),
        o 10 (.mv (.t 1)),
        o 11 (.ld true (.t 2) 1 false),
        o 12 (.a64 (.t 9) (.t 10) (.t 11)),
        o 8 (.mv (.t 12)),
        o 13 (.ex (.t 8) 0),
        o 14 (.ex (.t 8) 1),
        o 6 (.mv (.t 13)),
        o 7 (.mv (.t 14))])
      (.seq
        (.ops false [o 15 (.mv (.t 7)),
          u (.st true (.t 2) (.t 15) 1)])
        (.seq
          (.ops false [o 16 (.mv (.t 6)),
            o 5 (.mv (.t 16))])
          .ret))))⟩
def h62 : Hint := { sh := [2, 11], conv := [], shCall := [], loops := [] }

/-- (sieveholes/nat.Cap).fit -/
def g63 : GFn := ⟨15, [.cell 4 1 true, .tmp 5],
  (.seq
    (.ops false [o 3 (.bp (.t 1)),
      o 4 (.bp (.c (.agg [.nilSl]))),
      o 5 (.mv (.c (.bool false)))])
    (.seq
      (.ops false [o 7 (.mv (.t 0)),
        o 8 (.mf (.func 55) [.t 7] []),
        o 6 (.mv (.t 8))])
      (.seq
        (.seq
          (.ops false [o 9 (.mv (.t 6)),
            o 10 (.ld false (.t 3) 1 true),
            o 11 (.ca 0 (.t 9) [.t 10]),
            o 12 (.un .not (.t 11))])
          (.cond (.t 12)
            (.seq
              (.ops false [o 13 (.bu [.nilSl] []),
                u (.st false (.t 4) (.t 13) 1),
                o 5 (.mv (.c (.bool false)))])
              .ret)
            .skip))
        (.seq
          (.ops false [o 14 (.ld false (.t 3) 1 true),
            u (.st false (.t 4) (.t 14) 1),
            o 5 (.mv (.c (.bool true)))])
          .ret))))⟩
def h63 : Hint := { sh := [], conv := [], shCall := [], loops := [] }

/-- (sieveholes/tree.Tree).parts$1 -/
def g64 : GFn := ⟨26, [.tmp 5],
  (.seq
    (.ops false [o 4 (.bp (.t 0)),
      o 5 (.mv (.c (.bool false)))])
    (.seq
      (.ops false [o 7 (.ld true (.t 1) 1 false),
        o 8 (.ld false (.t 4) 7 true),
        o 9 (.ca 0 (.c (.fn (.func 9) [] [])) [.t 7, .t 8]),
        o 6 (.bp (.c (.agg [.bool false, .nilSl, .nilSl]))),
        u (.st false (.t 6) (.t 9) 3)])
      (.seq
        (.seq
          (.ops false [o 10 (.ad (.t 6) 0),
            o 11 (.ld false (.t 10) 1 false)])
          (.cond (.t 11)
            (.seq
              (.ops false [o 12 (.ld false (.t 6) 3 true),
                u (.st true (.t 2) (.t 12) 3)])
              (.seq
                (.ops false [o 5 (.mv (.c (.bool false)))])
                .ret))
            .skip))
        (.seq
          (.ops false [o 13 (.ld true (.t 3) 1 false),
            o 14 (.ld true (.t 2) 3 true),
            o 15 (.ld false (.t 6) 3 true),
            o 16 (.ca 0 (.t 13) [.t 14, .t 15]),
            u (.st false (.t 6) (.t 16) 3)])
          (.seq
            (.ops false [o 17 (.ld true (.t 1) 1 false),
              o 18 (.ad (.t 6) 1),
              o 19 (.ld false (.t 18) 1 true),
              o 20 (.ad (.t 6) 2),
              o 21 (.ld false (.t 20) 1 true),
              o 22 (.ca 0 (.c (.fn (.func 45) [] [])) [.t 17, .t 19, .t 21]),
              u (.st true (.t 2) (.t 22) 3)])
            (.seq
              (.ops false [o 23 (.ad (.t 2) 0),
                o 24 (.ld true (.t 23) 1 false),
                o 25 (.un .not (.t 24)),
                o 5 (.mv (.t 25))])
              .ret))))))⟩
def h64 : Hint := { sh := [2, 7, 13, 14, 17, 24], conv := [], shCall := [], loops := [] }

def g65_b0 : GCode :=
  (.seq
    (.seq
      (.ops false [o 50 (.mv (.t 11)),
        o 51 (.mv (.t 2)),
        o 52 (.bi .lss (.t 50) (.t 51)),
        o 53 (.mv (.t 52)),
        og 54 (.mv (.t 10)) 53 true,
        o 55 (.pk (.t 53) (.t 54) (.c (.bool false)))])
      (.cond (.t 55)
        .skip
        (.exit 1)))
    (.seq
      (.block 2
        (.seq
          (.ops false [o 59 (.mv (.t 0)),
            o 60 (.ld false (.t 9) 1 true),
            o 61 (.ld false (.t 4) 1 true),
            o 62 (.ca 0 (.c (.fn (.func 61) [] [])) [.t 59, .t 60, .t 61]),
            o 58 (.mv (.t 62)),
            o 63 (.ex (.t 58) 0),
            o 64 (.ex (.t 58) 1),
            u (.st false (.t 9) (.t 63) 1),
            o 10 (.mv (.t 64))])
          (.seq
            (.ops false [o 65 (.mv (.t 10))])
            (.cond (.t 65)
              (.ops false [o 67 (.mv (.t 0)),
                o 68 (.ld false (.t 9) 1 true),
                o 69 (.ld false (.t 8) 1 true),
                o 70 (.ca 0 (.c (.fn (.func 39) [] [])) [.t 67, .t 68, .t 69]),
                o 66 (.mv (.t 70)),
                o 71 (.ex (.t 66) 0),
                o 72 (.ex (.t 66) 1),
                u (.st false (.t 9) (.t 71) 1),
                o 10 (.mv (.t 72))])
              .skip))))
      (.ops false [o 56 (.mv (.t 11)),
        o 57 (.bi .add (.t 56) (.c (.int .u64 1))),
        o 11 (.mv (.t 57))])))
def g65_l0 : GCode := .loop [4, 6, 8, 9] [0, 2, 10, 11] [6, 9] [10] g65_b0
/-- sieveholes/power.Sum -/
def g65 : GFn := ⟨75, [.cell 6 1 true, .tmp 7],
  (.seq
    (.ops false [o 4 (.bp (.t 1)),
      o 6 (.bp (.c (.agg [.nilSl]))),
      o 7 (.mv (.c (.bool false)))])
    (.seq
      (.block 0
        (.seq
          (.ops false [o 13 (.ld false (.t 4) 1 true),
            o 14 (.ca 0 (.c (.fn (.func 13) [] [])) [.t 13]),
            o 15 (.bi .eql (.t 14) (.c (.int .i64 0))),
            o 16 (.mv (.t 15)),
            og 17 (.mv (.t 2)) 16 false,
            og 18 (.bi .eql (.t 17) (.c (.int .u64 0))) 16 false,
            o 19 (.pk (.t 16) (.c (.bool true)) (.t 18)),
            o 12 (.mv (.t 19))])
          (.cond (.t 12)
            (.seq
              (.ops false [o 20 (.mv (.t 0)),
                o 21 (.ca 0 (.c (.fn (.func 12) [] [])) [.c (.int .u64 1)]),
                o 22 (.ca 0 (.c (.fn (.func 58) [] [])) [.t 20, .t 21]),
                o 23 (.ex (.t 22) 0),
                o 24 (.ex (.t 22) 1),
                u (.st false (.t 6) (.t 23) 1),
                o 7 (.mv (.t 24))])
              .ret)
            (.seq
              (.ops false [o 26 (.ld false (.t 4) 1 true),
                o 27 (.ca 0 (.c (.fn (.func 66) [] [])) [.t 26]),
                o 28 (.un .not (.t 27)),
                o 25 (.mv (.t 28))])
              (.cond (.t 25)
                (.seq
                  (.ops false [o 29 (.mv (.t 0)),
                    o 30 (.mv (.t 2)),
                    o 31 (.ca 0 (.c (.fn (.func 12) [] [])) [.t 30]),
                    o 32 (.ca 0 (.c (.fn (.func 12) [] [])) [.c (.int .u64 1)]),
                    o 33 (.ca 0 (.c (.fn (.func 38) [] [])) [.t 31, .t 32]),
                    o 34 (.ca 0 (.c (.fn (.func 58) [] [])) [.t 29, .t 33]),
                    o 35 (.ex (.t 34) 0),
                    o 36 (.ex (.t 34) 1),
                    u (.st false (.t 6) (.t 35) 1),
                    o 7 (.mv (.t 36))])
                  .ret)
                (.seq
                  (.ops false [o 38 (.mv (.t 2)),
                    o 39 (.mv (.t 0)),
                    o 40 (.ca 0 (.c (.fn (.func 40) [] [])) [.t 39]),
                    o 41 (.bi .geq (.t 38) (.t 40)),
                    o 37 (.mv (.t 41))])
                  (.cond (.t 37)
                    (.seq
                      (.ops false [o 42 (.bu [.nilSl] []),
                        u (.st false (.t 6) (.t 42) 1),
                        o 7 (.mv (.c (.bool false)))])
                      .ret)
                    .skip)))))))
      (.seq
        (.ops false [o 43 (.ca 0 (.c (.fn (.func 12) [] [])) [.c (.int .u64 1)]),
          o 8 (.bp (.c (.agg [.nilSl]))),
          u (.st false (.t 8) (.t 43) 1)])
        (.seq
          (.ops false [o 45 (.mv (.t 0)),
            o 46 (.ld false (.t 8) 1 true),
            o 47 (.ca 0 (.c (.fn (.func 58) [] [])) [.t 45, .t 46]),
            o 44 (.mv (.t 47)),
            o 48 (.ex (.t 44) 0),
            o 49 (.ex (.t 44) 1),
            o 9 (.bp (.c (.agg [.nilSl]))),
            u (.st false (.t 9) (.t 48) 1),
            o 10 (.mv (.t 49))])
          (.seq
            (.seq
              (.ops false [o 11 (.mv (.c (.int .u64 0)))])
              (.block 1
                g65_l0))
            (.seq
              (.ops false [o 73 (.ld false (.t 9) 1 true),
                o 74 (.mv (.t 10)),
                u (.st false (.t 6) (.t 73) 1),
                o 7 (.mv (.t 74))])
              .ret))))))⟩
def h65 : Hint := { sh := [], conv := [], shCall := [], loops := [([4, 6, 8, 9], [0, 2, 10, 11], [6, 9], [10])] }

/-- sieveholes/power.great -/
def g66 : GFn := ⟨7, [.tmp 2],
  (.seq
    (.ops false [o 1 (.bp (.t 0)),
      o 2 (.mv (.c (.bool false)))])
    (.seq
      (.ops true [o 3 (.ld false (.t 1) 1 true),
        o 4 (.ca 0 (.c (.fn (.func 12) [] [])) [.c (.int .u64 1)]),
        o 5 (.ca 0 (.c (.fn (.func 11) [] [])) [.t 3, .t 4]),
        o 6 (.bi .gtr (.t 5) (.c (.int .i64 0))),
        o 2 (.mv (.t 6))])
      .ret))⟩
def h66 : Hint := { sh := [], conv := [], shCall := [], loops := [] }

/-- sieveholes/power.Pow$1 -/
def g67 : GFn := ⟨10, [],
  (.ops false [o 4 (.ld true (.t 0) 1 false),
    o 5 (.ld true (.t 1) 1 true),
    o 6 (.ld true (.t 1) 1 true),
    o 7 (.ca 0 (.c (.fn (.func 61) [] [])) [.t 4, .t 5, .t 6]),
    o 3 (.mv (.t 7)),
    o 8 (.ex (.t 3) 0),
    o 9 (.ex (.t 3) 1),
    u (.st true (.t 1) (.t 8) 1),
    u (.st true (.t 2) (.t 9) 1)])⟩
def h67 : Hint := { sh := [1, 2, 4, 5, 6], conv := [], shCall := [], loops := [] }

def g68_s0 : ByteArray := ⟨#[0, 1, 2, 2, 3, 3, 3, 3, 4, 4, 4, 4, 4, 4, 4, 4, 5, 5, 5, 5, 5, 5, 5, 5, 5, 5, 5, 5, 5, 5, 5, 5, 6, 6, 6, 6, 6, 6, 6, 6, 6, 6, 6, 6, 6, 6, 6, 6, 6, 6, 6, 6, 6, 6, 6, 6, 6, 6, 6, 6, 6, 6, 6, 6, 7, 7, 7, 7, 7, 7, 7, 7, 7, 7, 7, 7, 7, 7, 7, 7, 7, 7, 7, 7, 7, 7, 7, 7, 7, 7, 7, 7, 7, 7, 7, 7, 7, 7, 7, 7, 7, 7, 7, 7, 7, 7, 7, 7, 7, 7, 7, 7, 7, 7, 7, 7, 7, 7, 7, 7, 7, 7, 7, 7, 7, 7, 7, 7, 8, 8, 8, 8, 8, 8, 8, 8, 8, 8, 8, 8, 8, 8, 8, 8, 8, 8, 8, 8, 8, 8, 8, 8, 8, 8, 8, 8, 8, 8, 8, 8, 8, 8, 8, 8, 8, 8, 8, 8, 8, 8, 8, 8, 8, 8, 8, 8, 8, 8, 8, 8, 8, 8, 8, 8, 8, 8, 8, 8, 8, 8, 8, 8, 8, 8, 8, 8, 8, 8, 8, 8, 8, 8, 8, 8, 8, 8, 8, 8, 8, 8, 8, 8, 8, 8, 8, 8, 8, 8, 8, 8, 8, 8, 8, 8, 8, 8, 8, 8, 8, 8, 8, 8, 8, 8, 8, 8, 8, 8, 8, 8, 8, 8, 8, 8, 8, 8, 8, 8, 8, 8, 8, 8, 8, 8, 8, 8]⟩
/-- math/bits.Len64 -/
def g68 : GFn := ⟨25, [.tmp 2],
  (.seq
    (.ops false [o 2 (.mv (.c (.int .i64 0)))])
    (.seq
      (.seq
        (.ops false [o 3 (.mv (.t 0)),
          o 4 (.bi .geq (.t 3) (.c (.int .u64 4294967296)))])
        (.cond (.t 4)
          (.seq
            (.ops false [o 5 (.mv (.t 0)),
              o 6 (.bi .shr (.t 5) (.c (.int .u64 32))),
              o 0 (.mv (.t 6))])
            (.ops false [o 2 (.mv (.c (.int .i64 32)))]))
          .skip))
      (.seq
        (.seq
          (.ops false [o 7 (.mv (.t 0)),
            o 8 (.bi .geq (.t 7) (.c (.int .u64 65536)))])
          (.cond (.t 8)
            (.seq
              (.ops false [o 9 (.mv (.t 0)),
                o 10 (.bi .shr (.t 9) (.c (.int .u64 16))),
                o 0 (.mv (.t 10))])
              (.ops false [o 11 (.mv (.t 2)),
                o 12 (.bi .add (.t 11) (.c (.int .i64 16))),
                o 2 (.mv (.t 12))]))
            .skip))
        (.seq
          (.seq
            (.ops false [o 13 (.mv (.t 0)),
              o 14 (.bi .geq (.t 13) (.c (.int .u64 256)))])
            (.cond (.t 14)
              (.seq
                (.ops false [o 15 (.mv (.t 0)),
                  o 16 (.bi .shr (.t 15) (.c (.int .u64 8))),
                  o 0 (.mv (.t 16))])
                (.ops false [o 17 (.mv (.t 2)),
                  o 18 (.bi .add (.t 17) (.c (.int .i64 8))),
                  o 2 (.mv (.t 18))]))
              .skip))
          (.seq
            (.ops false [o 19 (.mv (.t 2)),
              o 20 (.mv (.t 0)),
              o 21 (.cv .u8 (.t 20)),
              o 22 (.xs (.c (.str g68_s0)) (.t 21)),
              o 23 (.cv .i64 (.t 22)),
              o 24 (.bi .add (.t 19) (.t 23)),
              o 2 (.mv (.t 24))])
            .ret)))))⟩
def h68 : Hint := { sh := [], conv := [], shCall := [], loops := [] }

/-- (sieveholes/nat.Nat).All -/
def g69 : GFn := ⟨6, [.tmp 2],
  (.seq
    (.ops false [o 1 (.bp (.t 0)),
      o 2 (.mv (.c (.nilSl)))])
    (.seq
      (.ops false [o 3 (.ad (.t 1) 0),
        o 4 (.ld false (.t 3) 1 false),
        o 5 (.ca 0 (.c (.fn (.func 57) [] [])) [.t 4]),
        o 2 (.mv (.t 5))])
      .ret))⟩
def h69 : Hint := { sh := [], conv := [], shCall := [], loops := [] }

/-- All of them. -/
def table : FuncId → Option GFn
  | 3 => some g3
  | 5 => some g5
  | 6 => some g6
  | 7 => some g7
  | 8 => some g8
  | 9 => some g9
  | 10 => some g10
  | 11 => some g11
  | 12 => some g12
  | 13 => some g13
  | 18 => some g18
  | 19 => some g19
  | 20 => some g20
  | 21 => some g21
  | 22 => some g22
  | 23 => some g23
  | 24 => some g24
  | 25 => some g25
  | 26 => some g26
  | 27 => some g27
  | 28 => some g28
  | 29 => some g29
  | 30 => some g30
  | 31 => some g31
  | 32 => some g32
  | 33 => some g33
  | 34 => some g34
  | 35 => some g35
  | 36 => some g36
  | 38 => some g38
  | 39 => some g39
  | 40 => some g40
  | 41 => some g41
  | 43 => some g43
  | 44 => some g44
  | 45 => some g45
  | 46 => some g46
  | 47 => some g47
  | 48 => some g48
  | 49 => some g49
  | 50 => some g50
  | 51 => some g51
  | 52 => some g52
  | 53 => some g53
  | 54 => some g54
  | 55 => some g55
  | 56 => some g56
  | 57 => some g57
  | 58 => some g58
  | 61 => some g61
  | 62 => some g62
  | 63 => some g63
  | 64 => some g64
  | 65 => some g65
  | 66 => some g66
  | 67 => some g67
  | 68 => some g68
  | 69 => some g69
  | _ => Option.none
end Go.Proofs.Try
