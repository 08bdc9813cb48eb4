/- The code of the functions that are reached, in the words of T. -/
import Derived.Test.YtecmolmlojehgaaGreatMA
namespace Go.Proofs.YtecmolmlojehgaaGreat.T
open Go
def b_laws_FnExactJoinCatalogues : PC :=
  .seq (.ops [o 4 (.mv (.k (.s (.c (.val (.bool false))))))] [0, 1])
  (.seq (.ops [o 5 (.mv (.k (.s (.c (.val (.int .i64 1000000))))))] [0, 1, 5])
   (.seq (.ops [o 17 (.mv (.t 0)),
      o 18 (.mv (.t 5)),
      o 19 (.call 2 [(false, (.t 17)), (false, (.t 18))]),
      o 5 (.mv (.t 19))] [0, 1, 5])
    (.seq (.seq (.ops [o 20 (.mv (.t 5)),
        o 21 (.bin .lss (.t 20) (.k (.s (.c (.val (.int .i64 0))))))] [0, 1, 5, 21])
      (.cond (.t 21) (.seq (.ops [o 4 (.mv (.k (.s (.c (.val (.bool true))))))] [4])
        (.ret))
       (.skip)))
     (.seq (.ops [o 22 (.mv (.t 1)),
        o 23 (.mv (.t 5)),
        o 24 (.call 2 [(false, (.t 22)), (false, (.t 23))]),
        o 5 (.mv (.t 24))] [0, 1, 5])
      (.seq (.seq (.ops [o 25 (.mv (.t 5)),
          o 26 (.bin .lss (.t 25) (.k (.s (.c (.val (.int .i64 0))))))] [0, 1, 26])
        (.cond (.t 26) (.seq (.ops [o 4 (.mv (.k (.s (.c (.val (.bool true))))))] [4])
          (.ret))
         (.skip)))
       (.seq (.ops [o 28 (.mv (.t 0)),
          o 29 (.call 3 [(false, (.t 28)), (false, (.k (.s (.c (.val (.bool false))))))]),
          o 30 (.mv (.t 1)),
          o 31 (.call 3 [(false, (.t 30)), (false, (.k (.s (.c (.val (.bool false))))))]),
          o 32 (.call 101 [(false, (.t 29)), (false, (.t 31))]),
          o 27 (.mvt 32),
          o 33 (.ext 27 0),
          o 34 (.ext 27 1),
          o 6 (.mv (.t 33)),
          o 7 (.mv (.t 34))] [0, 1, 6, 7])
        (.seq (.ops [o 35 (.mv (.t 0)),
           o 36 (.call 3 [(false, (.t 35)), (false, (.k (.s (.c (.val (.bool false))))))]),
           o 8 (.mv (.t 36))] [0, 1, 6, 7, 8])
         (.seq (.ops [o 37 (.mv (.t 1)),
            o 38 (.call 3 [(false, (.t 37)), (false, (.k (.s (.c (.val (.bool false))))))]),
            o 9 (.mv (.t 38))] [0, 1, 6, 7, 8, 9])
          (.seq (.ops [o 40 (.mv (.t 8)),
             o 41 (.mv (.t 9)),
             o 42 (.call 102 [(false, (.t 40)), (false, (.t 41))]),
             o 39 (.mvt 42),
             o 43 (.ext 39 0),
             o 44 (.ext 39 1),
             o 10 (.mv (.t 43)),
             o 11 (.mv (.t 44))] [0, 1, 6, 7, 8, 9, 10, 11])
           (.seq (.seq (.ops [o 45 (.mv (.t 10)),
               o 46 (.mv (.t 6)),
               o 47 (.call 6 [(false, (.t 45)), (false, (.t 46))]),
               o 48 (.un .not (.t 47)),
               o 49 (.mv (.t 48)),
               ⟨(some 50), (some (49, false)), .no, .no, [], [], .mv (.t 11)⟩,
               ⟨(some 51), (some (49, false)), .no, .no, [], [], .mv (.t 7)⟩,
               ⟨(some 52), (some (49, false)), .no, .no, [], [], .eqb true (.t 50) (.t 51)⟩,
               o 53 (.pick (.t 49) (.k (.s (.c (.val (.bool true))))) (.t 52))] [0, 1, 6, 7, 8, 9, 10, 11, 53])
             (.cond (.t 53) (.seq (.ops [o 4 (.mv (.k (.s (.c (.val (.bool false))))))] [4])
               (.ret))
              (.skip)))
            (.seq (.seq (.ops [o 54 (.mv (.t 8)),
                o 55 (.mv (.t 0)),
                o 56 (.call 3 [(false, (.t 55)), (false, (.k (.s (.c (.val (.bool false))))))]),
                o 57 (.call 7 [(false, (.t 54)), (false, (.t 56))]),
                o 58 (.un .not (.t 57))] [0, 1, 6, 7, 8, 9, 10, 11, 58])
              (.cond (.t 58) (.seq (.ops [o 4 (.mv (.k (.s (.c (.val (.bool false))))))] [4])
                (.ret))
               (.skip)))
             (.seq (.seq (.ops [o 59 (.mv (.t 9)),
                 o 60 (.mv (.t 1)),
                 o 61 (.call 3 [(false, (.t 60)), (false, (.k (.s (.c (.val (.bool false))))))]),
                 o 62 (.call 7 [(false, (.t 59)), (false, (.t 61))]),
                 o 63 (.un .not (.t 62))] [0, 1, 6, 7, 8, 9, 10, 11, 63])
               (.cond (.t 63) (.seq (.ops [o 4 (.mv (.k (.s (.c (.val (.bool false))))))] [4])
                 (.ret))
                (.skip)))
              (.seq (.ops [o 12 (.mv (.k (.s (.c (.val (.int .i64 101))))))] [0, 1, 6, 7, 8, 9, 10, 11, 12])
               (.seq (.ops [o 64 (.mv (.t 8)),
                  o 65 (.mv (.t 12)),
                  o 66 (.call 8 [(true, (.t 64)), (false, (.t 65))]),
                  o 12 (.mv (.t 66))] [0, 1, 6, 7, 9, 10, 11, 12])
                (.seq (.ops [o 67 (.mv (.t 9)),
                   o 68 (.mv (.t 12)),
                   o 69 (.call 8 [(true, (.t 67)), (false, (.t 68))]),
                   o 12 (.mv (.t 69))] [0, 1, 6, 7, 10, 11, 12])
                 (.seq (.seq (.ops [o 70 (.mv (.t 12)),
                     o 71 (.bin .lss (.t 70) (.k (.s (.c (.val (.int .i64 0)))))),
                     o 72 (.mv (.t 71)),
                     ⟨(some 73), (some (72, false)), .no, .no, [], [], .mv (.t 10)⟩,
                     ⟨(some 74), (some (72, false)), .no, .no, [], [], .mv (.t 6)⟩,
                     ⟨(some 75), (some (72, false)), .no, .no, [], [], .call 6 [(false, (.t 73)), (false, (.t 74))]⟩,
                     ⟨(some 76), (some (72, false)), .no, .no, [], [], .un .not (.t 75)⟩,
                     o 77 (.pick (.t 72) (.k (.s (.c (.val (.bool true))))) (.t 76)),
                     o 78 (.mv (.t 77)),
                     ⟨(some 79), (some (78, false)), .no, .no, [], [], .mv (.t 11)⟩,
                     ⟨(some 80), (some (78, false)), .no, .no, [], [], .mv (.t 7)⟩,
                     ⟨(some 81), (some (78, false)), .no, .no, [], [], .eqb true (.t 79) (.t 80)⟩,
                     o 82 (.pick (.t 78) (.k (.s (.c (.val (.bool true))))) (.t 81))] [0, 1, 6, 7, 10, 82])
                   (.cond (.t 82) (.seq (.ops [o 4 (.mv (.k (.s (.c (.val (.bool false))))))] [4])
                     (.ret))
                    (.skip)))
                  (.seq (.ops [o 13 (.mv (.k (.s (.c (.val (.int .i64 101))))))] [0, 1, 6, 7, 10, 13])
                   (.seq (.ops [o 83 (.mv (.t 10)),
                      o 84 (.mv (.t 13)),
                      o 85 (.call 8 [(true, (.t 83)), (false, (.t 84))]),
                      o 13 (.mv (.t 85))] [0, 1, 6, 7, 10, 13])
                    (.seq (.ops [o 14 (.mv (.k (.s (.c (.val (.int .i64 101))))))] [0, 1, 6, 7, 10, 13, 14])
                     (.seq (.ops [o 86 (.mv (.t 10)),
                        o 87 (.mv (.t 14)),
                        o 88 (.call 9 [(false, (.t 86)), (false, (.t 87))]),
                        o 14 (.mv (.t 88))] [0, 1, 6, 7, 10, 13, 14])
                      (.seq (.seq (.ops [o 89 (.mv (.t 14)),
                          o 90 (.bin .lss (.t 89) (.k (.s (.c (.val (.int .i64 0))))))] [0, 1, 6, 7, 10, 13, 14, 90])
                        (.cond (.t 90) (.seq (.ops [o 4 (.mv (.k (.s (.c (.val (.bool false))))))] [4])
                          (.ret))
                         (.skip)))
                       (.seq (.seq (.ops [o 91 (.mv (.t 14)),
                           o 92 (.mv (.t 13)),
                           o 93 (.bin .neq (.t 91) (.t 92))] [0, 1, 6, 7, 10, 13, 93])
                         (.cond (.t 93) (.seq (.ops [o 4 (.mv (.k (.s (.c (.val (.bool false))))))] [4])
                           (.ret))
                          (.skip)))
                        (.seq (.ops [o 95 (.mv (.t 0)),
                           o 96 (.call 3 [(false, (.t 95)), (false, (.k (.s (.c (.val (.bool true))))))]),
                           o 97 (.mv (.t 1)),
                           o 98 (.call 3 [(false, (.t 97)), (false, (.k (.s (.c (.val (.bool true))))))]),
                           o 99 (.call 102 [(false, (.t 96)), (false, (.t 98))]),
                           o 94 (.mvt 99),
                           o 100 (.ext 94 0),
                           o 101 (.ext 94 1),
                           o 15 (.mv (.t 100)),
                           o 16 (.mv (.t 101))] [6, 7, 10, 13, 15, 16])
                         (.seq (.seq (.ops [o 102 (.mv (.t 15)),
                             o 103 (.mv (.t 6)),
                             o 104 (.call 6 [(false, (.t 102)), (false, (.t 103))]),
                             o 105 (.un .not (.t 104)),
                             o 106 (.mv (.t 105)),
                             ⟨(some 107), (some (106, false)), .no, .no, [], [], .mv (.t 16)⟩,
                             ⟨(some 108), (some (106, false)), .no, .no, [], [], .mv (.t 7)⟩,
                             ⟨(some 109), (some (106, false)), .no, .no, [], [], .eqb true (.t 107) (.t 108)⟩,
                             o 110 (.pick (.t 106) (.k (.s (.c (.val (.bool true))))) (.t 109))] [10, 13, 110])
                           (.cond (.t 110) (.seq (.ops [o 4 (.mv (.k (.s (.c (.val (.bool false))))))] [4])
                             (.ret))
                            (.skip)))
                          (.seq (.ops [o 14 (.mv (.k (.s (.c (.val (.int .i64 101))))))] [10, 13, 14])
                           (.seq (.ops [o 111 (.mv (.t 10)),
                              o 112 (.mv (.t 14)),
                              o 113 (.call 9 [(false, (.t 111)), (false, (.t 112))]),
                              o 14 (.mv (.t 113))] [13, 14])
                            (.seq (.seq (.ops [o 114 (.mv (.t 14)),
                                o 115 (.bin .lss (.t 114) (.k (.s (.c (.val (.int .i64 0))))))] [13, 14, 115])
                              (.cond (.t 115) (.seq (.ops [o 4 (.mv (.k (.s (.c (.val (.bool false))))))] [4])
                                (.ret))
                               (.skip)))
                             (.seq (.seq (.ops [o 116 (.mv (.t 14)),
                                 o 117 (.mv (.t 13)),
                                 o 118 (.bin .neq (.t 116) (.t 117))] [118])
                               (.cond (.t 118) (.seq (.ops [o 4 (.mv (.k (.s (.c (.val (.bool false))))))] [4])
                                 (.ret))
                                (.skip)))
                              (.seq (.ops [o 4 (.mv (.k (.s (.c (.val (.bool true))))))] [4])
                               (.ret))))))))))))))))))))))))))))))
def c_laws_FnExactJoinCatalogues : PFunc := ⟨2, 119, b_laws_FnExactJoinCatalogues, [.t 4]⟩
def b_laws_FnExactChangedSystems : PC :=
  .seq (.ops [o 4 (.mv (.k (.s (.c (.val (.bool false))))))] [0, 1])
  (.seq (.ops [o 5 (.mv (.k (.s (.c (.val (.int .i64 1000000))))))] [0, 1, 5])
   (.seq (.ops [o 17 (.mv (.t 0)),
      o 18 (.mv (.t 5)),
      o 19 (.call 2 [(false, (.t 17)), (false, (.t 18))]),
      o 5 (.mv (.t 19))] [0, 1, 5])
    (.seq (.seq (.ops [o 20 (.mv (.t 5)),
        o 21 (.bin .lss (.t 20) (.k (.s (.c (.val (.int .i64 0))))))] [0, 1, 5, 21])
      (.cond (.t 21) (.seq (.ops [o 4 (.mv (.k (.s (.c (.val (.bool true))))))] [4])
        (.ret))
       (.skip)))
     (.seq (.ops [o 22 (.mv (.t 1)),
        o 23 (.mv (.t 5)),
        o 24 (.call 2 [(false, (.t 22)), (false, (.t 23))]),
        o 5 (.mv (.t 24))] [0, 1, 5])
      (.seq (.seq (.ops [o 25 (.mv (.t 5)),
          o 26 (.bin .lss (.t 25) (.k (.s (.c (.val (.int .i64 0))))))] [0, 1, 26])
        (.cond (.t 26) (.seq (.ops [o 4 (.mv (.k (.s (.c (.val (.bool true))))))] [4])
          (.ret))
         (.skip)))
       (.seq (.ops [o 28 (.mv (.t 0)),
          o 29 (.call 3 [(false, (.t 28)), (false, (.k (.s (.c (.val (.bool false))))))]),
          o 30 (.mv (.t 1)),
          o 31 (.call 3 [(false, (.t 30)), (false, (.k (.s (.c (.val (.bool false))))))]),
          o 32 (.call 103 [(false, (.t 29)), (false, (.t 31))]),
          o 27 (.mvt 32),
          o 33 (.ext 27 0),
          o 34 (.ext 27 1),
          o 6 (.mv (.t 33)),
          o 7 (.mv (.t 34))] [0, 1, 6, 7])
        (.seq (.ops [o 35 (.mv (.t 0)),
           o 36 (.call 3 [(false, (.t 35)), (false, (.k (.s (.c (.val (.bool false))))))]),
           o 8 (.mv (.t 36))] [0, 1, 6, 7, 8])
         (.seq (.ops [o 37 (.mv (.t 1)),
            o 38 (.call 3 [(false, (.t 37)), (false, (.k (.s (.c (.val (.bool false))))))]),
            o 9 (.mv (.t 38))] [0, 1, 6, 7, 8, 9])
          (.seq (.ops [o 40 (.mv (.t 8)),
             o 41 (.mv (.t 9)),
             o 42 (.call 104 [(false, (.t 40)), (false, (.t 41))]),
             o 39 (.mvt 42),
             o 43 (.ext 39 0),
             o 44 (.ext 39 1),
             o 10 (.mv (.t 43)),
             o 11 (.mv (.t 44))] [0, 1, 6, 7, 8, 9, 10, 11])
           (.seq (.seq (.ops [o 45 (.mv (.t 10)),
               o 46 (.mv (.t 6)),
               o 47 (.call 105 [(false, (.t 45)), (false, (.t 46))]),
               o 48 (.un .not (.t 47)),
               o 49 (.mv (.t 48)),
               ⟨(some 50), (some (49, false)), .no, .no, [], [], .mv (.t 11)⟩,
               ⟨(some 51), (some (49, false)), .no, .no, [], [], .mv (.t 7)⟩,
               ⟨(some 52), (some (49, false)), .no, .no, [], [], .eqb true (.t 50) (.t 51)⟩,
               o 53 (.pick (.t 49) (.k (.s (.c (.val (.bool true))))) (.t 52))] [0, 1, 6, 7, 8, 9, 10, 11, 53])
             (.cond (.t 53) (.seq (.ops [o 4 (.mv (.k (.s (.c (.val (.bool false))))))] [4])
               (.ret))
              (.skip)))
            (.seq (.seq (.ops [o 54 (.mv (.t 8)),
                o 55 (.mv (.t 0)),
                o 56 (.call 3 [(false, (.t 55)), (false, (.k (.s (.c (.val (.bool false))))))]),
                o 57 (.call 7 [(false, (.t 54)), (false, (.t 56))]),
                o 58 (.un .not (.t 57))] [0, 1, 6, 7, 8, 9, 10, 11, 58])
              (.cond (.t 58) (.seq (.ops [o 4 (.mv (.k (.s (.c (.val (.bool false))))))] [4])
                (.ret))
               (.skip)))
             (.seq (.seq (.ops [o 59 (.mv (.t 9)),
                 o 60 (.mv (.t 1)),
                 o 61 (.call 3 [(false, (.t 60)), (false, (.k (.s (.c (.val (.bool false))))))]),
                 o 62 (.call 7 [(false, (.t 59)), (false, (.t 61))]),
                 o 63 (.un .not (.t 62))] [0, 1, 6, 7, 8, 9, 10, 11, 63])
               (.cond (.t 63) (.seq (.ops [o 4 (.mv (.k (.s (.c (.val (.bool false))))))] [4])
                 (.ret))
                (.skip)))
              (.seq (.ops [o 12 (.mv (.k (.s (.c (.val (.int .i64 101))))))] [0, 1, 6, 7, 8, 9, 10, 11, 12])
               (.seq (.ops [o 64 (.mv (.t 8)),
                  o 65 (.mv (.t 12)),
                  o 66 (.call 8 [(true, (.t 64)), (false, (.t 65))]),
                  o 12 (.mv (.t 66))] [0, 1, 6, 7, 9, 10, 11, 12])
                (.seq (.ops [o 67 (.mv (.t 9)),
                   o 68 (.mv (.t 12)),
                   o 69 (.call 8 [(true, (.t 67)), (false, (.t 68))]),
                   o 12 (.mv (.t 69))] [0, 1, 6, 7, 10, 11, 12])
                 (.seq (.seq (.ops [o 70 (.mv (.t 12)),
                     o 71 (.bin .lss (.t 70) (.k (.s (.c (.val (.int .i64 0)))))),
                     o 72 (.mv (.t 71)),
                     ⟨(some 73), (some (72, false)), .no, .no, [], [], .mv (.t 10)⟩,
                     ⟨(some 74), (some (72, false)), .no, .no, [], [], .mv (.t 6)⟩,
                     ⟨(some 75), (some (72, false)), .no, .no, [], [], .call 105 [(false, (.t 73)), (false, (.t 74))]⟩,
                     ⟨(some 76), (some (72, false)), .no, .no, [], [], .un .not (.t 75)⟩,
                     o 77 (.pick (.t 72) (.k (.s (.c (.val (.bool true))))) (.t 76)),
                     o 78 (.mv (.t 77)),
                     ⟨(some 79), (some (78, false)), .no, .no, [], [], .mv (.t 11)⟩,
                     ⟨(some 80), (some (78, false)), .no, .no, [], [], .mv (.t 7)⟩,
                     ⟨(some 81), (some (78, false)), .no, .no, [], [], .eqb true (.t 79) (.t 80)⟩,
                     o 82 (.pick (.t 78) (.k (.s (.c (.val (.bool true))))) (.t 81))] [0, 1, 6, 7, 10, 82])
                   (.cond (.t 82) (.seq (.ops [o 4 (.mv (.k (.s (.c (.val (.bool false))))))] [4])
                     (.ret))
                    (.skip)))
                  (.seq (.ops [o 13 (.mv (.k (.s (.c (.val (.int .i64 101))))))] [0, 1, 6, 7, 10, 13])
                   (.seq (.ops [o 83 (.mv (.t 10)),
                      o 84 (.mv (.t 13)),
                      o 85 (.call 106 [(true, (.t 83)), (false, (.t 84))]),
                      o 13 (.mv (.t 85))] [0, 1, 6, 7, 10, 13])
                    (.seq (.ops [o 14 (.mv (.k (.s (.c (.val (.int .i64 101))))))] [0, 1, 6, 7, 10, 13, 14])
                     (.seq (.ops [o 86 (.mv (.t 10)),
                        o 87 (.mv (.t 14)),
                        o 88 (.call 107 [(false, (.t 86)), (false, (.t 87))]),
                        o 14 (.mv (.t 88))] [0, 1, 6, 7, 10, 13, 14])
                      (.seq (.seq (.ops [o 89 (.mv (.t 14)),
                          o 90 (.bin .lss (.t 89) (.k (.s (.c (.val (.int .i64 0))))))] [0, 1, 6, 7, 10, 13, 14, 90])
                        (.cond (.t 90) (.seq (.ops [o 4 (.mv (.k (.s (.c (.val (.bool false))))))] [4])
                          (.ret))
                         (.skip)))
                       (.seq (.seq (.ops [o 91 (.mv (.t 14)),
                           o 92 (.mv (.t 13)),
                           o 93 (.bin .neq (.t 91) (.t 92))] [0, 1, 6, 7, 10, 13, 93])
                         (.cond (.t 93) (.seq (.ops [o 4 (.mv (.k (.s (.c (.val (.bool false))))))] [4])
                           (.ret))
                          (.skip)))
                        (.seq (.ops [o 95 (.mv (.t 0)),
                           o 96 (.call 3 [(false, (.t 95)), (false, (.k (.s (.c (.val (.bool true))))))]),
                           o 97 (.mv (.t 1)),
                           o 98 (.call 3 [(false, (.t 97)), (false, (.k (.s (.c (.val (.bool true))))))]),
                           o 99 (.call 104 [(false, (.t 96)), (false, (.t 98))]),
                           o 94 (.mvt 99),
                           o 100 (.ext 94 0),
                           o 101 (.ext 94 1),
                           o 15 (.mv (.t 100)),
                           o 16 (.mv (.t 101))] [6, 7, 10, 13, 15, 16])
                         (.seq (.seq (.ops [o 102 (.mv (.t 15)),
                             o 103 (.mv (.t 6)),
                             o 104 (.call 105 [(false, (.t 102)), (false, (.t 103))]),
                             o 105 (.un .not (.t 104)),
                             o 106 (.mv (.t 105)),
                             ⟨(some 107), (some (106, false)), .no, .no, [], [], .mv (.t 16)⟩,
                             ⟨(some 108), (some (106, false)), .no, .no, [], [], .mv (.t 7)⟩,
                             ⟨(some 109), (some (106, false)), .no, .no, [], [], .eqb true (.t 107) (.t 108)⟩,
                             o 110 (.pick (.t 106) (.k (.s (.c (.val (.bool true))))) (.t 109))] [10, 13, 110])
                           (.cond (.t 110) (.seq (.ops [o 4 (.mv (.k (.s (.c (.val (.bool false))))))] [4])
                             (.ret))
                            (.skip)))
                          (.seq (.ops [o 14 (.mv (.k (.s (.c (.val (.int .i64 101))))))] [10, 13, 14])
                           (.seq (.ops [o 111 (.mv (.t 10)),
                              o 112 (.mv (.t 14)),
                              o 113 (.call 107 [(false, (.t 111)), (false, (.t 112))]),
                              o 14 (.mv (.t 113))] [13, 14])
                            (.seq (.seq (.ops [o 114 (.mv (.t 14)),
                                o 115 (.bin .lss (.t 114) (.k (.s (.c (.val (.int .i64 0))))))] [13, 14, 115])
                              (.cond (.t 115) (.seq (.ops [o 4 (.mv (.k (.s (.c (.val (.bool false))))))] [4])
                                (.ret))
                               (.skip)))
                             (.seq (.seq (.ops [o 116 (.mv (.t 14)),
                                 o 117 (.mv (.t 13)),
                                 o 118 (.bin .neq (.t 116) (.t 117))] [118])
                               (.cond (.t 118) (.seq (.ops [o 4 (.mv (.k (.s (.c (.val (.bool false))))))] [4])
                                 (.ret))
                                (.skip)))
                              (.seq (.ops [o 4 (.mv (.k (.s (.c (.val (.bool true))))))] [4])
                               (.ret))))))))))))))))))))))))))))))
def c_laws_FnExactChangedSystems : PFunc := ⟨2, 119, b_laws_FnExactChangedSystems, [.t 4]⟩
def l1_laws_szEntryS : PC :=
  .seq (.seq (.ops [o 12 (.mv (.t 5)),
     o 13 (.mv (.t 0)),
     o 14 (.len false (.t 13)),
     o 15 (.bin .lss (.t 12) (.t 14))] [0, 1, 5, 15])
   (.cond (.t 15) (.skip)
    (.exit 0)))
  (.seq (.block 1
    (.seq (.ops [o 18 (.mv (.t 0)),
       o 19 (.mv (.t 5)),
       o 20 (.ia 8 (.t 18) (.t 19)),
       o 21 (.ld true 8 (.t 20)),
       o 22 (.mv (.t 1)),
       o 23 (.call 10 [(false, (.t 21)), (false, (.t 22))]),
       o 1 (.mv (.t 23))] [0, 1, 5])
     (.seq (.ops [o 24 (.mv (.t 1)),
        o 25 (.bin .lss (.t 24) (.k (.s (.c (.val (.int .i64 0))))))] [0, 1, 5, 25])
      (.cond (.t 25) (.seq (.ops [o 4 (.mv (.k (.s (.c (.val (.int .i64 (-1)))))))] [4])
        (.ret))
       (.skip)))))
   (.ops [o 16 (.mv (.t 5)),
     o 17 (.bin .add (.t 16) (.k (.s (.c (.val (.int .i64 1)))))),
     o 5 (.mv (.t 17))] [0, 1, 5]))
def b_laws_szEntryS : PC :=
  .seq (.ops [o 4 (.mv (.k (.s (.c (.val (.int .i64 0))))))] [0, 1])
  (.seq (.ops [o 6 (.mv (.t 1)),
     o 7 (.mv (.t 0)),
     o 8 (.len false (.t 7)),
     o 9 (.bin .sub (.t 6) (.t 8)),
     o 1 (.mv (.t 9))] [0, 1])
   (.seq (.seq (.ops [o 10 (.mv (.t 1)),
       o 11 (.bin .lss (.t 10) (.k (.s (.c (.val (.int .i64 0))))))] [0, 1, 11])
     (.cond (.t 11) (.seq (.ops [o 4 (.mv (.k (.s (.c (.val (.int .i64 (-1)))))))] [4])
       (.ret))
      (.skip)))
    (.seq (.seq (.ops [o 5 (.mv (.k (.s (.c (.val (.int .i64 0))))))] [0, 1, 5])
      (.block 0
       (.loop [0, 1, 5] l1_laws_szEntryS)))
     (.seq (.ops [o 26 (.mv (.t 1)),
        o 4 (.mv (.t 26))] [4])
      (.ret)))))
def c_laws_szEntryS : PFunc := ⟨2, 27, b_laws_szEntryS, [.t 4]⟩
def l1_laws_toEntryS : PC :=
  .seq (.seq (.ops [o 21 (.mv (.t 6)),
     o 22 (.mv (.t 0)),
     o 23 (.len false (.t 22)),
     o 24 (.bin .lss (.t 21) (.t 23))] [0, 1, 5, 6, 24])
   (.cond (.t 24) (.skip)
    (.exit 0)))
  (.seq (.block 1
    (.ops [o 27 (.mv (.t 5)),
      o 28 (.mv (.t 6)),
      o 29 (.mv (.t 0)),
      o 30 (.mv (.t 6)),
      o 31 (.ia 8 (.t 29) (.t 30)),
      o 32 (.ld true 8 (.t 31)),
      o 33 (.mv (.t 1)),
      o 34 (.call 20 [(false, (.t 32)), (false, (.t 33))]),
      o 35 (.ia 8 (.t 27) (.t 28)),
      u (.st 8 (.t 35) (.t 34))] [0, 1, 5, 6]))
   (.ops [o 25 (.mv (.t 6)),
     o 26 (.bin .add (.t 25) (.k (.s (.c (.val (.int .i64 1)))))),
     o 6 (.mv (.t 26))] [0, 1, 5, 6]))
def l2_laws_toEntryS : PC :=
  .seq (.seq (.ops [o 38 (.mv (.t 7)),
     o 39 (.mv (.t 5)),
     o 40 (.len false (.t 39)),
     o 41 (.bin .lss (.t 38) (.t 40))] [0, 5, 7, 41])
   (.cond (.t 41) (.skip)
    (.exit 2)))
  (.seq (.block 3
    (.ops [o 44 (.mv (.t 5)),
      o 45 (.mv (.t 7)),
      o 46 (.call 21 []),
      o 47 (.ia 8 (.t 44) (.t 45)),
      u (.st 8 (.t 47) (.t 46))] [0, 5, 7]))
   (.ops [o 42 (.mv (.t 7)),
     o 43 (.bin .add (.t 42) (.k (.s (.c (.val (.int .i64 1)))))),
     o 7 (.mv (.t 43))] [0, 5, 7]))
def b_laws_toEntryS : PC :=
  .seq (.ops [o 4 (.mkn (.sl 8))] [0, 1])
  (.seq (.seq (.ops [o 8 (.mv (.t 1)),
      o 9 (.mv (.t 8)),
      ⟨(some 10), (some (9, true)), .no, .no, [], [], .mv (.t 0)⟩,
      ⟨(some 11), (some (9, true)), .no, .no, [], [], .len false (.t 10)⟩,
      ⟨(some 12), (some (9, true)), .no, .no, [], [], .bin .eql (.t 11) (.k (.s (.c (.val (.int .i64 0)))))⟩,
      o 13 (.pick (.t 9) (.t 12) (.k (.s (.c (.val (.bool false))))))] [0, 1, 13])
    (.cond (.t 13) (.seq (.ops [o 4 (.mkn (.sl 8))] [4])
      (.ret))
     (.skip)))
   (.seq (.ops [o 14 (.mv (.t 0)),
      o 15 (.len false (.t 14)),
      o 16 (.mv (.t 0)),
      o 17 (.len false (.t 16)),
      o 18 (.call 19 [(false, (.t 17))]),
      o 19 (.bin .add (.t 15) (.t 18)),
      o 20 (.mks (.sl 8) 120 [.val (.string ⟨#[]⟩), .sl 1 [] [], .val (.int .i64 0), .fl 1 [] [], .fl 1 [] [], .val (.int .i64 0), .val (.int .i64 0), .val (.int .i64 0)] (.t 19) (.t 19)),
      o 5 (.mv (.t 20))] [0, 1, 5])
    (.seq (.seq (.ops [o 6 (.mv (.k (.s (.c (.val (.int .i64 0))))))] [0, 1, 5, 6])
      (.block 0
       (.loop [0, 1, 5, 6] l1_laws_toEntryS)))
     (.seq (.seq (.ops [o 36 (.mv (.t 0)),
         o 37 (.len false (.t 36)),
         o 7 (.mv (.t 37))] [0, 5, 7])
       (.block 2
        (.loop [0, 5, 7] l2_laws_toEntryS)))
      (.seq (.ops [o 48 (.mv (.t 5)),
         o 49 (.mv (.t 0)),
         o 50 (.len false (.t 49)),
         o 51 (.slc 8 (.t 48) none (some (.t 50))),
         o 4 (.mv (.t 51))] [4])
       (.ret))))))
def c_laws_toEntryS : PFunc := ⟨2, 52, b_laws_toEntryS, [.t 4]⟩
def l1_laws_eqEntryS : PC :=
  .seq (.seq (.ops [o 11 (.mv (.t 5)),
     o 12 (.mv (.t 0)),
     o 13 (.len false (.t 12)),
     o 14 (.bin .lss (.t 11) (.t 13))] [0, 1, 5, 14])
   (.cond (.t 14) (.skip)
    (.exit 0)))
  (.seq (.block 1
    (.seq (.dops [(0, ⟨(some 17), none, .no, .no, [], [18, 21, 22, 23, 24], .mv (.t 0)⟩),
       (1, ⟨(some 18), none, .no, .no, [], [17, 21, 22, 23, 24], .mv (.t 5)⟩),
       (2, ⟨(some 19), none, .no, .no, [0, 1], [21, 22, 23, 24], .ia 8 (.t 17) (.t 18)⟩),
       (3, ⟨(some 20), none, .no, .no, [0, 1, 2], [21, 22, 23, 24], .ld true 8 (.t 19)⟩),
       (4, ⟨(some 21), none, .no, .no, [], [17, 18, 19, 20, 22], .mv (.t 1)⟩),
       (5, ⟨(some 22), none, .no, .no, [], [17, 18, 19, 20, 21], .mv (.t 5)⟩),
       (6, ⟨(some 23), none, .no, .no, [4, 5], [17, 18, 19, 20], .ia 8 (.t 21) (.t 22)⟩),
       (7, ⟨(some 24), none, .no, .no, [4, 5, 6], [17, 18, 19, 20], .ld true 8 (.t 23)⟩),
       (8, ⟨(some 25), none, .no, .all, [0, 1, 2, 3, 4, 5, 6, 7], [], .call 27 [(false, (.t 20)), (false, (.t 24))]⟩),
       (9, ⟨(some 26), none, .no, .no, [0, 1, 2, 3, 4, 5, 6, 7, 8], [], .un .not (.t 25)⟩)] [0, 1, 5, 26])
     (.cond (.t 26) (.seq (.ops [o 4 (.mv (.k (.s (.c (.val (.bool false))))))] [4])
       (.ret))
      (.skip))))
   (.ops [o 15 (.mv (.t 5)),
     o 16 (.bin .add (.t 15) (.k (.s (.c (.val (.int .i64 1)))))),
     o 5 (.mv (.t 16))] [0, 1, 5]))
def b_laws_eqEntryS : PC :=
  .seq (.ops [o 4 (.mv (.k (.s (.c (.val (.bool false))))))] [0, 1])
  (.seq (.seq (.ops [o 6 (.mv (.t 0)),
      o 7 (.len false (.t 6)),
      o 8 (.mv (.t 1)),
      o 9 (.len false (.t 8)),
      o 10 (.bin .neq (.t 7) (.t 9))] [0, 1, 10])
    (.cond (.t 10) (.seq (.ops [o 4 (.mv (.k (.s (.c (.val (.bool false))))))] [4])
      (.ret))
     (.skip)))
   (.seq (.seq (.ops [o 5 (.mv (.k (.s (.c (.val (.int .i64 0))))))] [0, 1, 5])
     (.block 0
      (.loop [0, 1, 5] l1_laws_eqEntryS)))
    (.seq (.ops [o 4 (.mv (.k (.s (.c (.val (.bool true))))))] [4])
     (.ret))))
def c_laws_eqEntryS : PFunc := ⟨2, 27, b_laws_eqEntryS, [.t 4]⟩
def l1_laws_intactEntryS : PC :=
  .seq (.seq (.ops [o 18 (.mv (.t 6)),
     o 19 (.mv (.t 1)),
     o 20 (.len false (.t 19)),
     o 21 (.bin .lss (.t 18) (.t 20))] [0, 1, 5, 6, 21])
   (.cond (.t 21) (.skip)
    (.exit 0)))
  (.seq (.block 1
    (.seq (.dops [(0, ⟨(some 24), none, .no, .no, [], [25, 28, 29, 30, 31], .mv (.t 0)⟩),
       (1, ⟨(some 25), none, .no, .no, [], [24, 28, 29, 30, 31], .mv (.t 6)⟩),
       (2, ⟨(some 26), none, .no, .no, [0, 1], [28, 29, 30, 31], .ia 8 (.t 24) (.t 25)⟩),
       (3, ⟨(some 27), none, .no, .no, [0, 1, 2], [28, 29, 30, 31], .ld true 8 (.t 26)⟩),
       (4, ⟨(some 28), none, .no, .no, [], [24, 25, 26, 27, 29], .mv (.t 1)⟩),
       (5, ⟨(some 29), none, .no, .no, [], [24, 25, 26, 27, 28], .mv (.t 6)⟩),
       (6, ⟨(some 30), none, .no, .no, [4, 5], [24, 25, 26, 27], .ia 8 (.t 28) (.t 29)⟩),
       (7, ⟨(some 31), none, .no, .no, [4, 5, 6], [24, 25, 26, 27], .ld true 8 (.t 30)⟩),
       (8, ⟨(some 32), none, .no, .all, [0, 1, 2, 3, 4, 5, 6, 7], [], .call 28 [(false, (.t 27)), (false, (.t 31))]⟩),
       (9, ⟨(some 33), none, .no, .no, [0, 1, 2, 3, 4, 5, 6, 7, 8], [], .un .not (.t 32)⟩)] [0, 1, 5, 6, 33])
     (.cond (.t 33) (.seq (.ops [o 4 (.mv (.k (.s (.c (.val (.bool false))))))] [4])
       (.ret))
      (.skip))))
   (.ops [o 22 (.mv (.t 6)),
     o 23 (.bin .add (.t 22) (.k (.s (.c (.val (.int .i64 1)))))),
     o 6 (.mv (.t 23))] [0, 1, 5, 6]))
def b_laws_intactEntryS : PC :=
  .seq (.ops [o 4 (.mv (.k (.s (.c (.val (.bool false))))))] [0, 1])
  (.seq (.ops [o 7 (.mv (.t 1)),
     o 8 (.len false (.t 7)),
     o 9 (.mv (.t 1)),
     o 10 (.len false (.t 9)),
     o 11 (.call 19 [(false, (.t 10))]),
     o 12 (.bin .add (.t 8) (.t 11)),
     o 5 (.mv (.t 12))] [0, 1, 5])
   (.seq (.seq (.ops [o 13 (.mv (.t 0)),
       o 14 (.len false (.t 13)),
       o 15 (.mv (.t 1)),
       o 16 (.len false (.t 15)),
       o 17 (.bin .neq (.t 14) (.t 16))] [0, 1, 5, 17])
     (.cond (.t 17) (.seq (.ops [o 4 (.mv (.k (.s (.c (.val (.bool false))))))] [4])
       (.ret))
      (.skip)))
    (.seq (.seq (.ops [o 6 (.mv (.k (.s (.c (.val (.int .i64 0))))))] [0, 1, 5, 6])
      (.block 0
       (.loop [0, 1, 5, 6] l1_laws_intactEntryS)))
     (.seq (.dops [(0, ⟨(some 34), none, .no, .no, [], [35, 36, 37, 39, 40, 41, 42, 43], .mv (.t 0)⟩),
        (1, ⟨(some 35), none, .no, .no, [], [34, 37, 39, 40, 41, 42, 43], .mv (.t 1)⟩),
        (2, ⟨(some 36), none, .no, .no, [1], [34, 37, 39, 40, 41, 42, 43], .len false (.t 35)⟩),
        (3, ⟨(some 37), none, .no, .no, [], [34, 35, 36, 39, 40, 41, 42, 43], .mv (.t 5)⟩),
        (4, ⟨(some 38), none, .no, .no, [0, 1, 2, 3], [39, 40, 41, 42, 43], .slc 8 (.t 34) (some (.t 36)) (some (.t 37))⟩),
        (5, ⟨(some 39), none, .no, .no, [], [34, 35, 36, 37, 38, 40, 41, 42], .mv (.t 1)⟩),
        (6, ⟨(some 40), none, .no, .no, [], [34, 35, 36, 37, 38, 39, 42], .mv (.t 1)⟩),
        (7, ⟨(some 41), none, .no, .no, [6], [34, 35, 36, 37, 38, 39, 42], .len false (.t 40)⟩),
        (8, ⟨(some 42), none, .no, .no, [], [34, 35, 36, 37, 38, 39, 40, 41], .mv (.t 5)⟩),
        (9, ⟨(some 43), none, .no, .no, [5, 6, 7, 8], [34, 35, 36, 37, 38], .slc 8 (.t 39) (some (.t 41)) (some (.t 42))⟩),
        (10, ⟨(some 44), none, .no, .all, [0, 1, 2, 3, 4, 5, 6, 7, 8, 9], [], .call 6 [(false, (.t 38)), (false, (.t 43))]⟩),
        (11, ⟨(some 4), none, .no, .no, [0, 1, 2, 3, 4, 5, 6, 7, 8, 9, 10], [], .mv (.t 44)⟩)] [4])
      (.ret)))))
def c_laws_intactEntryS : PFunc := ⟨2, 45, b_laws_intactEntryS, [.t 4]⟩
def l1_laws_markEntryS : PC :=
  .seq (.seq (.ops [o 6 (.mv (.t 5)),
     o 7 (.mv (.t 0)),
     o 8 (.len false (.t 7)),
     o 9 (.bin .lss (.t 6) (.t 8))] [0, 1, 5, 9])
   (.cond (.t 9) (.skip)
    (.exit 0)))
  (.seq (.block 1
    (.seq (.ops [o 12 (.mv (.t 0)),
       o 13 (.mv (.t 5)),
       o 14 (.mv (.t 1)),
       o 15 (.call 29 [(false, (.t 14))]),
       o 16 (.ia 8 (.t 12) (.t 13)),
       o 17 (.fa 0 (.t 16)),
       u (.st 1 (.t 17) (.t 15))] [0, 1, 5])
     (.seq (.ops [o 18 (.mv (.t 1)),
        o 19 (.bin .add (.t 18) (.k (.s (.c (.val (.int .i64 1)))))),
        o 1 (.mv (.t 19))] [0, 1, 5])
      (.seq (.ops [o 20 (.mv (.t 0)),
         o 21 (.mv (.t 5)),
         o 22 (.ia 8 (.t 20) (.t 21)),
         o 23 (.fa 1 (.t 22)),
         o 24 (.ld false 1 (.t 23)),
         o 25 (.mv (.t 1)),
         o 26 (.call 30 [(true, (.t 24)), (false, (.t 25))]),
         o 1 (.mv (.t 26))] [0, 1, 5])
       (.seq (.ops [o 27 (.mv (.t 0)),
          o 28 (.mv (.t 5)),
          o 29 (.mv (.t 1)),
          o 30 (.ia 8 (.t 27) (.t 28)),
          o 31 (.fa 2 (.t 30)),
          o 32 (.fa 0 (.t 31)),
          u (.st 1 (.t 32) (.t 29))] [0, 1, 5])
        (.seq (.ops [o 33 (.mv (.t 1)),
           o 34 (.bin .add (.t 33) (.k (.s (.c (.val (.int .i64 1)))))),
           o 1 (.mv (.t 34))] [0, 1, 5])
         (.seq (.ops [o 35 (.mv (.t 0)),
            o 36 (.mv (.t 5)),
            o 37 (.ia 8 (.t 35) (.t 36)),
            o 38 (.fa 2 (.t 37)),
            o 39 (.fa 1 (.t 38)),
            o 40 (.ld false 1 (.t 39)),
            o 41 (.mv (.t 1)),
            o 42 (.call 31 [(true, (.t 40)), (false, (.t 41))]),
            o 1 (.mv (.t 42))] [0, 1, 5])
          (.seq (.ops [o 43 (.mv (.t 0)),
             o 44 (.mv (.t 5)),
             o 45 (.ia 8 (.t 43) (.t 44)),
             o 46 (.fa 2 (.t 45)),
             o 47 (.fa 2 (.t 46)),
             o 48 (.ld false 1 (.t 47)),
             o 49 (.mv (.t 1)),
             o 50 (.call 31 [(true, (.t 48)), (false, (.t 49))]),
             o 1 (.mv (.t 50))] [0, 1, 5])
           (.seq (.ops [o 51 (.mv (.t 0)),
              o 52 (.mv (.t 5)),
              o 53 (.mv (.t 1)),
              o 54 (.ia 8 (.t 51) (.t 52)),
              o 55 (.fa 5 (.t 54)),
              u (.st 1 (.t 55) (.t 53))] [0, 1, 5])
            (.seq (.ops [o 56 (.mv (.t 1)),
               o 57 (.bin .add (.t 56) (.k (.s (.c (.val (.int .i64 1)))))),
               o 1 (.mv (.t 57))] [0, 1, 5])
             (.seq (.ops [o 58 (.mv (.t 0)),
                o 59 (.mv (.t 5)),
                o 60 (.mv (.t 1)),
                o 61 (.ia 8 (.t 58) (.t 59)),
                o 62 (.fa 6 (.t 61)),
                u (.st 1 (.t 62) (.t 60))] [0, 1, 5])
              (.seq (.ops [o 63 (.mv (.t 1)),
                 o 64 (.bin .add (.t 63) (.k (.s (.c (.val (.int .i64 1)))))),
                 o 1 (.mv (.t 64))] [0, 1, 5])
               (.seq (.ops [o 65 (.mv (.t 0)),
                  o 66 (.mv (.t 5)),
                  o 67 (.mv (.t 1)),
                  o 68 (.ia 8 (.t 65) (.t 66)),
                  o 69 (.fa 7 (.t 68)),
                  u (.st 1 (.t 69) (.t 67))] [0, 1, 5])
                (.ops [o 70 (.mv (.t 1)),
                  o 71 (.bin .add (.t 70) (.k (.s (.c (.val (.int .i64 1)))))),
                  o 1 (.mv (.t 71))] [0, 1, 5]))))))))))))))
   (.ops [o 10 (.mv (.t 5)),
     o 11 (.bin .add (.t 10) (.k (.s (.c (.val (.int .i64 1)))))),
     o 5 (.mv (.t 11))] [0, 1, 5]))
def b_laws_markEntryS : PC :=
  .seq (.ops [o 4 (.mv (.k (.s (.c (.val (.int .i64 0))))))] [0, 1])
  (.seq (.seq (.ops [o 5 (.mv (.k (.s (.c (.val (.int .i64 0))))))] [0, 1, 5])
    (.block 0
     (.loop [0, 1, 5] l1_laws_markEntryS)))
   (.seq (.ops [o 72 (.mv (.t 1)),
      o 4 (.mv (.t 72))] [4])
    (.ret)))
def c_laws_markEntryS : PFunc := ⟨2, 73, b_laws_markEntryS, [.t 4]⟩
def l1_laws_heldEntryS : PC :=
  .seq (.seq (.ops [o 6 (.mv (.t 5)),
     o 7 (.mv (.t 0)),
     o 8 (.len false (.t 7)),
     o 9 (.bin .lss (.t 6) (.t 8))] [0, 1, 5, 9])
   (.cond (.t 9) (.skip)
    (.exit 0)))
  (.seq (.block 1
    (.seq (.seq (.dops [(0, ⟨(some 12), none, .no, .no, [], [13, 17, 18], .mv (.t 0)⟩),
        (1, ⟨(some 13), none, .no, .no, [], [12, 17, 18], .mv (.t 5)⟩),
        (2, ⟨(some 14), none, .no, .no, [0, 1], [17, 18], .ia 8 (.t 12) (.t 13)⟩),
        (3, ⟨(some 15), none, .no, .no, [0, 1, 2], [17, 18], .fa 0 (.t 14)⟩),
        (4, ⟨(some 16), none, .no, .no, [0, 1, 2, 3], [17, 18], .ld false 1 (.t 15)⟩),
        (5, ⟨(some 17), none, .no, .no, [], [12, 13, 14, 15, 16], .mv (.t 1)⟩),
        (6, ⟨(some 18), none, .no, .no, [5], [12, 13, 14, 15, 16], .call 29 [(false, (.t 17))]⟩),
        (7, ⟨(some 19), none, .no, .no, [0, 1, 2, 3, 4, 5, 6], [], .bin .neq (.t 16) (.t 18)⟩)] [0, 1, 5, 19])
      (.cond (.t 19) (.seq (.ops [o 4 (.mv (.k (.s (.c (.val (.int .i64 (-1)))))))] [4])
        (.ret))
       (.skip)))
     (.seq (.ops [o 20 (.mv (.t 1)),
        o 21 (.bin .add (.t 20) (.k (.s (.c (.val (.int .i64 1)))))),
        o 1 (.mv (.t 21))] [0, 1, 5])
      (.seq (.ops [o 22 (.mv (.t 0)),
         o 23 (.mv (.t 5)),
         o 24 (.ia 8 (.t 22) (.t 23)),
         o 25 (.fa 1 (.t 24)),
         o 26 (.ld false 1 (.t 25)),
         o 27 (.mv (.t 1)),
         o 28 (.call 32 [(false, (.t 26)), (false, (.t 27))]),
         o 1 (.mv (.t 28))] [0, 1, 5])
       (.seq (.seq (.ops [o 29 (.mv (.t 1)),
           o 30 (.bin .lss (.t 29) (.k (.s (.c (.val (.int .i64 0))))))] [0, 1, 5, 30])
         (.cond (.t 30) (.seq (.ops [o 4 (.mv (.k (.s (.c (.val (.int .i64 (-1)))))))] [4])
           (.ret))
          (.skip)))
        (.seq (.seq (.ops [o 31 (.mv (.t 0)),
            o 32 (.mv (.t 5)),
            o 33 (.ia 8 (.t 31) (.t 32)),
            o 34 (.fa 2 (.t 33)),
            o 35 (.fa 0 (.t 34)),
            o 36 (.ld false 1 (.t 35)),
            o 37 (.mv (.t 1)),
            o 38 (.bin .neq (.t 36) (.t 37))] [0, 1, 5, 38])
          (.cond (.t 38) (.seq (.ops [o 4 (.mv (.k (.s (.c (.val (.int .i64 (-1)))))))] [4])
            (.ret))
           (.skip)))
         (.seq (.ops [o 39 (.mv (.t 1)),
            o 40 (.bin .add (.t 39) (.k (.s (.c (.val (.int .i64 1)))))),
            o 1 (.mv (.t 40))] [0, 1, 5])
          (.seq (.ops [o 41 (.mv (.t 0)),
             o 42 (.mv (.t 5)),
             o 43 (.ia 8 (.t 41) (.t 42)),
             o 44 (.fa 2 (.t 43)),
             o 45 (.fa 1 (.t 44)),
             o 46 (.ld false 1 (.t 45)),
             o 47 (.mv (.t 1)),
             o 48 (.call 33 [(false, (.t 46)), (false, (.t 47))]),
             o 1 (.mv (.t 48))] [0, 1, 5])
           (.seq (.seq (.ops [o 49 (.mv (.t 1)),
               o 50 (.bin .lss (.t 49) (.k (.s (.c (.val (.int .i64 0))))))] [0, 1, 5, 50])
             (.cond (.t 50) (.seq (.ops [o 4 (.mv (.k (.s (.c (.val (.int .i64 (-1)))))))] [4])
               (.ret))
              (.skip)))
            (.seq (.ops [o 51 (.mv (.t 0)),
               o 52 (.mv (.t 5)),
               o 53 (.ia 8 (.t 51) (.t 52)),
               o 54 (.fa 2 (.t 53)),
               o 55 (.fa 2 (.t 54)),
               o 56 (.ld false 1 (.t 55)),
               o 57 (.mv (.t 1)),
               o 58 (.call 33 [(false, (.t 56)), (false, (.t 57))]),
               o 1 (.mv (.t 58))] [0, 1, 5])
             (.seq (.seq (.ops [o 59 (.mv (.t 1)),
                 o 60 (.bin .lss (.t 59) (.k (.s (.c (.val (.int .i64 0))))))] [0, 1, 5, 60])
               (.cond (.t 60) (.seq (.ops [o 4 (.mv (.k (.s (.c (.val (.int .i64 (-1)))))))] [4])
                 (.ret))
                (.skip)))
              (.seq (.seq (.ops [o 61 (.mv (.t 0)),
                  o 62 (.mv (.t 5)),
                  o 63 (.ia 8 (.t 61) (.t 62)),
                  o 64 (.fa 5 (.t 63)),
                  o 65 (.ld false 1 (.t 64)),
                  o 66 (.mv (.t 1)),
                  o 67 (.bin .neq (.t 65) (.t 66))] [0, 1, 5, 67])
                (.cond (.t 67) (.seq (.ops [o 4 (.mv (.k (.s (.c (.val (.int .i64 (-1)))))))] [4])
                  (.ret))
                 (.skip)))
               (.seq (.ops [o 68 (.mv (.t 1)),
                  o 69 (.bin .add (.t 68) (.k (.s (.c (.val (.int .i64 1)))))),
                  o 1 (.mv (.t 69))] [0, 1, 5])
                (.seq (.seq (.ops [o 70 (.mv (.t 0)),
                    o 71 (.mv (.t 5)),
                    o 72 (.ia 8 (.t 70) (.t 71)),
                    o 73 (.fa 6 (.t 72)),
                    o 74 (.ld false 1 (.t 73)),
                    o 75 (.mv (.t 1)),
                    o 76 (.bin .neq (.t 74) (.t 75))] [0, 1, 5, 76])
                  (.cond (.t 76) (.seq (.ops [o 4 (.mv (.k (.s (.c (.val (.int .i64 (-1)))))))] [4])
                    (.ret))
                   (.skip)))
                 (.seq (.ops [o 77 (.mv (.t 1)),
                    o 78 (.bin .add (.t 77) (.k (.s (.c (.val (.int .i64 1)))))),
                    o 1 (.mv (.t 78))] [0, 1, 5])
                  (.seq (.seq (.ops [o 79 (.mv (.t 0)),
                      o 80 (.mv (.t 5)),
                      o 81 (.ia 8 (.t 79) (.t 80)),
                      o 82 (.fa 7 (.t 81)),
                      o 83 (.ld false 1 (.t 82)),
                      o 84 (.mv (.t 1)),
                      o 85 (.bin .neq (.t 83) (.t 84))] [0, 1, 5, 85])
                    (.cond (.t 85) (.seq (.ops [o 4 (.mv (.k (.s (.c (.val (.int .i64 (-1)))))))] [4])
                      (.ret))
                     (.skip)))
                   (.ops [o 86 (.mv (.t 1)),
                     o 87 (.bin .add (.t 86) (.k (.s (.c (.val (.int .i64 1)))))),
                     o 1 (.mv (.t 87))] [0, 1, 5])))))))))))))))))
   (.ops [o 10 (.mv (.t 5)),
     o 11 (.bin .add (.t 10) (.k (.s (.c (.val (.int .i64 1)))))),
     o 5 (.mv (.t 11))] [0, 1, 5]))
def b_laws_heldEntryS : PC :=
  .seq (.ops [o 4 (.mv (.k (.s (.c (.val (.int .i64 0))))))] [0, 1])
  (.seq (.seq (.ops [o 5 (.mv (.k (.s (.c (.val (.int .i64 0))))))] [0, 1, 5])
    (.block 0
     (.loop [0, 1, 5] l1_laws_heldEntryS)))
   (.seq (.ops [o 88 (.mv (.t 1)),
      o 4 (.mv (.t 88))] [4])
    (.ret)))
def c_laws_heldEntryS : PFunc := ⟨2, 89, b_laws_heldEntryS, [.t 4]⟩
def l1_spec_JoinCatalogues : PC :=
  .seq (.ops [o 25 (.bin .lss (.t 24) (.t 23))] [0, 6, 22, 23, 24, 25])
  (.seq (.cond (.t 25) (.skip)
    (.exit 0))
   (.seq (.block 1
     (.seq (.ops [o 26 (.ia 8 (.t 22) (.t 24)),
        o 27 (.ld true 8 (.t 26)),
        o 8 (.alloc [.c (.val (.string ⟨#[]⟩)), .nil (.sl 1), .c (.val (.int .i64 0)), .nil (.fl 1), .nil (.fl 1), .c (.val (.int .i64 0)), .c (.val (.int .i64 0)), .c (.val (.int .i64 0))]),
        u (.st 8 (.t 8) (.t 27))] [0, 6, 8, 22, 23, 24])
      (.seq (.seq (.ops [o 28 (.mv (.t 0)),
          o 29 (.fa 0 (.t 8)),
          o 30 (.ld false 1 (.t 29)),
          o 31 (.call 11 [(false, (.t 28)), (false, (.t 30))]),
          o 9 (.mv (.t 31))] [0, 6, 8, 9, 22, 23, 24])
        (.seq (.ops [o 32 (.mv (.t 0)),
           o 33 (.mv (.t 9)),
           o 34 (.fa 0 (.t 8)),
           o 35 (.ld false 1 (.t 34)),
           o 36 (.call 13 [(false, (.t 32)), (false, (.t 33)), (false, (.t 35))])] [0, 6, 8, 9, 22, 23, 24, 36])
         (.cond (.t 36) (.seq (.dops [(0, ⟨(some 38), none, .no, .no, [], [10, 39, 42], .mv (.t 0)⟩),
             (1, ⟨(some 39), none, .no, .no, [], [10, 38, 42], .mv (.t 9)⟩),
             (2, ⟨(some 40), none, .no, .no, [0, 1], [10, 42], .ia 8 (.t 38) (.t 39)⟩),
             (3, ⟨(some 41), none, .no, .no, [0, 1, 2], [10, 42], .ld true 8 (.t 40)⟩),
             (4, ⟨(some 42), none, .no, .no, [], [10, 38, 39, 40, 41], .ld true 8 (.t 8)⟩),
             (5, ⟨(some 43), none, .no, .all, [0, 1, 2, 3, 4], [10], .call 124 [(false, (.t 41)), (false, (.t 42))]⟩),
             (6, ⟨(some 37), none, .no, .no, [0, 1, 2, 3, 4, 5], [10], .mvt 43⟩),
             (7, ⟨(some 44), none, .no, .no, [0, 1, 2, 3, 4, 5, 6], [10, 45], .ext 37 0⟩),
             (8, ⟨(some 45), none, .all, .no, [0, 1, 2, 3, 4, 5, 6], [10, 44], .ext 37 1⟩),
             (9, ⟨(some 10), none, .no, .no, [], [37, 38, 39, 40, 41, 42, 43, 44, 45], .alloc [.c (.val (.string ⟨#[]⟩)), .nil (.sl 1), .c (.val (.int .i64 0)), .nil (.fl 1), .nil (.fl 1), .c (.val (.int .i64 0)), .c (.val (.int .i64 0)), .c (.val (.int .i64 0))]⟩),
             (10, ⟨none, none, .no, .all, [0, 1, 2, 3, 4, 5, 6, 7, 9], [45], .st 8 (.t 10) (.t 44)⟩),
             (11, ⟨(some 11), none, .no, .no, [0, 1, 2, 3, 4, 5, 6, 7, 8, 9, 10], [], .mv (.t 45)⟩)] [0, 6, 8, 10, 11, 22, 23, 24])
           (.seq (.seq (.ops [o 46 (.mv (.t 11)),
               o 47 (.un .not (.t 46))] [0, 6, 8, 10, 22, 23, 24, 47])
             (.cond (.t 47) (.seq (.ops [o 4 (.mkn (.sl 8)),
                 o 5 (.mv (.k (.s (.c (.val (.bool false))))))] [4, 5])
               (.ret))
              (.skip)))
            (.ops [o 48 (.ld true 8 (.t 10)),
              u (.st 8 (.t 8) (.t 48))] [0, 6, 8, 22, 23, 24])))
          (.skip))))
       (.ops [o 49 (.mv (.t 6)),
         o 50 (.ld true 8 (.t 8)),
         o 51 (.call 18 [(false, (.t 49)), (false, (.t 50))]),
         o 6 (.mv (.t 51))] [0, 6, 22, 23, 24]))))
    (.ops [o 52 (.bin .add (.t 24) (.k (.s (.c (.val (.int .i64 1)))))),
      o 24 (.mv (.t 52))] [0, 6, 22, 23, 24])))
def b_spec_JoinCatalogues : PC :=
  .seq (.ops [o 4 (.mkn (.sl 8)),
    o 5 (.mv (.k (.s (.c (.val (.bool false))))))] [0, 1])
  (.seq (.seq (.ops [o 12 (.mv (.t 0)),
      o 13 (.call 12 [(false, (.t 12))]),
      o 14 (.un .not (.t 13)),
      o 15 (.mv (.t 14)),
      ⟨(some 16), (some (15, false)), .no, .no, [], [], .mv (.t 1)⟩,
      ⟨(some 17), (some (15, false)), .no, .no, [], [], .call 12 [(false, (.t 16))]⟩,
      ⟨(some 18), (some (15, false)), .no, .no, [], [], .un .not (.t 17)⟩,
      o 19 (.pick (.t 15) (.k (.s (.c (.val (.bool true))))) (.t 18))] [0, 1, 19])
    (.cond (.t 19) (.seq (.ops [o 4 (.mkn (.sl 8)),
        o 5 (.mv (.k (.s (.c (.val (.bool false))))))] [4, 5])
      (.ret))
     (.skip)))
   (.seq (.ops [o 20 (.mv (.t 0)),
      o 21 (.call 38 [(false, (.t 20))]),
      o 6 (.mv (.t 21))] [0, 1, 6])
    (.seq (.seq (.ops [o 22 (.mv (.t 1)),
        o 23 (.len false (.t 22)),
        o 24 (.mv (.k (.s (.c (.val (.int .i64 0))))))] [0, 6, 22, 23, 24])
      (.block 0
       (.loop [0, 6, 22, 23, 24] l1_spec_JoinCatalogues)))
     (.seq (.seq (.ops [o 53 (.mv (.t 6)),
         o 54 (.call 12 [(false, (.t 53))]),
         o 55 (.un .not (.t 54))] [6, 55])
       (.cond (.t 55) (.seq (.ops [o 4 (.mkn (.sl 8)),
           o 5 (.mv (.k (.s (.c (.val (.bool false))))))] [4, 5])
         (.ret))
        (.skip)))
      (.seq (.ops [o 56 (.mv (.t 6)),
         o 4 (.mv (.t 56)),
         o 5 (.mv (.k (.s (.c (.val (.bool true))))))] [4, 5])
       (.ret))))))
def c_spec_JoinCatalogues : PFunc := ⟨2, 57, b_spec_JoinCatalogues, [.t 4, .t 5]⟩
def l1_impl_JoinCatalogues : PC :=
  .seq (.ops [o 24 (.bin .lss (.t 23) (.t 22))] [1, 6, 22, 23, 24])
  (.seq (.cond (.t 24) (.skip)
    (.exit 0))
   (.seq (.block 1
     (.seq (.ops [o 25 (.mv (.t 23)),
        o 7 (.mv (.t 25))] [1, 6, 7, 22, 23])
      (.seq (.ops [o 26 (.mv (.t 1)),
         o 27 (.mv (.t 7)),
         o 28 (.ia 8 (.t 26) (.t 27)),
         o 29 (.call 47 [(false, (.t 28))]),
         o 8 (.alloc [.c (.val (.string ⟨#[]⟩)), .nil (.sl 1), .c (.val (.int .i64 0)), .nil (.fl 1), .nil (.fl 1), .c (.val (.int .i64 0)), .c (.val (.int .i64 0)), .c (.val (.int .i64 0))]),
         u (.st 8 (.t 8) (.t 29))] [1, 6, 8, 22, 23])
       (.seq (.ops [o 31 (.mv (.t 6)),
          o 32 (.fa 0 (.t 8)),
          o 33 (.ld false 1 (.t 32)),
          o 34 (.call 24 [(false, (.t 31)), (false, (.t 33))]),
          o 30 (.mvt 34),
          o 35 (.ext 30 0),
          o 36 (.ext 30 1),
          o 9 (.mv (.t 35)),
          o 10 (.mv (.t 36))] [1, 6, 8, 9, 10, 22, 23])
        (.block 2
         (.seq (.ops [o 38 (.mv (.t 10)),
            o 39 (.un .not (.t 38)),
            o 37 (.mv (.t 39))] [1, 6, 8, 9, 22, 23, 37])
          (.cond (.t 37) (.ops [o 40 (.mv (.t 6)),
             o 41 (.mv (.t 9)),
             o 42 (.ld true 8 (.t 8)),
             o 43 (.bs (.sl 8) [(.t 42)]),
             o 44 (.call 121 [(true, (.t 40)), (false, (.t 41)), (true, (.t 43))]),
             o 6 (.mv (.t 44))] [1, 6, 22, 23])
           (.seq (.dops [(0, ⟨(some 46), none, .no, .no, [], [48, 49, 50, 51, 52], .fa 7 (.t 8)⟩),
              (1, ⟨(some 47), none, .no, .no, [0], [48, 49, 50, 51, 52], .ld false 1 (.t 46)⟩),
              (2, ⟨(some 48), none, .no, .no, [], [46, 47, 49], .mv (.t 6)⟩),
              (3, ⟨(some 49), none, .no, .no, [], [46, 47, 48], .mv (.t 9)⟩),
              (4, ⟨(some 50), none, .no, .no, [2, 3], [46, 47], .ia 8 (.t 48) (.t 49)⟩),
              (5, ⟨(some 51), none, .no, .no, [2, 3, 4], [46, 47], .fa 7 (.t 50)⟩),
              (6, ⟨(some 52), none, .no, .no, [2, 3, 4, 5], [46, 47], .ld false 1 (.t 51)⟩),
              (7, ⟨(some 53), none, .no, .no, [0, 1, 2, 3, 4, 5, 6], [], .bin .gtr (.t 47) (.t 52)⟩),
              (8, ⟨(some 45), none, .no, .no, [0, 1, 2, 3, 4, 5, 6, 7], [], .mv (.t 53)⟩)] [1, 6, 8, 9, 22, 23, 45])
            (.cond (.t 45) (.ops [o 54 (.mv (.t 6)),
               o 55 (.mv (.t 9)),
               o 56 (.ld true 8 (.t 8)),
               o 57 (.ia 8 (.t 54) (.t 55)),
               u (.st 8 (.t 57) (.t 56))] [1, 6, 22, 23])
             (.seq (.dops [(0, ⟨(some 59), none, .no, .no, [], [61, 62, 63, 64, 65], .fa 7 (.t 8)⟩),
                (1, ⟨(some 60), none, .no, .no, [0], [61, 62, 63, 64, 65], .ld false 1 (.t 59)⟩),
                (2, ⟨(some 61), none, .no, .no, [], [59, 60, 62], .mv (.t 6)⟩),
                (3, ⟨(some 62), none, .no, .no, [], [59, 60, 61], .mv (.t 9)⟩),
                (4, ⟨(some 63), none, .no, .no, [2, 3], [59, 60], .ia 8 (.t 61) (.t 62)⟩),
                (5, ⟨(some 64), none, .no, .no, [2, 3, 4], [59, 60], .fa 7 (.t 63)⟩),
                (6, ⟨(some 65), none, .no, .no, [2, 3, 4, 5], [59, 60], .ld false 1 (.t 64)⟩),
                (7, ⟨(some 66), none, .no, .no, [0, 1, 2, 3, 4, 5, 6], [], .bin .eql (.t 60) (.t 65)⟩),
                (8, ⟨(some 58), none, .no, .no, [0, 1, 2, 3, 4, 5, 6, 7], [], .mv (.t 66)⟩)] [1, 6, 8, 9, 22, 23, 58])
              (.cond (.t 58) (.seq (.seq (.ops [o 67 (.mv (.t 6)),
                   o 68 (.mv (.t 9)),
                   o 69 (.ia 8 (.t 67) (.t 68)),
                   o 70 (.call 122 [(false, (.t 8)), (false, (.t 69))]),
                   o 71 (.un .not (.t 70))] [1, 6, 8, 9, 22, 23, 71])
                 (.cond (.t 71) (.seq (.ops [o 4 (.mkn (.sl 8)),
                     o 5 (.mv (.k (.s (.c (.val (.bool false))))))] [4, 5])
                   (.ret))
                  (.skip)))
                (.dops [(0, ⟨(some 72), none, .no, .no, [], [73, 74, 75, 76, 77, 78, 79, 80, 81, 82, 83, 84, 85, 86, 87, 88, 89, 90, 91], .mv (.t 6)⟩),
                  (1, ⟨(some 73), none, .no, .no, [], [72, 74, 75, 76, 77, 78, 79, 80, 81, 82, 83, 84, 85, 86, 87, 88, 89, 90, 91], .mv (.t 9)⟩),
                  (2, ⟨(some 74), none, .all, .no, [], [72, 73, 75, 76, 77, 78, 79, 80, 81, 82, 83, 84, 85, 86, 87, 88, 89, 90, 91, 92, 93], .mv (.t 6)⟩),
                  (3, ⟨(some 75), none, .all, .no, [], [72, 73, 74, 76, 77, 78, 79, 80, 81, 82, 83, 84, 85, 86, 87, 88, 89, 90, 91, 92, 93], .mv (.t 9)⟩),
                  (4, ⟨(some 76), none, .no, .no, [], [72, 73, 74, 75, 77, 81, 82, 84, 85, 86, 87, 88, 89, 90, 91], .mv (.t 6)⟩),
                  (5, ⟨(some 77), none, .no, .no, [], [72, 73, 74, 75, 76, 81, 82, 84, 85, 86, 87, 88, 89, 90, 91], .mv (.t 9)⟩),
                  (6, ⟨(some 78), none, .no, .no, [4, 5], [72, 73, 74, 75, 81, 82, 84, 85, 86, 87, 88, 89, 90, 91], .ia 8 (.t 76) (.t 77)⟩),
                  (7, ⟨(some 79), none, .no, .no, [4, 5, 6], [72, 73, 74, 75, 81, 82, 84, 85, 86, 87, 88, 89, 90, 91], .fa 5 (.t 78)⟩),
                  (8, ⟨(some 80), none, .no, .no, [4, 5, 6, 7], [72, 73, 74, 75, 81, 82, 84, 85, 86, 87, 88, 89, 90, 91], .ld false 1 (.t 79)⟩),
                  (9, ⟨(some 81), none, .no, .no, [], [72, 73, 74, 75, 76, 77, 78, 79, 80, 84, 85, 86, 87, 88, 89, 90, 91], .fa 5 (.t 8)⟩),
                  (10, ⟨(some 82), none, .no, .no, [9], [72, 73, 74, 75, 76, 77, 78, 79, 80, 84, 85, 86, 87, 88, 89, 90, 91], .ld false 1 (.t 81)⟩),
                  (11, ⟨(some 83), none, .no, .no, [4, 5, 6, 7, 8, 9, 10], [72, 73, 74, 75, 84, 85, 86, 87, 88, 89, 90, 91], .mm true [(.t 80), (.t 82)]⟩),
                  (12, ⟨(some 84), none, .no, .no, [], [72, 73, 74, 75, 76, 77, 78, 79, 80, 81, 82, 83, 85, 89, 90], .mv (.t 6)⟩),
                  (13, ⟨(some 85), none, .no, .no, [], [72, 73, 74, 75, 76, 77, 78, 79, 80, 81, 82, 83, 84, 89, 90], .mv (.t 9)⟩),
                  (14, ⟨(some 86), none, .no, .no, [12, 13], [72, 73, 74, 75, 76, 77, 78, 79, 80, 81, 82, 83, 89, 90], .ia 8 (.t 84) (.t 85)⟩),
                  (15, ⟨(some 87), none, .no, .no, [12, 13, 14], [72, 73, 74, 75, 76, 77, 78, 79, 80, 81, 82, 83, 89, 90], .fa 6 (.t 86)⟩),
                  (16, ⟨(some 88), none, .no, .no, [12, 13, 14, 15], [72, 73, 74, 75, 76, 77, 78, 79, 80, 81, 82, 83, 89, 90], .ld false 1 (.t 87)⟩),
                  (17, ⟨(some 89), none, .no, .no, [], [72, 73, 74, 75, 76, 77, 78, 79, 80, 81, 82, 83, 84, 85, 86, 87, 88], .fa 6 (.t 8)⟩),
                  (18, ⟨(some 90), none, .no, .no, [17], [72, 73, 74, 75, 76, 77, 78, 79, 80, 81, 82, 83, 84, 85, 86, 87, 88], .ld false 1 (.t 89)⟩),
                  (19, ⟨(some 91), none, .all, .no, [12, 13, 14, 15, 16, 17, 18], [72, 73, 74, 75, 76, 77, 78, 79, 80, 81, 82, 83, 92, 93], .mm false [(.t 88), (.t 90)]⟩),
                  (20, ⟨(some 92), none, .no, .no, [0, 1, 4, 5, 6, 7, 8, 9, 10, 11, 12, 13, 14, 15, 16, 17, 18], [74, 75, 91], .ia 8 (.t 72) (.t 73)⟩),
                  (21, ⟨(some 93), none, .no, .no, [0, 1, 4, 5, 6, 7, 8, 9, 10, 11, 12, 13, 14, 15, 16, 17, 18, 20], [74, 75, 91], .fa 5 (.t 92)⟩),
                  (22, ⟨none, none, .no, .all, [0, 1, 4, 5, 6, 7, 8, 9, 10, 11, 12, 13, 14, 15, 16, 17, 18, 20, 21], [74, 75, 91], .st 1 (.t 93) (.t 83)⟩),
                  (23, ⟨(some 94), none, .no, .no, [0, 1, 2, 3, 4, 5, 6, 7, 8, 9, 10, 11, 12, 13, 14, 15, 16, 17, 18, 19, 20, 21, 22], [], .ia 8 (.t 74) (.t 75)⟩),
                  (24, ⟨(some 95), none, .no, .no, [0, 1, 2, 3, 4, 5, 6, 7, 8, 9, 10, 11, 12, 13, 14, 15, 16, 17, 18, 19, 20, 21, 22, 23], [], .fa 6 (.t 94)⟩),
                  (25, ⟨none, none, .no, .all, [0, 1, 2, 3, 4, 5, 6, 7, 8, 9, 10, 11, 12, 13, 14, 15, 16, 17, 18, 19, 20, 21, 22, 23, 24], [], .st 1 (.t 95) (.t 91)⟩)] [1, 6, 22, 23]))
               (.skip))))))))))))
    (.ops [o 96 (.bin .add (.t 23) (.k (.s (.c (.val (.int .i64 1)))))),
      o 23 (.mv (.t 96))] [1, 6, 22, 23])))
def b_impl_JoinCatalogues : PC :=
  .seq (.ops [o 4 (.mkn (.sl 8)),
    o 5 (.mv (.k (.s (.c (.val (.bool false))))))] [0, 1])
  (.seq (.seq (.ops [o 11 (.mv (.t 0)),
      o 12 (.call 22 [(false, (.t 11))]),
      o 13 (.un .not (.t 12)),
      o 14 (.mv (.t 13)),
      ⟨(some 15), (some (14, false)), .no, .no, [], [], .mv (.t 1)⟩,
      ⟨(some 16), (some (14, false)), .no, .no, [], [], .call 22 [(false, (.t 15))]⟩,
      ⟨(some 17), (some (14, false)), .no, .no, [], [], .un .not (.t 16)⟩,
      o 18 (.pick (.t 14) (.k (.s (.c (.val (.bool true))))) (.t 17))] [0, 1, 18])
    (.cond (.t 18) (.seq (.ops [o 4 (.mkn (.sl 8)),
        o 5 (.mv (.k (.s (.c (.val (.bool false))))))] [4, 5])
      (.ret))
     (.skip)))
   (.seq (.ops [o 19 (.mv (.t 0)),
      o 20 (.call 25 [(false, (.t 19))]),
      o 6 (.mv (.t 20))] [1, 6])
    (.seq (.seq (.ops [o 21 (.mv (.t 1)),
        o 22 (.len false (.t 21)),
        o 23 (.mv (.k (.s (.c (.val (.int .i64 0))))))] [1, 6, 22, 23])
      (.block 0
       (.loop [1, 6, 22, 23] l1_impl_JoinCatalogues)))
     (.seq (.ops [o 97 (.mv (.t 6)),
        o 98 (.call 26 [(true, (.t 97))]),
        o 99 (.ext 98 0),
        o 100 (.ext 98 1),
        o 4 (.mv (.t 99)),
        o 5 (.mv (.t 100))] [4, 5])
      (.ret)))))
def c_impl_JoinCatalogues : PFunc := ⟨2, 101, b_impl_JoinCatalogues, [.t 4, .t 5]⟩
def l1_spec_ChangedSystems : PC :=
  .seq (.ops [o 24 (.bin .lss (.t 23) (.t 22))] [0, 1, 6, 21, 22, 23, 24])
  (.seq (.cond (.t 24) (.skip)
    (.exit 0))
   (.seq (.block 1
     (.seq (.ops [o 25 (.ia 8 (.t 21) (.t 23)),
        o 26 (.ld true 8 (.t 25)),
        o 8 (.alloc [.c (.val (.string ⟨#[]⟩)), .nil (.sl 1), .c (.val (.int .i64 0)), .nil (.fl 1), .nil (.fl 1), .c (.val (.int .i64 0)), .c (.val (.int .i64 0)), .c (.val (.int .i64 0))]),
        u (.st 8 (.t 8) (.t 26))] [0, 1, 6, 8, 21, 22, 23])
      (.seq (.ops [o 27 (.mv (.t 1)),
         o 28 (.fa 0 (.t 8)),
         o 29 (.ld false 1 (.t 28)),
         o 30 (.call 11 [(false, (.t 27)), (false, (.t 29))]),
         o 9 (.mv (.t 30))] [0, 1, 6, 8, 9, 21, 22, 23])
       (.seq (.dops [(0, ⟨(some 31), none, .no, .no, [], [32, 33, 34], .mv (.t 1)⟩),
          (1, ⟨(some 32), none, .no, .no, [], [31, 33, 34], .mv (.t 9)⟩),
          (2, ⟨(some 33), none, .no, .no, [], [31, 32], .fa 0 (.t 8)⟩),
          (3, ⟨(some 34), none, .no, .no, [2], [31, 32], .ld false 1 (.t 33)⟩),
          (4, ⟨(some 35), none, .no, .all, [0, 1, 2, 3], [], .call 13 [(false, (.t 31)), (false, (.t 32)), (false, (.t 34))]⟩),
          (5, ⟨(some 36), none, .no, .no, [0, 1, 2, 3, 4], [], .un .not (.t 35)⟩),
          (6, ⟨(some 37), none, .no, .no, [0, 1, 2, 3, 4, 5], [], .mv (.t 36)⟩),
          (7, ⟨(some 38), (some (37, false)), .no, .no, [0, 1, 2, 3, 4, 5, 6], [39, 40, 41, 42], .ld true 8 (.t 8)⟩),
          (8, ⟨(some 39), (some (37, false)), .no, .no, [0, 1, 2, 3, 4, 5, 6], [38, 40], .mv (.t 1)⟩),
          (9, ⟨(some 40), (some (37, false)), .no, .no, [0, 1, 2, 3, 4, 5, 6], [38, 39], .mv (.t 9)⟩),
          (10, ⟨(some 41), (some (37, false)), .no, .no, [0, 1, 2, 3, 4, 5, 6, 8, 9], [38], .ia 8 (.t 39) (.t 40)⟩),
          (11, ⟨(some 42), (some (37, false)), .no, .no, [0, 1, 2, 3, 4, 5, 6, 8, 9, 10], [38], .ld true 8 (.t 41)⟩),
          (12, ⟨(some 43), (some (37, false)), .no, .all, [0, 1, 2, 3, 4, 5, 6, 7, 8, 9, 10, 11], [], .call 125 [(false, (.t 38)), (false, (.t 42))]⟩),
          (13, ⟨(some 44), (some (37, false)), .no, .no, [0, 1, 2, 3, 4, 5, 6, 7, 8, 9, 10, 11, 12], [], .un .not (.t 43)⟩),
          (14, ⟨(some 45), none, .no, .no, [0, 1, 2, 3, 4, 5, 6, 7, 8, 9, 10, 11, 12, 13], [], .pick (.t 37) (.k (.s (.c (.val (.bool true))))) (.t 44)⟩)] [0, 1, 6, 8, 21, 22, 23, 45])
        (.cond (.t 45) (.ops [o 46 (.mv (.t 6)),
           o 47 (.fa 0 (.t 8)),
           o 48 (.ld false 1 (.t 47)),
           o 49 (.call 126 [(true, (.t 46)), (false, (.t 48))]),
           o 6 (.mv (.t 49))] [0, 1, 6, 21, 22, 23])
         (.skip))))))
    (.ops [o 50 (.bin .add (.t 23) (.k (.s (.c (.val (.int .i64 1)))))),
      o 23 (.mv (.t 50))] [0, 1, 6, 21, 22, 23])))
def l2_spec_ChangedSystems : PC :=
  .seq (.ops [o 54 (.bin .lss (.t 53) (.t 52))] [0, 6, 51, 52, 53, 54])
  (.seq (.cond (.t 54) (.skip)
    (.exit 2))
   (.seq (.block 3
     (.seq (.ops [o 55 (.ia 8 (.t 51) (.t 53)),
        o 56 (.ld true 8 (.t 55)),
        o 11 (.alloc [.c (.val (.string ⟨#[]⟩)), .nil (.sl 1), .c (.val (.int .i64 0)), .nil (.fl 1), .nil (.fl 1), .c (.val (.int .i64 0)), .c (.val (.int .i64 0)), .c (.val (.int .i64 0))]),
        u (.st 8 (.t 11) (.t 56))] [0, 6, 11, 51, 52, 53])
      (.seq (.ops [o 57 (.mv (.t 0)),
         o 58 (.fa 0 (.t 11)),
         o 59 (.ld false 1 (.t 58)),
         o 60 (.call 11 [(false, (.t 57)), (false, (.t 59))]),
         o 12 (.mv (.t 60))] [0, 6, 11, 12, 51, 52, 53])
       (.seq (.ops [o 61 (.mv (.t 0)),
          o 62 (.mv (.t 12)),
          o 63 (.fa 0 (.t 11)),
          o 64 (.ld false 1 (.t 63)),
          o 65 (.call 13 [(false, (.t 61)), (false, (.t 62)), (false, (.t 64))]),
          o 66 (.un .not (.t 65))] [0, 6, 11, 51, 52, 53, 66])
        (.cond (.t 66) (.ops [o 67 (.mv (.t 6)),
           o 68 (.fa 0 (.t 11)),
           o 69 (.ld false 1 (.t 68)),
           o 70 (.call 126 [(true, (.t 67)), (false, (.t 69))]),
           o 6 (.mv (.t 70))] [0, 6, 51, 52, 53])
         (.skip))))))
    (.ops [o 71 (.bin .add (.t 53) (.k (.s (.c (.val (.int .i64 1)))))),
      o 53 (.mv (.t 71))] [0, 6, 51, 52, 53])))
def b_spec_ChangedSystems : PC :=
  .seq (.ops [o 4 (.mkn (.fl 1)),
    o 5 (.mv (.k (.s (.c (.val (.bool false))))))] [0, 1])
  (.seq (.seq (.ops [o 13 (.mv (.t 0)),
      o 14 (.call 12 [(false, (.t 13))]),
      o 15 (.un .not (.t 14)),
      o 16 (.mv (.t 15)),
      ⟨(some 17), (some (16, false)), .no, .no, [], [], .mv (.t 1)⟩,
      ⟨(some 18), (some (16, false)), .no, .no, [], [], .call 12 [(false, (.t 17))]⟩,
      ⟨(some 19), (some (16, false)), .no, .no, [], [], .un .not (.t 18)⟩,
      o 20 (.pick (.t 16) (.k (.s (.c (.val (.bool true))))) (.t 19))] [0, 1, 20])
    (.cond (.t 20) (.seq (.ops [o 4 (.mkn (.fl 1)),
        o 5 (.mv (.k (.s (.c (.val (.bool false))))))] [4, 5])
      (.ret))
     (.skip)))
   (.seq (.ops [o 6 (.mkn (.fl 1))] [0, 1, 6])
    (.seq (.seq (.ops [o 21 (.mv (.t 0)),
        o 22 (.len false (.t 21)),
        o 23 (.mv (.k (.s (.c (.val (.int .i64 0))))))] [0, 1, 6, 21, 22, 23])
      (.block 0
       (.loop [0, 1, 6, 21, 22, 23] l1_spec_ChangedSystems)))
     (.seq (.seq (.ops [o 51 (.mv (.t 1)),
         o 52 (.len false (.t 51)),
         o 53 (.mv (.k (.s (.c (.val (.int .i64 0))))))] [0, 6, 51, 52, 53])
       (.block 2
        (.loop [0, 6, 51, 52, 53] l2_spec_ChangedSystems)))
      (.seq (.ops [o 72 (.mv (.t 6)),
         o 4 (.mv (.t 72)),
         o 5 (.mv (.k (.s (.c (.val (.bool true))))))] [4, 5])
       (.ret))))))
def c_spec_ChangedSystems : PFunc := ⟨2, 73, b_spec_ChangedSystems, [.t 4, .t 5]⟩
def b_impl_ChangedSystems : PC :=
  .seq (.ops [o 4 (.mkn (.fl 1)),
    o 5 (.mv (.k (.s (.c (.val (.bool false))))))] [0, 1])
  (.seq (.seq (.ops [o 7 (.mv (.t 0)),
      o 8 (.call 22 [(false, (.t 7))]),
      o 9 (.un .not (.t 8)),
      o 10 (.mv (.t 9)),
      ⟨(some 11), (some (10, false)), .no, .no, [], [], .mv (.t 1)⟩,
      ⟨(some 12), (some (10, false)), .no, .no, [], [], .call 22 [(false, (.t 11))]⟩,
      ⟨(some 13), (some (10, false)), .no, .no, [], [], .un .not (.t 12)⟩,
      o 14 (.pick (.t 10) (.k (.s (.c (.val (.bool true))))) (.t 13))] [0, 1, 14])
    (.cond (.t 14) (.seq (.ops [o 4 (.mkn (.fl 1)),
        o 5 (.mv (.k (.s (.c (.val (.bool false))))))] [4, 5])
      (.ret))
     (.skip)))
   (.seq (.ops [o 15 (.mv (.t 0)),
      o 16 (.mv (.t 1)),
      o 17 (.call 127 [(false, (.t 15)), (false, (.t 16))]),
      o 18 (.mv (.t 1)),
      o 19 (.mv (.t 0)),
      o 20 (.call 127 [(false, (.t 18)), (false, (.t 19))]),
      o 21 (.app (.fl 1) 16 (.t 17) (.t 20)),
      o 6 (.mv (.t 21))] [6])
    (.seq (.ops [o 22 (.mv (.t 6)),
       o 23 (.call 128 [(true, (.t 22))])] [6])
     (.seq (.ops [o 24 (.mv (.t 6)),
        o 25 (.call 129 [(true, (.t 24))]),
        o 4 (.mv (.t 25)),
        o 5 (.mv (.k (.s (.c (.val (.bool true))))))] [4, 5])
      (.ret)))))
def c_impl_ChangedSystems : PFunc := ⟨2, 26, b_impl_ChangedSystems, [.t 4, .t 5]⟩
def l1_laws_eqStringS : PC :=
  .seq (.seq (.ops [o 11 (.mv (.t 5)),
     o 12 (.mv (.t 0)),
     o 13 (.len false (.t 12)),
     o 14 (.bin .lss (.t 11) (.t 13))] [0, 1, 5, 14])
   (.cond (.t 14) (.skip)
    (.exit 0)))
  (.seq (.block 1
    (.seq (.dops [(0, ⟨(some 17), none, .no, .no, [], [18, 21, 22, 23, 24], .mv (.t 0)⟩),
       (1, ⟨(some 18), none, .no, .no, [], [17, 21, 22, 23, 24], .mv (.t 5)⟩),
       (2, ⟨(some 19), none, .no, .no, [0, 1], [21, 22, 23, 24], .ia 1 (.t 17) (.t 18)⟩),
       (3, ⟨(some 20), none, .no, .no, [0, 1, 2], [21, 22, 23, 24], .ld false 1 (.t 19)⟩),
       (4, ⟨(some 21), none, .no, .no, [], [17, 18, 19, 20, 22], .mv (.t 1)⟩),
       (5, ⟨(some 22), none, .no, .no, [], [17, 18, 19, 20, 21], .mv (.t 5)⟩),
       (6, ⟨(some 23), none, .no, .no, [4, 5], [17, 18, 19, 20], .ia 1 (.t 21) (.t 22)⟩),
       (7, ⟨(some 24), none, .no, .no, [4, 5, 6], [17, 18, 19, 20], .ld false 1 (.t 23)⟩),
       (8, ⟨(some 25), none, .no, .no, [0, 1, 2, 3, 4, 5, 6, 7], [], .bin .neq (.t 20) (.t 24)⟩)] [0, 1, 5, 25])
     (.cond (.t 25) (.seq (.ops [o 4 (.mv (.k (.s (.c (.val (.bool false))))))] [4])
       (.ret))
      (.skip))))
   (.ops [o 15 (.mv (.t 5)),
     o 16 (.bin .add (.t 15) (.k (.s (.c (.val (.int .i64 1)))))),
     o 5 (.mv (.t 16))] [0, 1, 5]))
def b_laws_eqStringS : PC :=
  .seq (.ops [o 4 (.mv (.k (.s (.c (.val (.bool false))))))] [0, 1])
  (.seq (.seq (.ops [o 6 (.mv (.t 0)),
      o 7 (.len false (.t 6)),
      o 8 (.mv (.t 1)),
      o 9 (.len false (.t 8)),
      o 10 (.bin .neq (.t 7) (.t 9))] [0, 1, 10])
    (.cond (.t 10) (.seq (.ops [o 4 (.mv (.k (.s (.c (.val (.bool false))))))] [4])
      (.ret))
     (.skip)))
   (.seq (.seq (.ops [o 5 (.mv (.k (.s (.c (.val (.int .i64 0))))))] [0, 1, 5])
     (.block 0
      (.loop [0, 1, 5] l1_laws_eqStringS)))
    (.seq (.ops [o 4 (.mv (.k (.s (.c (.val (.bool true))))))] [4])
     (.ret))))
def c_laws_eqStringS : PFunc := ⟨2, 26, b_laws_eqStringS, [.t 4]⟩
def l1_laws_markStringS : PC :=
  .seq (.seq (.ops [o 6 (.mv (.t 5)),
     o 7 (.mv (.t 0)),
     o 8 (.len false (.t 7)),
     o 9 (.bin .lss (.t 6) (.t 8))] [0, 1, 5, 9])
   (.cond (.t 9) (.skip)
    (.exit 0)))
  (.seq (.block 1
    (.seq (.ops [o 12 (.mv (.t 0)),
       o 13 (.mv (.t 5)),
       o 14 (.mv (.t 1)),
       o 15 (.call 29 [(false, (.t 14))]),
       o 16 (.ia 1 (.t 12) (.t 13)),
       u (.st 1 (.t 16) (.t 15))] [0, 1, 5])
     (.ops [o 17 (.mv (.t 1)),
       o 18 (.bin .add (.t 17) (.k (.s (.c (.val (.int .i64 1)))))),
       o 1 (.mv (.t 18))] [0, 1, 5])))
   (.ops [o 10 (.mv (.t 5)),
     o 11 (.bin .add (.t 10) (.k (.s (.c (.val (.int .i64 1)))))),
     o 5 (.mv (.t 11))] [0, 1, 5]))
def b_laws_markStringS : PC :=
  .seq (.ops [o 4 (.mv (.k (.s (.c (.val (.int .i64 0))))))] [0, 1])
  (.seq (.seq (.ops [o 5 (.mv (.k (.s (.c (.val (.int .i64 0))))))] [0, 1, 5])
    (.block 0
     (.loop [0, 1, 5] l1_laws_markStringS)))
   (.seq (.ops [o 19 (.mv (.t 1)),
      o 4 (.mv (.t 19))] [4])
    (.ret)))
def c_laws_markStringS : PFunc := ⟨2, 20, b_laws_markStringS, [.t 4]⟩
def l1_laws_heldStringS : PC :=
  .seq (.seq (.ops [o 6 (.mv (.t 5)),
     o 7 (.mv (.t 0)),
     o 8 (.len false (.t 7)),
     o 9 (.bin .lss (.t 6) (.t 8))] [0, 1, 5, 9])
   (.cond (.t 9) (.skip)
    (.exit 0)))
  (.seq (.block 1
    (.seq (.seq (.dops [(0, ⟨(some 12), none, .no, .no, [], [13, 16, 17], .mv (.t 0)⟩),
        (1, ⟨(some 13), none, .no, .no, [], [12, 16, 17], .mv (.t 5)⟩),
        (2, ⟨(some 14), none, .no, .no, [0, 1], [16, 17], .ia 1 (.t 12) (.t 13)⟩),
        (3, ⟨(some 15), none, .no, .no, [0, 1, 2], [16, 17], .ld false 1 (.t 14)⟩),
        (4, ⟨(some 16), none, .no, .no, [], [12, 13, 14, 15], .mv (.t 1)⟩),
        (5, ⟨(some 17), none, .no, .no, [4], [12, 13, 14, 15], .call 29 [(false, (.t 16))]⟩),
        (6, ⟨(some 18), none, .no, .no, [0, 1, 2, 3, 4, 5], [], .bin .neq (.t 15) (.t 17)⟩)] [0, 1, 5, 18])
      (.cond (.t 18) (.seq (.ops [o 4 (.mv (.k (.s (.c (.val (.int .i64 (-1)))))))] [4])
        (.ret))
       (.skip)))
     (.ops [o 19 (.mv (.t 1)),
       o 20 (.bin .add (.t 19) (.k (.s (.c (.val (.int .i64 1)))))),
       o 1 (.mv (.t 20))] [0, 1, 5])))
   (.ops [o 10 (.mv (.t 5)),
     o 11 (.bin .add (.t 10) (.k (.s (.c (.val (.int .i64 1)))))),
     o 5 (.mv (.t 11))] [0, 1, 5]))
def b_laws_heldStringS : PC :=
  .seq (.ops [o 4 (.mv (.k (.s (.c (.val (.int .i64 0))))))] [0, 1])
  (.seq (.seq (.ops [o 5 (.mv (.k (.s (.c (.val (.int .i64 0))))))] [0, 1, 5])
    (.block 0
     (.loop [0, 1, 5] l1_laws_heldStringS)))
   (.seq (.ops [o 21 (.mv (.t 1)),
      o 4 (.mv (.t 21))] [4])
    (.ret)))
def c_laws_heldStringS : PFunc := ⟨2, 22, b_laws_heldStringS, [.t 4]⟩
def b_laws_szEntry : PC :=
  .seq (.ops [o 2 (.box (.t 0)),
    o 4 (.mv (.k (.s (.c (.val (.int .i64 0))))))] [1, 2])
  (.seq (.ops [o 5 (.mv (.t 1)),
     o 6 (.fa 0 (.t 2)),
     o 7 (.ld false 1 (.t 6)),
     o 8 (.len true (.t 7)),
     o 9 (.bin .sub (.t 5) (.t 8)),
     o 1 (.mv (.t 9))] [1, 2])
   (.seq (.seq (.ops [o 10 (.mv (.t 1)),
       o 11 (.bin .lss (.t 10) (.k (.s (.c (.val (.int .i64 0))))))] [1, 2, 11])
     (.cond (.t 11) (.seq (.ops [o 4 (.mv (.k (.s (.c (.val (.int .i64 (-1)))))))] [4])
       (.ret))
      (.skip)))
    (.seq (.ops [o 12 (.fa 1 (.t 2)),
       o 13 (.ld false 1 (.t 12)),
       o 14 (.mv (.t 1)),
       o 15 (.call 34 [(false, (.t 13)), (false, (.t 14))]),
       o 1 (.mv (.t 15))] [1, 2])
     (.seq (.seq (.ops [o 16 (.mv (.t 1)),
         o 17 (.bin .lss (.t 16) (.k (.s (.c (.val (.int .i64 0))))))] [1, 2, 17])
       (.cond (.t 17) (.seq (.ops [o 4 (.mv (.k (.s (.c (.val (.int .i64 (-1)))))))] [4])
         (.ret))
        (.skip)))
      (.seq (.ops [o 18 (.fa 2 (.t 2)),
         o 19 (.ld true 3 (.t 18)),
         o 20 (.mv (.t 1)),
         o 21 (.call 35 [(false, (.t 19)), (false, (.t 20))]),
         o 1 (.mv (.t 21))] [1])
       (.seq (.seq (.ops [o 22 (.mv (.t 1)),
           o 23 (.bin .lss (.t 22) (.k (.s (.c (.val (.int .i64 0))))))] [1, 23])
         (.cond (.t 23) (.seq (.ops [o 4 (.mv (.k (.s (.c (.val (.int .i64 (-1)))))))] [4])
           (.ret))
          (.skip)))
        (.seq (.ops [o 24 (.mv (.t 1)),
           o 4 (.mv (.t 24))] [4])
         (.ret))))))))
def c_laws_szEntry : PFunc := ⟨2, 25, b_laws_szEntry, [.t 4]⟩
def b_laws_roomBehind : PC :=
  .seq (.ops [o 2 (.mv (.k (.s (.c (.val (.int .i64 0))))))] [0])
  (.seq (.seq (.ops [o 3 (.mv (.t 0)),
      o 4 (.bin .rem (.t 3) (.k (.s (.c (.val (.int .i64 6)))))),
      o 5 (.bin .eql (.t 4) (.k (.s (.c (.val (.int .i64 5))))))] [0, 5])
    (.cond (.t 5) (.seq (.ops [o 2 (.mv (.k (.s (.c (.val (.int .i64 0))))))] [2])
      (.ret))
     (.skip)))
   (.seq (.seq (.ops [o 6 (.mv (.t 0)),
       o 7 (.bin .rem (.t 6) (.k (.s (.c (.val (.int .i64 3)))))),
       o 8 (.bin .eql (.t 7) (.k (.s (.c (.val (.int .i64 0))))))] [0, 8])
     (.cond (.t 8) (.seq (.ops [o 2 (.mv (.k (.s (.c (.val (.int .i64 1))))))] [2])
       (.ret))
      (.skip)))
    (.seq (.ops [o 9 (.mv (.t 0)),
       o 2 (.mv (.t 9))] [2])
     (.ret))))
def c_laws_roomBehind : PFunc := ⟨1, 10, b_laws_roomBehind, [.t 2]⟩
def b_laws_toEntry : PC :=
  .seq (.ops [o 2 (.box (.t 0)),
    o 4 (.alloc [.c (.val (.string ⟨#[]⟩)), .nil (.sl 1), .c (.val (.int .i64 0)), .nil (.fl 1), .nil (.fl 1), .c (.val (.int .i64 0)), .c (.val (.int .i64 0)), .c (.val (.int .i64 0))])] [1, 2, 4])
  (.seq (.ops [o 5 (.alloc [.c (.val (.string ⟨#[]⟩)), .nil (.sl 1), .c (.val (.int .i64 0)), .nil (.fl 1), .nil (.fl 1), .c (.val (.int .i64 0)), .c (.val (.int .i64 0)), .c (.val (.int .i64 0))])] [1, 2, 4, 5])
   (.seq (.ops [o 6 (.fa 0 (.t 2)),
      o 7 (.ld false 1 (.t 6)),
      o 8 (.fa 0 (.t 5)),
      u (.st 1 (.t 8) (.t 7))] [1, 2, 4, 5])
    (.seq (.ops [o 9 (.fa 1 (.t 2)),
       o 10 (.ld false 1 (.t 9)),
       o 11 (.mv (.t 1)),
       o 12 (.call 40 [(false, (.t 10)), (false, (.t 11))]),
       o 13 (.fa 1 (.t 5)),
       u (.st 1 (.t 13) (.t 12))] [1, 2, 4, 5])
     (.seq (.ops [o 14 (.fa 2 (.t 2)),
        o 15 (.ld true 3 (.t 14)),
        o 16 (.mv (.t 1)),
        o 17 (.call 41 [(false, (.t 15)), (false, (.t 16))]),
        o 18 (.fa 2 (.t 5)),
        u (.st 3 (.t 18) (.t 17))] [2, 4, 5])
      (.seq (.ops [o 19 (.fa 5 (.t 2)),
         o 20 (.ld false 1 (.t 19)),
         o 21 (.fa 5 (.t 5)),
         u (.st 1 (.t 21) (.t 20))] [2, 4, 5])
       (.seq (.ops [o 22 (.fa 6 (.t 2)),
          o 23 (.ld false 1 (.t 22)),
          o 24 (.fa 6 (.t 5)),
          u (.st 1 (.t 24) (.t 23))] [2, 4, 5])
        (.seq (.ops [o 25 (.fa 7 (.t 2)),
           o 26 (.ld false 1 (.t 25)),
           o 27 (.fa 7 (.t 5)),
           u (.st 1 (.t 27) (.t 26))] [4, 5])
         (.seq (.ops [o 28 (.ld true 8 (.t 5)),
            u (.st 8 (.t 4) (.t 28))] [4])
          (.ret)))))))))
def c_laws_toEntry : PFunc := ⟨2, 29, b_laws_toEntry, [.cell 4 true 8]⟩
def b_laws_fillerEntry : PC :=
  .seq (.ops [o 0 (.alloc [.c (.val (.string ⟨#[]⟩)), .nil (.sl 1), .c (.val (.int .i64 0)), .nil (.fl 1), .nil (.fl 1), .c (.val (.int .i64 0)), .c (.val (.int .i64 0)), .c (.val (.int .i64 0))])] [0])
  (.seq (.ops [o 1 (.call 42 []),
     o 2 (.bs (.fl 4) [(.t 1)]),
     o 3 (.bs (.sl 1) [(.t 2)]),
     o 4 (.call 43 []),
     o 5 (.build [.c (.val (.string ⟨#[]⟩)), .nil (.sl 1), .c (.val (.int .i64 0)), .nil (.fl 1), .nil (.fl 1), .c (.val (.int .i64 0)), .c (.val (.int .i64 0)), .c (.val (.int .i64 0))] [(0, 1, (.k (.s (.c (.val (.string ⟨#[126, 115, 112, 97, 114, 101, 126]⟩)))))), (1, 1, (.t 3)), (2, 3, (.t 4)), (5, 1, (.k (.s (.c (.val (.int .i64 (-7000000000000000101))))))), (6, 1, (.k (.s (.c (.val (.int .i64 (-7000000000000000101))))))), (7, 1, (.k (.s (.c (.val (.int .i64 (-7000000000000000101)))))))]),
     u (.st 8 (.t 0) (.t 5))] [0])
   (.ret))
def c_laws_fillerEntry : PFunc := ⟨0, 6, b_laws_fillerEntry, [.cell 0 true 8]⟩
def b_laws_eqEntry : PC :=
  .seq (.ops [o 2 (.box (.t 0)),
    o 3 (.box (.t 1)),
    o 4 (.mv (.k (.s (.c (.val (.bool false))))))] [2, 3])
  (.seq (.seq (.ops [o 5 (.fa 0 (.t 2)),
      o 6 (.ld false 1 (.t 5)),
      o 7 (.fa 0 (.t 3)),
      o 8 (.ld false 1 (.t 7)),
      o 9 (.bin .neq (.t 6) (.t 8))] [2, 3, 9])
    (.cond (.t 9) (.seq (.ops [o 4 (.mv (.k (.s (.c (.val (.bool false))))))] [4])
      (.ret))
     (.skip)))
   (.seq (.seq (.ops [o 10 (.fa 1 (.t 2)),
       o 11 (.ld false 1 (.t 10)),
       o 12 (.fa 1 (.t 3)),
       o 13 (.ld false 1 (.t 12)),
       o 14 (.call 48 [(false, (.t 11)), (false, (.t 13))]),
       o 15 (.un .not (.t 14))] [2, 3, 15])
     (.cond (.t 15) (.seq (.ops [o 4 (.mv (.k (.s (.c (.val (.bool false))))))] [4])
       (.ret))
      (.skip)))
    (.seq (.seq (.ops [o 16 (.fa 2 (.t 2)),
        o 17 (.ld true 3 (.t 16)),
        o 18 (.fa 2 (.t 3)),
        o 19 (.ld true 3 (.t 18)),
        o 20 (.call 49 [(false, (.t 17)), (false, (.t 19))]),
        o 21 (.un .not (.t 20))] [2, 3, 21])
      (.cond (.t 21) (.seq (.ops [o 4 (.mv (.k (.s (.c (.val (.bool false))))))] [4])
        (.ret))
       (.skip)))
     (.seq (.seq (.ops [o 22 (.fa 5 (.t 2)),
         o 23 (.ld false 1 (.t 22)),
         o 24 (.fa 5 (.t 3)),
         o 25 (.ld false 1 (.t 24)),
         o 26 (.bin .neq (.t 23) (.t 25))] [2, 3, 26])
       (.cond (.t 26) (.seq (.ops [o 4 (.mv (.k (.s (.c (.val (.bool false))))))] [4])
         (.ret))
        (.skip)))
      (.seq (.seq (.ops [o 27 (.fa 6 (.t 2)),
          o 28 (.ld false 1 (.t 27)),
          o 29 (.fa 6 (.t 3)),
          o 30 (.ld false 1 (.t 29)),
          o 31 (.bin .neq (.t 28) (.t 30))] [2, 3, 31])
        (.cond (.t 31) (.seq (.ops [o 4 (.mv (.k (.s (.c (.val (.bool false))))))] [4])
          (.ret))
         (.skip)))
       (.seq (.seq (.ops [o 32 (.fa 7 (.t 2)),
           o 33 (.ld false 1 (.t 32)),
           o 34 (.fa 7 (.t 3)),
           o 35 (.ld false 1 (.t 34)),
           o 36 (.bin .neq (.t 33) (.t 35))] [36])
         (.cond (.t 36) (.seq (.ops [o 4 (.mv (.k (.s (.c (.val (.bool false))))))] [4])
           (.ret))
          (.skip)))
        (.seq (.ops [o 4 (.mv (.k (.s (.c (.val (.bool true))))))] [4])
         (.ret))))))))
def c_laws_eqEntry : PFunc := ⟨2, 37, b_laws_eqEntry, [.t 4]⟩
def b_laws_intactEntry : PC :=
  .seq (.ops [o 2 (.box (.t 0)),
    o 3 (.box (.t 1)),
    o 4 (.mv (.k (.s (.c (.val (.bool false))))))] [2, 3])
  (.seq (.seq (.ops [o 5 (.fa 0 (.t 2)),
      o 6 (.ld false 1 (.t 5)),
      o 7 (.fa 0 (.t 3)),
      o 8 (.ld false 1 (.t 7)),
      o 9 (.bin .neq (.t 6) (.t 8))] [2, 3, 9])
    (.cond (.t 9) (.seq (.ops [o 4 (.mv (.k (.s (.c (.val (.bool false))))))] [4])
      (.ret))
     (.skip)))
   (.seq (.seq (.ops [o 10 (.fa 1 (.t 2)),
       o 11 (.ld false 1 (.t 10)),
       o 12 (.fa 1 (.t 3)),
       o 13 (.ld false 1 (.t 12)),
       o 14 (.call 50 [(false, (.t 11)), (false, (.t 13))]),
       o 15 (.un .not (.t 14))] [2, 3, 15])
     (.cond (.t 15) (.seq (.ops [o 4 (.mv (.k (.s (.c (.val (.bool false))))))] [4])
       (.ret))
      (.skip)))
    (.seq (.seq (.ops [o 16 (.fa 2 (.t 2)),
        o 17 (.ld true 3 (.t 16)),
        o 18 (.fa 2 (.t 3)),
        o 19 (.ld true 3 (.t 18)),
        o 20 (.call 51 [(false, (.t 17)), (false, (.t 19))]),
        o 21 (.un .not (.t 20))] [2, 3, 21])
      (.cond (.t 21) (.seq (.ops [o 4 (.mv (.k (.s (.c (.val (.bool false))))))] [4])
        (.ret))
       (.skip)))
     (.seq (.seq (.ops [o 22 (.fa 5 (.t 2)),
         o 23 (.ld false 1 (.t 22)),
         o 24 (.fa 5 (.t 3)),
         o 25 (.ld false 1 (.t 24)),
         o 26 (.bin .neq (.t 23) (.t 25))] [2, 3, 26])
       (.cond (.t 26) (.seq (.ops [o 4 (.mv (.k (.s (.c (.val (.bool false))))))] [4])
         (.ret))
        (.skip)))
      (.seq (.seq (.ops [o 27 (.fa 6 (.t 2)),
          o 28 (.ld false 1 (.t 27)),
          o 29 (.fa 6 (.t 3)),
          o 30 (.ld false 1 (.t 29)),
          o 31 (.bin .neq (.t 28) (.t 30))] [2, 3, 31])
        (.cond (.t 31) (.seq (.ops [o 4 (.mv (.k (.s (.c (.val (.bool false))))))] [4])
          (.ret))
         (.skip)))
       (.seq (.seq (.ops [o 32 (.fa 7 (.t 2)),
           o 33 (.ld false 1 (.t 32)),
           o 34 (.fa 7 (.t 3)),
           o 35 (.ld false 1 (.t 34)),
           o 36 (.bin .neq (.t 33) (.t 35))] [36])
         (.cond (.t 36) (.seq (.ops [o 4 (.mv (.k (.s (.c (.val (.bool false))))))] [4])
           (.ret))
          (.skip)))
        (.seq (.ops [o 4 (.mv (.k (.s (.c (.val (.bool true))))))] [4])
         (.ret))))))))
def c_laws_intactEntry : PFunc := ⟨2, 37, b_laws_intactEntry, [.t 4]⟩
def l1_laws_markTermSS : PC :=
  .seq (.seq (.ops [o 6 (.mv (.t 5)),
     o 7 (.mv (.t 0)),
     o 8 (.len false (.t 7)),
     o 9 (.bin .lss (.t 6) (.t 8))] [0, 1, 5, 9])
   (.cond (.t 9) (.skip)
    (.exit 0)))
  (.seq (.block 1
    (.ops [o 12 (.mv (.t 0)),
      o 13 (.mv (.t 5)),
      o 14 (.ia 1 (.t 12) (.t 13)),
      o 15 (.ld false 1 (.t 14)),
      o 16 (.mv (.t 1)),
      o 17 (.call 52 [(true, (.t 15)), (false, (.t 16))]),
      o 1 (.mv (.t 17))] [0, 1, 5]))
   (.ops [o 10 (.mv (.t 5)),
     o 11 (.bin .add (.t 10) (.k (.s (.c (.val (.int .i64 1)))))),
     o 5 (.mv (.t 11))] [0, 1, 5]))
def b_laws_markTermSS : PC :=
  .seq (.ops [o 4 (.mv (.k (.s (.c (.val (.int .i64 0))))))] [0, 1])
  (.seq (.seq (.ops [o 5 (.mv (.k (.s (.c (.val (.int .i64 0))))))] [0, 1, 5])
    (.block 0
     (.loop [0, 1, 5] l1_laws_markTermSS)))
   (.seq (.ops [o 18 (.mv (.t 1)),
      o 4 (.mv (.t 18))] [4])
    (.ret)))
def c_laws_markTermSS : PFunc := ⟨2, 19, b_laws_markTermSS, [.t 4]⟩
def l1_laws_markText : PC :=
  .seq (.seq (.ops [o 6 (.mv (.t 0)),
     o 7 (.bin .gtr (.t 6) (.k (.s (.c (.val (.int .i64 0))))))] [0, 3, 7])
   (.cond (.t 7) (.skip)
    (.exit 0)))
  (.block 1
   (.seq (.ops [o 8 (.mv (.t 0)),
      o 9 (.bin .rem (.t 8) (.k (.s (.c (.val (.int .i64 10)))))),
      o 10 (.bin .add (.k (.s (.c (.val (.int .i64 48))))) (.t 9)),
      o 11 (.conv .u8 (.t 10)),
      o 12 (.bs (.fl 1) [(.t 11)]),
      o 13 (.b2s (.t 12)),
      o 14 (.mv (.t 3)),
      o 15 (.bin .add (.t 13) (.t 14)),
      o 3 (.mv (.t 15))] [0, 3])
    (.ops [o 16 (.mv (.t 0)),
      o 17 (.bin .quo (.t 16) (.k (.s (.c (.val (.int .i64 10)))))),
      o 0 (.mv (.t 17))] [0, 3])))
def b_laws_markText : PC :=
  .seq (.ops [o 2 (.mv (.k (.s (.c (.val (.string ⟨#[]⟩))))))] [0])
  (.seq (.seq (.ops [o 4 (.mv (.t 0)),
      o 5 (.bin .leq (.t 4) (.k (.s (.c (.val (.int .i64 0))))))] [0, 5])
    (.cond (.t 5) (.seq (.ops [o 2 (.mv (.k (.s (.c (.val (.string ⟨#[109, 48]⟩))))))] [2])
      (.ret))
     (.skip)))
   (.seq (.ops [o 3 (.mv (.k (.s (.c (.val (.string ⟨#[]⟩))))))] [0, 3])
    (.seq (.block 0
      (.loop [0, 3] l1_laws_markText))
     (.seq (.ops [o 18 (.mv (.t 3)),
        o 19 (.bin .add (.k (.s (.c (.val (.string ⟨#[109]⟩))))) (.t 18)),
        o 2 (.mv (.t 19))] [2])
      (.ret)))))
def c_laws_markText : PFunc := ⟨1, 20, b_laws_markText, [.t 2]⟩
def l1_laws_markIntS : PC :=
  .seq (.seq (.ops [o 6 (.mv (.t 5)),
     o 7 (.mv (.t 0)),
     o 8 (.len false (.t 7)),
     o 9 (.bin .lss (.t 6) (.t 8))] [0, 1, 5, 9])
   (.cond (.t 9) (.skip)
    (.exit 0)))
  (.seq (.block 1
    (.seq (.ops [o 12 (.mv (.t 0)),
       o 13 (.mv (.t 5)),
       o 14 (.mv (.t 1)),
       o 15 (.ia 1 (.t 12) (.t 13)),
       u (.st 1 (.t 15) (.t 14))] [0, 1, 5])
     (.ops [o 16 (.mv (.t 1)),
       o 17 (.bin .add (.t 16) (.k (.s (.c (.val (.int .i64 1)))))),
       o 1 (.mv (.t 17))] [0, 1, 5])))
   (.ops [o 10 (.mv (.t 5)),
     o 11 (.bin .add (.t 10) (.k (.s (.c (.val (.int .i64 1)))))),
     o 5 (.mv (.t 11))] [0, 1, 5]))
def b_laws_markIntS : PC :=
  .seq (.ops [o 4 (.mv (.k (.s (.c (.val (.int .i64 0))))))] [0, 1])
  (.seq (.seq (.ops [o 5 (.mv (.k (.s (.c (.val (.int .i64 0))))))] [0, 1, 5])
    (.block 0
     (.loop [0, 1, 5] l1_laws_markIntS)))
   (.seq (.ops [o 18 (.mv (.t 1)),
      o 4 (.mv (.t 18))] [4])
    (.ret)))
def c_laws_markIntS : PFunc := ⟨2, 19, b_laws_markIntS, [.t 4]⟩
def l1_laws_heldTermSS : PC :=
  .seq (.seq (.ops [o 6 (.mv (.t 5)),
     o 7 (.mv (.t 0)),
     o 8 (.len false (.t 7)),
     o 9 (.bin .lss (.t 6) (.t 8))] [0, 1, 5, 9])
   (.cond (.t 9) (.skip)
    (.exit 0)))
  (.seq (.block 1
    (.seq (.ops [o 12 (.mv (.t 0)),
       o 13 (.mv (.t 5)),
       o 14 (.ia 1 (.t 12) (.t 13)),
       o 15 (.ld false 1 (.t 14)),
       o 16 (.mv (.t 1)),
       o 17 (.call 53 [(false, (.t 15)), (false, (.t 16))]),
       o 1 (.mv (.t 17))] [0, 1, 5])
     (.seq (.ops [o 18 (.mv (.t 1)),
        o 19 (.bin .lss (.t 18) (.k (.s (.c (.val (.int .i64 0))))))] [0, 1, 5, 19])
      (.cond (.t 19) (.seq (.ops [o 4 (.mv (.k (.s (.c (.val (.int .i64 (-1)))))))] [4])
        (.ret))
       (.skip)))))
   (.ops [o 10 (.mv (.t 5)),
     o 11 (.bin .add (.t 10) (.k (.s (.c (.val (.int .i64 1)))))),
     o 5 (.mv (.t 11))] [0, 1, 5]))
def b_laws_heldTermSS : PC :=
  .seq (.ops [o 4 (.mv (.k (.s (.c (.val (.int .i64 0))))))] [0, 1])
  (.seq (.seq (.ops [o 5 (.mv (.k (.s (.c (.val (.int .i64 0))))))] [0, 1, 5])
    (.block 0
     (.loop [0, 1, 5] l1_laws_heldTermSS)))
   (.seq (.ops [o 20 (.mv (.t 1)),
      o 4 (.mv (.t 20))] [4])
    (.ret)))
def c_laws_heldTermSS : PFunc := ⟨2, 21, b_laws_heldTermSS, [.t 4]⟩
def l1_laws_heldIntS : PC :=
  .seq (.seq (.ops [o 6 (.mv (.t 5)),
     o 7 (.mv (.t 0)),
     o 8 (.len false (.t 7)),
     o 9 (.bin .lss (.t 6) (.t 8))] [0, 1, 5, 9])
   (.cond (.t 9) (.skip)
    (.exit 0)))
  (.seq (.block 1
    (.seq (.seq (.ops [o 12 (.mv (.t 0)),
        o 13 (.mv (.t 5)),
        o 14 (.ia 1 (.t 12) (.t 13)),
        o 15 (.ld false 1 (.t 14)),
        o 16 (.mv (.t 1)),
        o 17 (.bin .neq (.t 15) (.t 16))] [0, 1, 5, 17])
      (.cond (.t 17) (.seq (.ops [o 4 (.mv (.k (.s (.c (.val (.int .i64 (-1)))))))] [4])
        (.ret))
       (.skip)))
     (.ops [o 18 (.mv (.t 1)),
       o 19 (.bin .add (.t 18) (.k (.s (.c (.val (.int .i64 1)))))),
       o 1 (.mv (.t 19))] [0, 1, 5])))
   (.ops [o 10 (.mv (.t 5)),
     o 11 (.bin .add (.t 10) (.k (.s (.c (.val (.int .i64 1)))))),
     o 5 (.mv (.t 11))] [0, 1, 5]))
def b_laws_heldIntS : PC :=
  .seq (.ops [o 4 (.mv (.k (.s (.c (.val (.int .i64 0))))))] [0, 1])
  (.seq (.seq (.ops [o 5 (.mv (.k (.s (.c (.val (.int .i64 0))))))] [0, 1, 5])
    (.block 0
     (.loop [0, 1, 5] l1_laws_heldIntS)))
   (.seq (.ops [o 20 (.mv (.t 1)),
      o 4 (.mv (.t 20))] [4])
    (.ret)))
def c_laws_heldIntS : PFunc := ⟨2, 21, b_laws_heldIntS, [.t 4]⟩
def l1_spec_caGood : PC :=
  .seq (.ops [o 8 (.bin .lss (.t 7) (.t 6))] [0, 5, 6, 7, 8])
  (.seq (.cond (.t 8) (.skip)
    (.exit 0))
   (.seq (.block 1
     (.seq (.ops [o 9 (.mv (.t 7)),
        o 10 (.ia 8 (.t 5) (.t 7)),
        o 11 (.ld true 8 (.t 10)),
        o 4 (.alloc [.c (.val (.string ⟨#[]⟩)), .nil (.sl 1), .c (.val (.int .i64 0)), .nil (.fl 1), .nil (.fl 1), .c (.val (.int .i64 0)), .c (.val (.int .i64 0)), .c (.val (.int .i64 0))]),
        o 3 (.mv (.t 9)),
        u (.st 8 (.t 4) (.t 11))] [0, 3, 4, 5, 6, 7])
      (.seq (.dops [(0, ⟨(some 12), none, .no, .no, [], [], .ld true 8 (.t 4)⟩),
         (1, ⟨(some 13), none, .no, .all, [0], [], .call 17 [(false, (.t 12))]⟩),
         (2, ⟨(some 14), none, .no, .no, [0, 1], [], .un .not (.t 13)⟩),
         (3, ⟨(some 15), none, .no, .no, [0, 1, 2], [], .mv (.t 14)⟩),
         (4, ⟨(some 16), (some (15, false)), .no, .no, [0, 1, 2, 3], [], .mv (.t 3)⟩),
         (5, ⟨(some 17), (some (15, false)), .no, .no, [0, 1, 2, 3, 4], [], .bin .gtr (.t 16) (.k (.s (.c (.val (.int .i64 0)))))⟩),
         (6, ⟨(some 18), (some (15, false)), .no, .no, [0, 1, 2, 3, 4, 5], [], .mv (.t 17)⟩),
         (7, ⟨(some 19), (some (18, true)), .no, .no, [0, 1, 2, 3, 4, 5, 6], [20, 21, 25, 26], .mv (.t 0)⟩),
         (8, ⟨(some 20), (some (18, true)), .no, .no, [0, 1, 2, 3, 4, 5, 6], [19, 25, 26], .mv (.t 3)⟩),
         (9, ⟨(some 21), (some (18, true)), .no, .no, [0, 1, 2, 3, 4, 5, 6, 8], [19, 25, 26], .bin .sub (.t 20) (.k (.s (.c (.val (.int .i64 1)))))⟩),
         (10, ⟨(some 22), (some (18, true)), .no, .no, [0, 1, 2, 3, 4, 5, 6, 7, 8, 9], [25, 26], .ia 8 (.t 19) (.t 21)⟩),
         (11, ⟨(some 23), (some (18, true)), .no, .no, [0, 1, 2, 3, 4, 5, 6, 7, 8, 9, 10], [25, 26], .fa 0 (.t 22)⟩),
         (12, ⟨(some 24), (some (18, true)), .no, .no, [0, 1, 2, 3, 4, 5, 6, 7, 8, 9, 10, 11], [25, 26], .ld false 1 (.t 23)⟩),
         (13, ⟨(some 25), (some (18, true)), .no, .no, [0, 1, 2, 3, 4, 5, 6], [19, 20, 21, 22, 23, 24], .fa 0 (.t 4)⟩),
         (14, ⟨(some 26), (some (18, true)), .no, .no, [0, 1, 2, 3, 4, 5, 6, 13], [19, 20, 21, 22, 23, 24], .ld false 1 (.t 25)⟩),
         (15, ⟨(some 27), (some (18, true)), .no, .no, [0, 1, 2, 3, 4, 5, 6, 7, 8, 9, 10, 11, 12, 13, 14], [], .bin .geq (.t 24) (.t 26)⟩),
         (16, ⟨(some 28), (some (15, false)), .no, .no, [0, 1, 2, 3, 4, 5, 6, 7, 8, 9, 10, 11, 12, 13, 14, 15], [], .pick (.t 18) (.t 27) (.k (.s (.c (.val (.bool false)))))⟩),
         (17, ⟨(some 29), none, .no, .no, [0, 1, 2, 3, 4, 5, 6, 7, 8, 9, 10, 11, 12, 13, 14, 15, 16], [], .pick (.t 15) (.k (.s (.c (.val (.bool true))))) (.t 28)⟩)] [0, 5, 6, 7, 29])
       (.cond (.t 29) (.seq (.ops [o 2 (.mv (.k (.s (.c (.val (.bool false))))))] [2])
         (.ret))
        (.skip)))))
    (.ops [o 30 (.bin .add (.t 7) (.k (.s (.c (.val (.int .i64 1)))))),
      o 7 (.mv (.t 30))] [0, 5, 6, 7])))
def b_spec_caGood : PC :=
  .seq (.ops [o 2 (.mv (.k (.s (.c (.val (.bool false))))))] [0])
  (.seq (.seq (.ops [o 5 (.mv (.t 0)),
      o 6 (.len false (.t 5)),
      o 7 (.mv (.k (.s (.c (.val (.int .i64 0))))))] [0, 5, 6, 7])
    (.block 0
     (.loop [0, 5, 6, 7] l1_spec_caGood)))
   (.seq (.ops [o 31 (.mv (.t 0)),
      o 32 (.len false (.t 31)),
      o 33 (.bin .leq (.t 32) (.k (.s (.c (.val (.int .i64 10)))))),
      o 2 (.mv (.t 33))] [2])
    (.ret)))
def c_spec_caGood : PFunc := ⟨1, 34, b_spec_caGood, [.t 2]⟩
def l1_spec_caPlace : PC :=
  .seq (.seq (.ops [o 6 (.mv (.t 5)),
     o 7 (.mv (.t 0)),
     o 8 (.len false (.t 7)),
     o 9 (.bin .lss (.t 6) (.t 8)),
     o 10 (.mv (.t 9)),
     ⟨(some 11), (some (10, true)), .no, .no, [], [], .mv (.t 0)⟩,
     ⟨(some 12), (some (10, true)), .no, .no, [], [], .mv (.t 5)⟩,
     ⟨(some 13), (some (10, true)), .no, .no, [], [], .ia 8 (.t 11) (.t 12)⟩,
     ⟨(some 14), (some (10, true)), .no, .no, [], [], .fa 0 (.t 13)⟩,
     ⟨(some 15), (some (10, true)), .no, .no, [], [], .ld false 1 (.t 14)⟩,
     ⟨(some 16), (some (10, true)), .no, .no, [], [], .mv (.t 1)⟩,
     ⟨(some 17), (some (10, true)), .no, .no, [], [], .bin .lss (.t 15) (.t 16)⟩,
     o 18 (.pick (.t 10) (.t 17) (.k (.s (.c (.val (.bool false))))))] [0, 1, 5, 18])
   (.cond (.t 18) (.skip)
    (.exit 0)))
  (.block 1
   (.ops [o 19 (.mv (.t 5)),
     o 20 (.bin .add (.t 19) (.k (.s (.c (.val (.int .i64 1)))))),
     o 5 (.mv (.t 20))] [0, 1, 5]))
def b_spec_caPlace : PC :=
  .seq (.ops [o 4 (.mv (.k (.s (.c (.val (.int .i64 0))))))] [0, 1])
  (.seq (.ops [o 5 (.mv (.k (.s (.c (.val (.int .i64 0))))))] [0, 1, 5])
   (.seq (.block 0
     (.loop [0, 1, 5] l1_spec_caPlace))
    (.seq (.ops [o 21 (.mv (.t 5)),
       o 4 (.mv (.t 21))] [4])
     (.ret))))
def c_spec_caPlace : PFunc := ⟨2, 22, b_spec_caPlace, [.t 4]⟩
def b_spec_caAt : PC :=
  .seq (.ops [o 6 (.mv (.k (.s (.c (.val (.bool false))))))] [0, 1, 2])
  (.seq (.ops [o 7 (.mv (.t 1)),
     o 8 (.mv (.t 0)),
     o 9 (.len false (.t 8)),
     o 10 (.bin .lss (.t 7) (.t 9)),
     o 11 (.mv (.t 10)),
     ⟨(some 12), (some (11, true)), .no, .no, [], [], .mv (.t 0)⟩,
     ⟨(some 13), (some (11, true)), .no, .no, [], [], .mv (.t 1)⟩,
     ⟨(some 14), (some (11, true)), .no, .no, [], [], .ia 8 (.t 12) (.t 13)⟩,
     ⟨(some 15), (some (11, true)), .no, .no, [], [], .fa 0 (.t 14)⟩,
     ⟨(some 16), (some (11, true)), .no, .no, [], [], .ld false 1 (.t 15)⟩,
     ⟨(some 17), (some (11, true)), .no, .no, [], [], .mv (.t 2)⟩,
     ⟨(some 18), (some (11, true)), .no, .no, [], [], .bin .eql (.t 16) (.t 17)⟩,
     o 19 (.pick (.t 11) (.t 18) (.k (.s (.c (.val (.bool false)))))),
     o 6 (.mv (.t 19))] [6])
   (.ret))
def c_spec_caAt : PFunc := ⟨3, 20, b_spec_caAt, [.t 6]⟩
def l1_spec_caOwnAll : PC :=
  .seq (.ops [o 9 (.bin .lss (.t 8) (.t 7))] [3, 6, 7, 8, 9])
  (.seq (.cond (.t 9) (.skip)
    (.exit 0))
   (.seq (.block 1
     (.seq (.ops [o 10 (.ia 8 (.t 6) (.t 8)),
        o 11 (.ld true 8 (.t 10)),
        o 5 (.alloc [.c (.val (.string ⟨#[]⟩)), .nil (.sl 1), .c (.val (.int .i64 0)), .nil (.fl 1), .nil (.fl 1), .c (.val (.int .i64 0)), .c (.val (.int .i64 0)), .c (.val (.int .i64 0))]),
        u (.st 8 (.t 5) (.t 11))] [3, 5, 6, 7, 8])
      (.ops [o 12 (.mv (.t 3)),
        o 13 (.ld true 8 (.t 5)),
        o 14 (.call 39 [(false, (.t 13))]),
        o 15 (.bs (.sl 8) [(.t 14)]),
        o 16 (.app (.sl 8) 120 (.t 12) (.t 15)),
        o 3 (.mv (.t 16))] [3, 6, 7, 8])))
    (.ops [o 17 (.bin .add (.t 8) (.k (.s (.c (.val (.int .i64 1)))))),
      o 8 (.mv (.t 17))] [3, 6, 7, 8])))
def b_spec_caOwnAll : PC :=
  .seq (.ops [o 2 (.mkn (.sl 8))] [0])
  (.seq (.ops [o 3 (.mkn (.sl 8))] [0, 3])
   (.seq (.seq (.ops [o 6 (.mv (.t 0)),
       o 7 (.len false (.t 6)),
       o 8 (.mv (.k (.s (.c (.val (.int .i64 0))))))] [3, 6, 7, 8])
     (.block 0
      (.loop [3, 6, 7, 8] l1_spec_caOwnAll)))
    (.seq (.ops [o 18 (.mv (.t 3)),
       o 2 (.mv (.t 18))] [2])
     (.ret))))
def c_spec_caOwnAll : PFunc := ⟨1, 19, b_spec_caOwnAll, [.t 2]⟩
def b_spec_caPut : PC :=
  .seq (.ops [o 3 (.box (.t 1)),
    o 4 (.mkn (.sl 8))] [0, 3])
  (.seq (.ops [o 7 (.mv (.t 0)),
     o 8 (.fa 0 (.t 3)),
     o 9 (.ld false 1 (.t 8)),
     o 10 (.call 11 [(false, (.t 7)), (false, (.t 9))]),
     o 5 (.mv (.t 10))] [0, 3, 5])
   (.seq (.dops [(0, ⟨(some 11), none, .no, .no, [], [12, 15], .mv (.t 0)⟩),
      (1, ⟨(some 12), none, .no, .no, [], [11, 15], .mv (.t 5)⟩),
      (2, ⟨(some 13), none, .no, .no, [0, 1], [15], .slc 8 (.t 11) none (some (.t 12))⟩),
      (4, ⟨(some 15), none, .no, .no, [], [11, 12, 13, 14], .ld true 8 (.t 3)⟩),
      (3, ⟨(some 14), none, .no, .no, [0, 1, 2], [15], .call 38 [(false, (.t 13))]⟩),
      (5, ⟨(some 16), none, .no, .all, [0, 1, 2, 3, 4], [], .call 39 [(false, (.t 15))]⟩),
      (6, ⟨(some 17), none, .no, .all, [0, 1, 2, 3, 4, 5], [], .bs (.sl 8) [(.t 16)]⟩),
      (7, ⟨(some 18), none, .no, .all, [0, 1, 2, 3, 4, 5, 6], [], .app (.sl 8) 120 (.t 14) (.t 17)⟩),
      (8, ⟨(some 6), none, .no, .no, [0, 1, 2, 3, 4, 5, 6, 7], [], .mv (.t 18)⟩)] [0, 3, 5, 6])
    (.seq (.seq (.ops [o 19 (.mv (.t 0)),
        o 20 (.mv (.t 5)),
        o 21 (.fa 0 (.t 3)),
        o 22 (.ld false 1 (.t 21)),
        o 23 (.call 13 [(false, (.t 19)), (false, (.t 20)), (false, (.t 22))])] [0, 5, 6, 23])
      (.cond (.t 23) (.ops [o 24 (.mv (.t 5)),
         o 25 (.bin .add (.t 24) (.k (.s (.c (.val (.int .i64 1)))))),
         o 5 (.mv (.t 25))] [0, 5, 6])
       (.skip)))
     (.seq (.ops [o 26 (.mv (.t 6)),
        o 27 (.mv (.t 0)),
        o 28 (.mv (.t 5)),
        o 29 (.slc 8 (.t 27) (some (.t 28)) none),
        o 30 (.call 38 [(false, (.t 29))]),
        o 31 (.app (.sl 8) 120 (.t 26) (.t 30)),
        o 4 (.mv (.t 31))] [4])
      (.ret)))))
def c_spec_caPut : PFunc := ⟨2, 32, b_spec_caPut, [.t 4]⟩
def b_spec_caMeet : PC :=
  .seq (.ops [o 2 (.box (.t 0)),
    o 3 (.box (.t 1)),
    o 4 (.alloc [.c (.val (.string ⟨#[]⟩)), .nil (.sl 1), .c (.val (.int .i64 0)), .nil (.fl 1), .nil (.fl 1), .c (.val (.int .i64 0)), .c (.val (.int .i64 0)), .c (.val (.int .i64 0))]),
    o 5 (.mv (.k (.s (.c (.val (.bool false))))))] [2, 3, 4])
  (.seq (.block 0
    (.seq (.ops [o 7 (.fa 7 (.t 2)),
       o 8 (.ld false 1 (.t 7)),
       o 9 (.fa 7 (.t 3)),
       o 10 (.ld false 1 (.t 9)),
       o 11 (.bin .gtr (.t 8) (.t 10)),
       o 6 (.mv (.t 11))] [2, 3, 4, 6])
     (.cond (.t 6) (.seq (.ops [o 12 (.ld true 8 (.t 2)),
         u (.st 8 (.t 4) (.t 12)),
         o 5 (.mv (.k (.s (.c (.val (.bool true))))))] [4, 5])
       (.ret))
      (.seq (.ops [o 14 (.fa 7 (.t 3)),
         o 15 (.ld false 1 (.t 14)),
         o 16 (.fa 7 (.t 2)),
         o 17 (.ld false 1 (.t 16)),
         o 18 (.bin .gtr (.t 15) (.t 17)),
         o 13 (.mv (.t 18))] [2, 3, 4, 13])
       (.cond (.t 13) (.seq (.ops [o 19 (.ld true 8 (.t 3)),
           u (.st 8 (.t 4) (.t 19)),
           o 5 (.mv (.k (.s (.c (.val (.bool true))))))] [4, 5])
         (.ret))
        (.seq (.ops [o 21 (.ld true 8 (.t 2)),
           o 22 (.ld true 8 (.t 3)),
           o 23 (.call 123 [(false, (.t 21)), (false, (.t 22))]),
           o 24 (.un .not (.t 23)),
           o 20 (.mv (.t 24))] [2, 3, 4, 20])
         (.cond (.t 20) (.seq (.ops [o 25 (.build [.c (.val (.string ⟨#[]⟩)), .nil (.sl 1), .c (.val (.int .i64 0)), .nil (.fl 1), .nil (.fl 1), .c (.val (.int .i64 0)), .c (.val (.int .i64 0)), .c (.val (.int .i64 0))] []),
             u (.st 8 (.t 4) (.t 25)),
             o 5 (.mv (.k (.s (.c (.val (.bool false))))))] [4, 5])
           (.ret))
          (.skip))))))))
   (.seq (.ops [o 26 (.fa 5 (.t 2)),
      o 27 (.ld false 1 (.t 26)),
      o 28 (.fa 5 (.t 3)),
      o 29 (.ld false 1 (.t 28)),
      o 30 (.call 15 [(false, (.t 27)), (false, (.t 29))]),
      o 31 (.fa 5 (.t 2)),
      u (.st 1 (.t 31) (.t 30))] [2, 3, 4])
    (.seq (.ops [o 32 (.fa 6 (.t 2)),
       o 33 (.ld false 1 (.t 32)),
       o 34 (.fa 6 (.t 3)),
       o 35 (.ld false 1 (.t 34)),
       o 36 (.call 16 [(false, (.t 33)), (false, (.t 35))]),
       o 37 (.fa 6 (.t 2)),
       u (.st 1 (.t 37) (.t 36))] [2, 4])
     (.seq (.dops [(0, ⟨(some 38), none, .no, .no, [], [39, 40], .ld true 8 (.t 2)⟩),
        (1, ⟨(some 39), none, .no, .no, [], [38], .ld true 8 (.t 2)⟩),
        (2, ⟨(some 40), none, .no, .no, [1], [38], .call 17 [(false, (.t 39))]⟩),
        (3, ⟨none, none, .no, .all, [0, 1, 2], [], .st 8 (.t 4) (.t 38)⟩),
        (4, ⟨(some 5), none, .no, .no, [0, 1, 2, 3], [], .mv (.t 40)⟩)] [4, 5])
      (.ret)))))
def c_spec_caMeet : PFunc := ⟨2, 41, b_spec_caMeet, [.cell 4 true 8, .t 5]⟩
def l1_impl_isCatalogue : PC :=
  .seq (.ops [o 7 (.bin .lss (.t 6) (.t 5))] [0, 5, 6, 7])
  (.seq (.cond (.t 7) (.skip)
    (.exit 0))
   (.seq (.block 1
     (.seq (.ops [o 8 (.mv (.t 6)),
        o 3 (.mv (.t 8))] [0, 3, 5, 6])
      (.seq (.dops [(0, ⟨(some 9), none, .no, .no, [], [10], .mv (.t 0)⟩),
         (1, ⟨(some 10), none, .no, .no, [], [9], .mv (.t 3)⟩),
         (2, ⟨(some 11), none, .no, .no, [0, 1], [], .ia 8 (.t 9) (.t 10)⟩),
         (3, ⟨(some 12), none, .no, .all, [0, 1, 2], [], .call 44 [(false, (.t 11))]⟩),
         (4, ⟨(some 13), none, .no, .no, [0, 1, 2, 3], [], .un .not (.t 12)⟩),
         (5, ⟨(some 14), none, .no, .no, [0, 1, 2, 3, 4], [], .mv (.t 13)⟩),
         (6, ⟨(some 15), (some (14, false)), .no, .no, [0, 1, 2, 3, 4, 5], [], .mv (.t 3)⟩),
         (7, ⟨(some 16), (some (14, false)), .no, .no, [0, 1, 2, 3, 4, 5, 6], [], .bin .gtr (.t 15) (.k (.s (.c (.val (.int .i64 0)))))⟩),
         (8, ⟨(some 17), (some (14, false)), .no, .no, [0, 1, 2, 3, 4, 5, 6, 7], [], .mv (.t 16)⟩),
         (9, ⟨(some 18), (some (17, true)), .no, .no, [0, 1, 2, 3, 4, 5, 6, 7, 8], [19, 20, 24, 25, 26, 27, 28], .mv (.t 0)⟩),
         (10, ⟨(some 19), (some (17, true)), .no, .no, [0, 1, 2, 3, 4, 5, 6, 7, 8], [18, 24, 25, 26, 27, 28], .mv (.t 3)⟩),
         (11, ⟨(some 20), (some (17, true)), .no, .no, [0, 1, 2, 3, 4, 5, 6, 7, 8, 10], [18, 24, 25, 26, 27, 28], .bin .sub (.t 19) (.k (.s (.c (.val (.int .i64 1)))))⟩),
         (12, ⟨(some 21), (some (17, true)), .no, .no, [0, 1, 2, 3, 4, 5, 6, 7, 8, 9, 10, 11], [24, 25, 26, 27, 28], .ia 8 (.t 18) (.t 20)⟩),
         (13, ⟨(some 22), (some (17, true)), .no, .no, [0, 1, 2, 3, 4, 5, 6, 7, 8, 9, 10, 11, 12], [24, 25, 26, 27, 28], .fa 0 (.t 21)⟩),
         (14, ⟨(some 23), (some (17, true)), .no, .no, [0, 1, 2, 3, 4, 5, 6, 7, 8, 9, 10, 11, 12, 13], [24, 25, 26, 27, 28], .ld false 1 (.t 22)⟩),
         (15, ⟨(some 24), (some (17, true)), .no, .no, [0, 1, 2, 3, 4, 5, 6, 7, 8], [18, 19, 20, 21, 22, 23, 25], .mv (.t 0)⟩),
         (16, ⟨(some 25), (some (17, true)), .no, .no, [0, 1, 2, 3, 4, 5, 6, 7, 8], [18, 19, 20, 21, 22, 23, 24], .mv (.t 3)⟩),
         (17, ⟨(some 26), (some (17, true)), .no, .no, [0, 1, 2, 3, 4, 5, 6, 7, 8, 15, 16], [18, 19, 20, 21, 22, 23], .ia 8 (.t 24) (.t 25)⟩),
         (18, ⟨(some 27), (some (17, true)), .no, .no, [0, 1, 2, 3, 4, 5, 6, 7, 8, 15, 16, 17], [18, 19, 20, 21, 22, 23], .fa 0 (.t 26)⟩),
         (19, ⟨(some 28), (some (17, true)), .no, .no, [0, 1, 2, 3, 4, 5, 6, 7, 8, 15, 16, 17, 18], [18, 19, 20, 21, 22, 23], .ld false 1 (.t 27)⟩),
         (20, ⟨(some 29), (some (17, true)), .no, .no, [0, 1, 2, 3, 4, 5, 6, 7, 8, 9, 10, 11, 12, 13, 14, 15, 16, 17, 18, 19], [], .bin .geq (.t 23) (.t 28)⟩),
         (21, ⟨(some 30), (some (14, false)), .no, .no, [0, 1, 2, 3, 4, 5, 6, 7, 8, 9, 10, 11, 12, 13, 14, 15, 16, 17, 18, 19, 20], [], .pick (.t 17) (.t 29) (.k (.s (.c (.val (.bool false)))))⟩),
         (22, ⟨(some 31), none, .no, .no, [0, 1, 2, 3, 4, 5, 6, 7, 8, 9, 10, 11, 12, 13, 14, 15, 16, 17, 18, 19, 20, 21], [], .pick (.t 14) (.k (.s (.c (.val (.bool true))))) (.t 30)⟩)] [0, 5, 6, 31])
       (.cond (.t 31) (.seq (.ops [o 2 (.mv (.k (.s (.c (.val (.bool false))))))] [2])
         (.ret))
        (.skip)))))
    (.ops [o 32 (.bin .add (.t 6) (.k (.s (.c (.val (.int .i64 1)))))),
      o 6 (.mv (.t 32))] [0, 5, 6])))
def b_impl_isCatalogue : PC :=
  .seq (.ops [o 2 (.mv (.k (.s (.c (.val (.bool false))))))] [0])
  (.seq (.seq (.ops [o 4 (.mv (.t 0)),
      o 5 (.len false (.t 4)),
      o 6 (.mv (.k (.s (.c (.val (.int .i64 0))))))] [0, 5, 6])
    (.block 0
     (.loop [0, 5, 6] l1_impl_isCatalogue)))
   (.seq (.ops [o 33 (.mv (.t 0)),
      o 34 (.len false (.t 33)),
      o 35 (.bin .leq (.t 34) (.k (.s (.c (.val (.int .i64 10)))))),
      o 2 (.mv (.t 35))] [2])
    (.ret)))
def c_impl_isCatalogue : PFunc := ⟨1, 36, b_impl_isCatalogue, [.t 2]⟩
def l1_impl_copyEntries : PC :=
  .seq (.ops [o 8 (.bin .lss (.t 7) (.t 6))] [0, 3, 6, 7, 8])
  (.seq (.cond (.t 8) (.skip)
    (.exit 0))
   (.seq (.block 1
     (.seq (.ops [o 9 (.mv (.t 7)),
        o 4 (.mv (.t 9))] [0, 3, 4, 6, 7])
      (.ops [o 10 (.mv (.t 3)),
        o 11 (.mv (.t 0)),
        o 12 (.mv (.t 4)),
        o 13 (.ia 8 (.t 11) (.t 12)),
        o 14 (.call 47 [(false, (.t 13))]),
        o 15 (.bs (.sl 8) [(.t 14)]),
        o 16 (.app (.sl 8) 120 (.t 10) (.t 15)),
        o 3 (.mv (.t 16))] [0, 3, 6, 7])))
    (.ops [o 17 (.bin .add (.t 7) (.k (.s (.c (.val (.int .i64 1)))))),
      o 7 (.mv (.t 17))] [0, 3, 6, 7])))
def b_impl_copyEntries : PC :=
  .seq (.ops [o 2 (.mkn (.sl 8))] [0])
  (.seq (.ops [o 3 (.mkn (.sl 8))] [0, 3])
   (.seq (.seq (.ops [o 5 (.mv (.t 0)),
       o 6 (.len false (.t 5)),
       o 7 (.mv (.k (.s (.c (.val (.int .i64 0))))))] [0, 3, 6, 7])
     (.block 0
      (.loop [0, 3, 6, 7] l1_impl_copyEntries)))
    (.seq (.ops [o 18 (.mv (.t 3)),
       o 2 (.mv (.t 18))] [2])
     (.ret))))
def c_impl_copyEntries : PFunc := ⟨1, 19, b_impl_copyEntries, [.t 2]⟩
def b_impl_entryPlace : PC :=
  .seq (.ops [o 4 (.mv (.k (.s (.c (.val (.int .i64 0)))))),
    o 5 (.mv (.k (.s (.c (.val (.bool false))))))] [0, 1])
  (.seq (.ops [o 6 (.mv (.t 0)),
     o 7 (.mv (.t 1)),
     o 8 (.call 45 [(false, (.t 6)), (false, (.t 7)), (false, (.k (.fn 46 [])))]),
     o 9 (.ext 8 0),
     o 10 (.ext 8 1),
     o 4 (.mv (.t 9)),
     o 5 (.mv (.t 10))] [4, 5])
   (.ret))
def c_impl_entryPlace : PFunc := ⟨2, 11, b_impl_entryPlace, [.t 4, .t 5]⟩
def b_impl_catalogueResult : PC :=
  .seq (.ops [o 2 (.mkn (.sl 8)),
    o 3 (.mv (.k (.s (.c (.val (.bool false))))))] [0])
  (.seq (.seq (.ops [o 4 (.mv (.t 0)),
      o 5 (.call 22 [(false, (.t 4))]),
      o 6 (.un .not (.t 5))] [0, 6])
    (.cond (.t 6) (.seq (.ops [o 2 (.mkn (.sl 8)),
        o 3 (.mv (.k (.s (.c (.val (.bool false))))))] [2, 3])
      (.ret))
     (.skip)))
   (.seq (.ops [o 7 (.mv (.t 0)),
      o 2 (.mv (.t 7)),
      o 3 (.mv (.k (.s (.c (.val (.bool true))))))] [2, 3])
    (.ret)))
def c_impl_catalogueResult : PFunc := ⟨1, 8, b_impl_catalogueResult, [.t 2, .t 3]⟩
def b_impl_copyEntry : PC :=
  .seq (.ops [o 2 (.alloc [.c (.val (.string ⟨#[]⟩)), .nil (.sl 1), .c (.val (.int .i64 0)), .nil (.fl 1), .nil (.fl 1), .c (.val (.int .i64 0)), .c (.val (.int .i64 0)), .c (.val (.int .i64 0))])] [0, 2])
  (.seq (.ops [o 4 (.mv (.t 0)),
     o 5 (.nchk (.t 4)),
     o 6 (.ld true 8 (.t 5)),
     o 3 (.alloc [.c (.val (.string ⟨#[]⟩)), .nil (.sl 1), .c (.val (.int .i64 0)), .nil (.fl 1), .nil (.fl 1), .c (.val (.int .i64 0)), .c (.val (.int .i64 0)), .c (.val (.int .i64 0))]),
     u (.st 8 (.t 3) (.t 6))] [0, 2, 3])
   (.seq (.ops [o 7 (.mv (.t 0)),
      o 8 (.nchk (.t 7)),
      o 9 (.fa 1 (.t 8)),
      o 10 (.ld false 1 (.t 9)),
      o 11 (.call 64 [(false, (.t 10))]),
      o 12 (.fa 1 (.t 3)),
      u (.st 1 (.t 12) (.t 11))] [0, 2, 3])
    (.seq (.ops [o 13 (.mv (.t 0)),
       o 14 (.nchk (.t 13)),
       o 15 (.fa 2 (.t 14)),
       o 16 (.ld true 3 (.t 15)),
       o 17 (.bs (.sl 3) [(.t 16)]),
       o 18 (.call 65 [(false, (.t 17))]),
       o 19 (.ia 3 (.t 18) (.k (.s (.c (.val (.int .i64 0)))))),
       o 20 (.ld true 3 (.t 19)),
       o 21 (.fa 2 (.t 3)),
       u (.st 3 (.t 21) (.t 20))] [2, 3])
     (.seq (.ops [o 22 (.ld true 8 (.t 3)),
        u (.st 8 (.t 2) (.t 22))] [2])
      (.ret)))))
def c_impl_copyEntry : PFunc := ⟨1, 23, b_impl_copyEntry, [.cell 2 true 8]⟩
def b_impl_sameSystem : PC :=
  .seq (.ops [o 4 (.mv (.k (.s (.c (.val (.bool false))))))] [0, 1])
  (.seq (.dops [(0, ⟨(some 5), none, .no, .no, [], [9, 10, 11, 12], .mv (.t 0)⟩),
     (1, ⟨(some 6), none, .no, .no, [0], [9, 10, 11, 12], .nchk (.t 5)⟩),
     (2, ⟨(some 7), none, .no, .no, [0, 1], [9, 10, 11, 12], .fa 1 (.t 6)⟩),
     (3, ⟨(some 8), none, .no, .no, [0, 1, 2], [9, 10, 11, 12], .ld false 1 (.t 7)⟩),
     (4, ⟨(some 9), none, .no, .no, [], [5, 6, 7, 8], .mv (.t 1)⟩),
     (5, ⟨(some 10), none, .no, .no, [4], [5, 6, 7, 8], .nchk (.t 9)⟩),
     (6, ⟨(some 11), none, .no, .no, [4, 5], [5, 6, 7, 8], .fa 1 (.t 10)⟩),
     (7, ⟨(some 12), none, .no, .no, [4, 5, 6], [5, 6, 7, 8], .ld false 1 (.t 11)⟩),
     (8, ⟨(some 13), none, .no, .all, [0, 1, 2, 3, 4, 5, 6, 7], [], .call 140 [(false, (.t 8)), (false, (.t 12)), (false, (.k (.fn 141 [])))]⟩),
     (9, ⟨(some 14), none, .no, .no, [0, 1, 2, 3, 4, 5, 6, 7, 8], [], .mv (.t 13)⟩),
     (10, ⟨(some 15), (some (14, true)), .no, .no, [0, 1, 2, 3, 4, 5, 6, 7, 8, 9], [19, 20, 21, 22], .mv (.t 0)⟩),
     (11, ⟨(some 16), (some (14, true)), .no, .no, [0, 1, 2, 3, 4, 5, 6, 7, 8, 9, 10], [19, 20, 21, 22], .nchk (.t 15)⟩),
     (12, ⟨(some 17), (some (14, true)), .no, .no, [0, 1, 2, 3, 4, 5, 6, 7, 8, 9, 10, 11], [19, 20, 21, 22], .fa 2 (.t 16)⟩),
     (13, ⟨(some 18), (some (14, true)), .no, .no, [0, 1, 2, 3, 4, 5, 6, 7, 8, 9, 10, 11, 12], [19, 20, 21, 22], .ld true 3 (.t 17)⟩),
     (14, ⟨(some 19), (some (14, true)), .no, .no, [0, 1, 2, 3, 4, 5, 6, 7, 8, 9], [15, 16, 17, 18], .mv (.t 1)⟩),
     (15, ⟨(some 20), (some (14, true)), .no, .no, [0, 1, 2, 3, 4, 5, 6, 7, 8, 9, 14], [15, 16, 17, 18], .nchk (.t 19)⟩),
     (16, ⟨(some 21), (some (14, true)), .no, .no, [0, 1, 2, 3, 4, 5, 6, 7, 8, 9, 14, 15], [15, 16, 17, 18], .fa 2 (.t 20)⟩),
     (17, ⟨(some 22), (some (14, true)), .no, .no, [0, 1, 2, 3, 4, 5, 6, 7, 8, 9, 14, 15, 16], [15, 16, 17, 18], .ld true 3 (.t 21)⟩),
     (18, ⟨(some 23), (some (14, true)), .no, .all, [0, 1, 2, 3, 4, 5, 6, 7, 8, 9, 10, 11, 12, 13, 14, 15, 16, 17], [], .call 142 [(false, (.t 18)), (false, (.t 22))]⟩),
     (19, ⟨(some 24), none, .no, .no, [0, 1, 2, 3, 4, 5, 6, 7, 8, 9, 10, 11, 12, 13, 14, 15, 16, 17, 18], [], .pick (.t 14) (.t 23) (.k (.s (.c (.val (.bool false)))))⟩),
     (20, ⟨(some 4), none, .no, .no, [0, 1, 2, 3, 4, 5, 6, 7, 8, 9, 10, 11, 12, 13, 14, 15, 16, 17, 18, 19], [], .mv (.t 24)⟩)] [4])
   (.ret))
def c_impl_sameSystem : PFunc := ⟨2, 25, b_impl_sameSystem, [.t 4]⟩
def b_spec_caEqual : PC :=
  .seq (.ops [o 2 (.box (.t 0)),
    o 3 (.box (.t 1)),
    o 4 (.mv (.k (.s (.c (.val (.bool false))))))] [2, 3])
  (.seq (.ops [o 5 (.fa 0 (.t 2)),
     o 6 (.ld false 1 (.t 5)),
     o 7 (.fa 0 (.t 3)),
     o 8 (.ld false 1 (.t 7)),
     o 9 (.bin .eql (.t 6) (.t 8)),
     o 10 (.mv (.t 9)),
     ⟨(some 11), (some (10, true)), .no, .no, [], [], .ld true 8 (.t 2)⟩,
     ⟨(some 12), (some (10, true)), .no, .no, [], [], .ld true 8 (.t 3)⟩,
     ⟨(some 13), (some (10, true)), .no, .no, [], [], .call 123 [(false, (.t 11)), (false, (.t 12))]⟩,
     o 14 (.pick (.t 10) (.t 13) (.k (.s (.c (.val (.bool false)))))),
     o 15 (.mv (.t 14)),
     ⟨(some 16), (some (15, true)), .no, .no, [], [], .fa 5 (.t 2)⟩,
     ⟨(some 17), (some (15, true)), .no, .no, [], [], .ld false 1 (.t 16)⟩,
     ⟨(some 18), (some (15, true)), .no, .no, [], [], .fa 5 (.t 3)⟩,
     ⟨(some 19), (some (15, true)), .no, .no, [], [], .ld false 1 (.t 18)⟩,
     ⟨(some 20), (some (15, true)), .no, .no, [], [], .bin .eql (.t 17) (.t 19)⟩,
     o 21 (.pick (.t 15) (.t 20) (.k (.s (.c (.val (.bool false)))))),
     o 22 (.mv (.t 21)),
     ⟨(some 23), (some (22, true)), .no, .no, [], [], .fa 6 (.t 2)⟩,
     ⟨(some 24), (some (22, true)), .no, .no, [], [], .ld false 1 (.t 23)⟩,
     ⟨(some 25), (some (22, true)), .no, .no, [], [], .fa 6 (.t 3)⟩,
     ⟨(some 26), (some (22, true)), .no, .no, [], [], .ld false 1 (.t 25)⟩,
     ⟨(some 27), (some (22, true)), .no, .no, [], [], .bin .eql (.t 24) (.t 26)⟩,
     o 28 (.pick (.t 22) (.t 27) (.k (.s (.c (.val (.bool false)))))),
     o 29 (.mv (.t 28)),
     ⟨(some 30), (some (29, true)), .no, .no, [], [], .fa 7 (.t 2)⟩,
     ⟨(some 31), (some (29, true)), .no, .no, [], [], .ld false 1 (.t 30)⟩,
     ⟨(some 32), (some (29, true)), .no, .no, [], [], .fa 7 (.t 3)⟩,
     ⟨(some 33), (some (29, true)), .no, .no, [], [], .ld false 1 (.t 32)⟩,
     ⟨(some 34), (some (29, true)), .no, .no, [], [], .bin .eql (.t 31) (.t 33)⟩,
     o 35 (.pick (.t 29) (.t 34) (.k (.s (.c (.val (.bool false)))))),
     o 4 (.mv (.t 35))] [4])
   (.ret))
def c_spec_caEqual : PFunc := ⟨2, 36, b_spec_caEqual, [.t 4]⟩
def l1_spec_jrPut : PC :=
  .seq (.seq (.ops [o 6 (.mv (.t 5)),
     o 7 (.mv (.t 0)),
     o 8 (.len false (.t 7)),
     o 9 (.bin .lss (.t 6) (.t 8)),
     o 10 (.mv (.t 9)),
     ⟨(some 11), (some (10, true)), .no, .no, [], [], .mv (.t 0)⟩,
     ⟨(some 12), (some (10, true)), .no, .no, [], [], .mv (.t 5)⟩,
     ⟨(some 13), (some (10, true)), .no, .no, [], [], .ia 1 (.t 11) (.t 12)⟩,
     ⟨(some 14), (some (10, true)), .no, .no, [], [], .ld false 1 (.t 13)⟩,
     ⟨(some 15), (some (10, true)), .no, .no, [], [], .mv (.t 1)⟩,
     ⟨(some 16), (some (10, true)), .no, .no, [], [], .bin .lss (.t 14) (.t 15)⟩,
     o 17 (.pick (.t 10) (.t 16) (.k (.s (.c (.val (.bool false))))))] [0, 1, 5, 17])
   (.cond (.t 17) (.skip)
    (.exit 0)))
  (.block 1
   (.ops [o 18 (.mv (.t 5)),
     o 19 (.bin .add (.t 18) (.k (.s (.c (.val (.int .i64 1)))))),
     o 5 (.mv (.t 19))] [0, 1, 5]))
def b_spec_jrPut : PC :=
  .seq (.ops [o 4 (.mkn (.fl 1))] [0, 1])
  (.seq (.ops [o 5 (.mv (.k (.s (.c (.val (.int .i64 0))))))] [0, 1, 5])
   (.seq (.block 0
     (.loop [0, 1, 5] l1_spec_jrPut))
    (.seq (.seq (.ops [o 20 (.mv (.t 5)),
        o 21 (.mv (.t 0)),
        o 22 (.len false (.t 21)),
        o 23 (.bin .lss (.t 20) (.t 22)),
        o 24 (.mv (.t 23)),
        ⟨(some 25), (some (24, true)), .no, .no, [], [], .mv (.t 0)⟩,
        ⟨(some 26), (some (24, true)), .no, .no, [], [], .mv (.t 5)⟩,
        ⟨(some 27), (some (24, true)), .no, .no, [], [], .ia 1 (.t 25) (.t 26)⟩,
        ⟨(some 28), (some (24, true)), .no, .no, [], [], .ld false 1 (.t 27)⟩,
        ⟨(some 29), (some (24, true)), .no, .no, [], [], .mv (.t 1)⟩,
        ⟨(some 30), (some (24, true)), .no, .no, [], [], .bin .eql (.t 28) (.t 29)⟩,
        o 31 (.pick (.t 24) (.t 30) (.k (.s (.c (.val (.bool false))))))] [0, 1, 5, 31])
      (.cond (.t 31) (.seq (.ops [o 32 (.mv (.t 0)),
          o 4 (.mv (.t 32))] [4])
        (.ret))
       (.skip)))
     (.seq (.dops [(1, ⟨(some 34), none, .no, .no, [], [33, 35, 38, 39, 41, 42, 43], .mv (.t 0)⟩),
        (2, ⟨(some 35), none, .no, .no, [], [33, 34, 38, 39, 41, 42, 43], .mv (.t 5)⟩),
        (3, ⟨(some 36), none, .no, .no, [0, 1], [33, 38, 39, 41, 42, 43], .slc 1 (.t 34) none (some (.t 35))⟩),
        (5, ⟨(some 38), none, .all, .no, [], [33, 34, 35, 36, 37, 41, 42, 43], .mv (.t 1)⟩),
        (8, ⟨(some 41), none, .all, .no, [], [33, 34, 35, 36, 37, 38, 39, 40, 42], .mv (.t 0)⟩),
        (9, ⟨(some 42), none, .all, .no, [], [33, 34, 35, 36, 37, 38, 39, 40, 41], .mv (.t 5)⟩),
        (10, ⟨(some 43), none, (.ids [33, 37] []), .no, [4, 5], [33, 34, 35, 36, 37, 38, 39, 40], .slc 1 (.t 41) (some (.t 42)) none⟩),
        (0, ⟨(some 33), none, .no, .no, [], [34, 35, 36, 38, 39, 41, 42, 43], .bs (.fl 1) []⟩),
        (4, ⟨(some 37), none, .no, (.ids [33] []), [0, 1, 2, 7], [38, 39, 41, 42, 43], .app (.fl 1) 16 (.t 33) (.t 36)⟩),
        (6, ⟨(some 39), none, .no, .no, [3], [33, 34, 35, 36, 37, 41, 42, 43], .bs (.fl 1) [(.t 38)]⟩),
        (7, ⟨(some 40), none, .no, (.ids [37] []), [0, 1, 2, 3, 7, 8, 9], [41, 42, 43], .app (.fl 1) 16 (.t 37) (.t 39)⟩),
        (11, ⟨(some 44), none, .no, .all, [0, 1, 2, 3, 4, 5, 6, 7, 8, 9, 10], [], .app (.fl 1) 16 (.t 40) (.t 43)⟩),
        (12, ⟨(some 4), none, .no, .no, [0, 1, 2, 3, 4, 5, 6, 7, 8, 9, 10, 11], [], .mv (.t 44)⟩)] [4])
      (.ret)))))
def c_spec_jrPut : PFunc := ⟨2, 45, b_spec_jrPut, [.t 4]⟩
def l1_impl_changedIn : PC :=
  .seq (.ops [o 13 (.bin .lss (.t 12) (.t 11))] [0, 1, 5, 11, 12, 13])
  (.seq (.cond (.t 13) (.skip)
    (.exit 0))
   (.seq (.block 1
     (.seq (.ops [o 14 (.mv (.t 12)),
        o 6 (.mv (.t 14))] [0, 1, 5, 6, 11, 12])
      (.seq (.ops [o 15 (.mv (.t 0)),
         o 16 (.mv (.t 6)),
         o 17 (.ia 8 (.t 15) (.t 16)),
         o 7 (.mv (.t 17))] [0, 1, 5, 7, 11, 12])
       (.seq (.ops [o 19 (.mv (.t 1)),
          o 20 (.mv (.t 7)),
          o 21 (.nchk (.t 20)),
          o 22 (.fa 0 (.t 21)),
          o 23 (.ld false 1 (.t 22)),
          o 24 (.call 24 [(false, (.t 19)), (false, (.t 23))]),
          o 18 (.mvt 24),
          o 25 (.ext 18 0),
          o 26 (.ext 18 1),
          o 8 (.mv (.t 25)),
          o 9 (.mv (.t 26))] [0, 1, 5, 7, 8, 9, 11, 12])
        (.seq (.dops [(0, ⟨(some 27), none, .no, .no, [], [], .mv (.t 9)⟩),
           (1, ⟨(some 28), none, .no, .no, [0], [], .un .not (.t 27)⟩),
           (2, ⟨(some 29), none, .no, .no, [0, 1], [], .mv (.t 28)⟩),
           (3, ⟨(some 30), (some (29, false)), .no, .no, [0, 1, 2], [31, 32, 33], .mv (.t 7)⟩),
           (4, ⟨(some 31), (some (29, false)), .no, .no, [0, 1, 2], [30, 32], .mv (.t 1)⟩),
           (5, ⟨(some 32), (some (29, false)), .no, .no, [0, 1, 2], [30, 31], .mv (.t 8)⟩),
           (6, ⟨(some 33), (some (29, false)), .no, .no, [0, 1, 2, 4, 5], [30], .ia 8 (.t 31) (.t 32)⟩),
           (7, ⟨(some 34), (some (29, false)), .no, .all, [0, 1, 2, 3, 4, 5, 6], [], .call 122 [(false, (.t 30)), (false, (.t 33))]⟩),
           (8, ⟨(some 35), (some (29, false)), .no, .no, [0, 1, 2, 3, 4, 5, 6, 7], [], .un .not (.t 34)⟩),
           (9, ⟨(some 36), none, .no, .no, [0, 1, 2, 3, 4, 5, 6, 7, 8], [], .pick (.t 29) (.k (.s (.c (.val (.bool true))))) (.t 35)⟩),
           (10, ⟨(some 37), none, .no, .no, [0, 1, 2, 3, 4, 5, 6, 7, 8, 9], [], .mv (.t 36)⟩),
           (11, ⟨(some 38), (some (37, false)), .no, .no, [0, 1, 2, 3, 4, 5, 6, 7, 8, 9, 10], [42, 43, 44, 45, 46], .mv (.t 7)⟩),
           (12, ⟨(some 39), (some (37, false)), .no, .no, [0, 1, 2, 3, 4, 5, 6, 7, 8, 9, 10, 11], [42, 43, 44, 45, 46], .nchk (.t 38)⟩),
           (13, ⟨(some 40), (some (37, false)), .no, .no, [0, 1, 2, 3, 4, 5, 6, 7, 8, 9, 10, 11, 12], [42, 43, 44, 45, 46], .fa 5 (.t 39)⟩),
           (14, ⟨(some 41), (some (37, false)), .no, .no, [0, 1, 2, 3, 4, 5, 6, 7, 8, 9, 10, 11, 12, 13], [42, 43, 44, 45, 46], .ld false 1 (.t 40)⟩),
           (15, ⟨(some 42), (some (37, false)), .no, .no, [0, 1, 2, 3, 4, 5, 6, 7, 8, 9, 10], [38, 39, 40, 41, 43], .mv (.t 1)⟩),
           (16, ⟨(some 43), (some (37, false)), .no, .no, [0, 1, 2, 3, 4, 5, 6, 7, 8, 9, 10], [38, 39, 40, 41, 42], .mv (.t 8)⟩),
           (17, ⟨(some 44), (some (37, false)), .no, .no, [0, 1, 2, 3, 4, 5, 6, 7, 8, 9, 10, 15, 16], [38, 39, 40, 41], .ia 8 (.t 42) (.t 43)⟩),
           (18, ⟨(some 45), (some (37, false)), .no, .no, [0, 1, 2, 3, 4, 5, 6, 7, 8, 9, 10, 15, 16, 17], [38, 39, 40, 41], .fa 5 (.t 44)⟩),
           (19, ⟨(some 46), (some (37, false)), .no, .no, [0, 1, 2, 3, 4, 5, 6, 7, 8, 9, 10, 15, 16, 17, 18], [38, 39, 40, 41], .ld false 1 (.t 45)⟩),
           (20, ⟨(some 47), (some (37, false)), .no, .no, [0, 1, 2, 3, 4, 5, 6, 7, 8, 9, 10, 11, 12, 13, 14, 15, 16, 17, 18, 19], [], .bin .neq (.t 41) (.t 46)⟩),
           (21, ⟨(some 48), none, .no, .no, [0, 1, 2, 3, 4, 5, 6, 7, 8, 9, 10, 11, 12, 13, 14, 15, 16, 17, 18, 19, 20], [], .pick (.t 37) (.k (.s (.c (.val (.bool true))))) (.t 47)⟩),
           (22, ⟨(some 49), none, .no, .no, [0, 1, 2, 3, 4, 5, 6, 7, 8, 9, 10, 11, 12, 13, 14, 15, 16, 17, 18, 19, 20, 21], [], .mv (.t 48)⟩),
           (23, ⟨(some 50), (some (49, false)), .no, .no, [0, 1, 2, 3, 4, 5, 6, 7, 8, 9, 10, 11, 12, 13, 14, 15, 16, 17, 18, 19, 20, 21, 22], [54, 55, 56, 57, 58], .mv (.t 7)⟩),
           (24, ⟨(some 51), (some (49, false)), .no, .no, [0, 1, 2, 3, 4, 5, 6, 7, 8, 9, 10, 11, 12, 13, 14, 15, 16, 17, 18, 19, 20, 21, 22, 23], [54, 55, 56, 57, 58], .nchk (.t 50)⟩),
           (25, ⟨(some 52), (some (49, false)), .no, .no, [0, 1, 2, 3, 4, 5, 6, 7, 8, 9, 10, 11, 12, 13, 14, 15, 16, 17, 18, 19, 20, 21, 22, 23, 24], [54, 55, 56, 57, 58], .fa 6 (.t 51)⟩),
           (26, ⟨(some 53), (some (49, false)), .no, .no, [0, 1, 2, 3, 4, 5, 6, 7, 8, 9, 10, 11, 12, 13, 14, 15, 16, 17, 18, 19, 20, 21, 22, 23, 24, 25], [54, 55, 56, 57, 58], .ld false 1 (.t 52)⟩),
           (27, ⟨(some 54), (some (49, false)), .no, .no, [0, 1, 2, 3, 4, 5, 6, 7, 8, 9, 10, 11, 12, 13, 14, 15, 16, 17, 18, 19, 20, 21, 22], [50, 51, 52, 53, 55], .mv (.t 1)⟩),
           (28, ⟨(some 55), (some (49, false)), .no, .no, [0, 1, 2, 3, 4, 5, 6, 7, 8, 9, 10, 11, 12, 13, 14, 15, 16, 17, 18, 19, 20, 21, 22], [50, 51, 52, 53, 54], .mv (.t 8)⟩),
           (29, ⟨(some 56), (some (49, false)), .no, .no, [0, 1, 2, 3, 4, 5, 6, 7, 8, 9, 10, 11, 12, 13, 14, 15, 16, 17, 18, 19, 20, 21, 22, 27, 28], [50, 51, 52, 53], .ia 8 (.t 54) (.t 55)⟩),
           (30, ⟨(some 57), (some (49, false)), .no, .no, [0, 1, 2, 3, 4, 5, 6, 7, 8, 9, 10, 11, 12, 13, 14, 15, 16, 17, 18, 19, 20, 21, 22, 27, 28, 29], [50, 51, 52, 53], .fa 6 (.t 56)⟩),
           (31, ⟨(some 58), (some (49, false)), .no, .no, [0, 1, 2, 3, 4, 5, 6, 7, 8, 9, 10, 11, 12, 13, 14, 15, 16, 17, 18, 19, 20, 21, 22, 27, 28, 29, 30], [50, 51, 52, 53], .ld false 1 (.t 57)⟩),
           (32, ⟨(some 59), (some (49, false)), .no, .no, [0, 1, 2, 3, 4, 5, 6, 7, 8, 9, 10, 11, 12, 13, 14, 15, 16, 17, 18, 19, 20, 21, 22, 23, 24, 25, 26, 27, 28, 29, 30, 31], [], .bin .neq (.t 53) (.t 58)⟩),
           (33, ⟨(some 60), none, .no, .no, [0, 1, 2, 3, 4, 5, 6, 7, 8, 9, 10, 11, 12, 13, 14, 15, 16, 17, 18, 19, 20, 21, 22, 23, 24, 25, 26, 27, 28, 29, 30, 31, 32], [], .pick (.t 49) (.k (.s (.c (.val (.bool true))))) (.t 59)⟩),
           (34, ⟨(some 61), none, .no, .no, [0, 1, 2, 3, 4, 5, 6, 7, 8, 9, 10, 11, 12, 13, 14, 15, 16, 17, 18, 19, 20, 21, 22, 23, 24, 25, 26, 27, 28, 29, 30, 31, 32, 33], [], .mv (.t 60)⟩),
           (35, ⟨(some 62), (some (61, false)), .no, .no, [0, 1, 2, 3, 4, 5, 6, 7, 8, 9, 10, 11, 12, 13, 14, 15, 16, 17, 18, 19, 20, 21, 22, 23, 24, 25, 26, 27, 28, 29, 30, 31, 32, 33, 34], [66, 67, 68, 69, 70], .mv (.t 7)⟩),
           (36, ⟨(some 63), (some (61, false)), .no, .no, [0, 1, 2, 3, 4, 5, 6, 7, 8, 9, 10, 11, 12, 13, 14, 15, 16, 17, 18, 19, 20, 21, 22, 23, 24, 25, 26, 27, 28, 29, 30, 31, 32, 33, 34, 35], [66, 67, 68, 69, 70], .nchk (.t 62)⟩),
           (37, ⟨(some 64), (some (61, false)), .no, .no, [0, 1, 2, 3, 4, 5, 6, 7, 8, 9, 10, 11, 12, 13, 14, 15, 16, 17, 18, 19, 20, 21, 22, 23, 24, 25, 26, 27, 28, 29, 30, 31, 32, 33, 34, 35, 36], [66, 67, 68, 69, 70], .fa 7 (.t 63)⟩),
           (38, ⟨(some 65), (some (61, false)), .no, .no, [0, 1, 2, 3, 4, 5, 6, 7, 8, 9, 10, 11, 12, 13, 14, 15, 16, 17, 18, 19, 20, 21, 22, 23, 24, 25, 26, 27, 28, 29, 30, 31, 32, 33, 34, 35, 36, 37], [66, 67, 68, 69, 70], .ld false 1 (.t 64)⟩),
           (39, ⟨(some 66), (some (61, false)), .no, .no, [0, 1, 2, 3, 4, 5, 6, 7, 8, 9, 10, 11, 12, 13, 14, 15, 16, 17, 18, 19, 20, 21, 22, 23, 24, 25, 26, 27, 28, 29, 30, 31, 32, 33, 34], [62, 63, 64, 65, 67], .mv (.t 1)⟩),
           (40, ⟨(some 67), (some (61, false)), .no, .no, [0, 1, 2, 3, 4, 5, 6, 7, 8, 9, 10, 11, 12, 13, 14, 15, 16, 17, 18, 19, 20, 21, 22, 23, 24, 25, 26, 27, 28, 29, 30, 31, 32, 33, 34], [62, 63, 64, 65, 66], .mv (.t 8)⟩),
           (41, ⟨(some 68), (some (61, false)), .no, .no, [0, 1, 2, 3, 4, 5, 6, 7, 8, 9, 10, 11, 12, 13, 14, 15, 16, 17, 18, 19, 20, 21, 22, 23, 24, 25, 26, 27, 28, 29, 30, 31, 32, 33, 34, 39, 40], [62, 63, 64, 65], .ia 8 (.t 66) (.t 67)⟩),
           (42, ⟨(some 69), (some (61, false)), .no, .no, [0, 1, 2, 3, 4, 5, 6, 7, 8, 9, 10, 11, 12, 13, 14, 15, 16, 17, 18, 19, 20, 21, 22, 23, 24, 25, 26, 27, 28, 29, 30, 31, 32, 33, 34, 39, 40, 41], [62, 63, 64, 65], .fa 7 (.t 68)⟩),
           (43, ⟨(some 70), (some (61, false)), .no, .no, [0, 1, 2, 3, 4, 5, 6, 7, 8, 9, 10, 11, 12, 13, 14, 15, 16, 17, 18, 19, 20, 21, 22, 23, 24, 25, 26, 27, 28, 29, 30, 31, 32, 33, 34, 39, 40, 41, 42], [62, 63, 64, 65], .ld false 1 (.t 69)⟩),
           (44, ⟨(some 71), (some (61, false)), .no, .no, [0, 1, 2, 3, 4, 5, 6, 7, 8, 9, 10, 11, 12, 13, 14, 15, 16, 17, 18, 19, 20, 21, 22, 23, 24, 25, 26, 27, 28, 29, 30, 31, 32, 33, 34, 35, 36, 37, 38, 39, 40, 41, 42, 43], [], .bin .neq (.t 65) (.t 70)⟩),
           (45, ⟨(some 72), none, .no, .no, [0, 1, 2, 3, 4, 5, 6, 7, 8, 9, 10, 11, 12, 13, 14, 15, 16, 17, 18, 19, 20, 21, 22, 23, 24, 25, 26, 27, 28, 29, 30, 31, 32, 33, 34, 35, 36, 37, 38, 39, 40, 41, 42, 43, 44], [], .pick (.t 61) (.k (.s (.c (.val (.bool true))))) (.t 71)⟩)] [0, 1, 5, 7, 11, 12, 72])
         (.cond (.t 72) (.ops [o 73 (.mv (.t 5)),
            o 74 (.mv (.t 7)),
            o 75 (.nchk (.t 74)),
            o 76 (.fa 0 (.t 75)),
            o 77 (.ld false 1 (.t 76)),
            o 78 (.bs (.fl 1) [(.t 77)]),
            o 79 (.app (.fl 1) 16 (.t 73) (.t 78)),
            o 5 (.mv (.t 79))] [0, 1, 5, 11, 12])
          (.skip)))))))
    (.ops [o 80 (.bin .add (.t 12) (.k (.s (.c (.val (.int .i64 1)))))),
      o 12 (.mv (.t 80))] [0, 1, 5, 11, 12])))
def b_impl_changedIn : PC :=
  .seq (.ops [o 4 (.mkn (.fl 1))] [0, 1])
  (.seq (.ops [o 5 (.mkn (.fl 1))] [0, 1, 5])
   (.seq (.seq (.ops [o 10 (.mv (.t 0)),
       o 11 (.len false (.t 10)),
       o 12 (.mv (.k (.s (.c (.val (.int .i64 0))))))] [0, 1, 5, 11, 12])
     (.block 0
      (.loop [0, 1, 5, 11, 12] l1_impl_changedIn)))
    (.seq (.ops [o 81 (.mv (.t 5)),
       o 4 (.mv (.t 81))] [4])
     (.ret))))
def c_impl_changedIn : PFunc := ⟨2, 82, b_impl_changedIn, [.t 4]⟩
def l1_laws_szTermSS : PC :=
  .seq (.seq (.ops [o 12 (.mv (.t 5)),
     o 13 (.mv (.t 0)),
     o 14 (.len false (.t 13)),
     o 15 (.bin .lss (.t 12) (.t 14))] [0, 1, 5, 15])
   (.cond (.t 15) (.skip)
    (.exit 0)))
  (.seq (.block 1
    (.seq (.ops [o 18 (.mv (.t 0)),
       o 19 (.mv (.t 5)),
       o 20 (.ia 1 (.t 18) (.t 19)),
       o 21 (.ld false 1 (.t 20)),
       o 22 (.mv (.t 1)),
       o 23 (.call 54 [(false, (.t 21)), (false, (.t 22))]),
       o 1 (.mv (.t 23))] [0, 1, 5])
     (.seq (.ops [o 24 (.mv (.t 1)),
        o 25 (.bin .lss (.t 24) (.k (.s (.c (.val (.int .i64 0))))))] [0, 1, 5, 25])
      (.cond (.t 25) (.seq (.ops [o 4 (.mv (.k (.s (.c (.val (.int .i64 (-1)))))))] [4])
        (.ret))
       (.skip)))))
   (.ops [o 16 (.mv (.t 5)),
     o 17 (.bin .add (.t 16) (.k (.s (.c (.val (.int .i64 1)))))),
     o 5 (.mv (.t 17))] [0, 1, 5]))
def b_laws_szTermSS : PC :=
  .seq (.ops [o 4 (.mv (.k (.s (.c (.val (.int .i64 0))))))] [0, 1])
  (.seq (.ops [o 6 (.mv (.t 1)),
     o 7 (.mv (.t 0)),
     o 8 (.len false (.t 7)),
     o 9 (.bin .sub (.t 6) (.t 8)),
     o 1 (.mv (.t 9))] [0, 1])
   (.seq (.seq (.ops [o 10 (.mv (.t 1)),
       o 11 (.bin .lss (.t 10) (.k (.s (.c (.val (.int .i64 0))))))] [0, 1, 11])
     (.cond (.t 11) (.seq (.ops [o 4 (.mv (.k (.s (.c (.val (.int .i64 (-1)))))))] [4])
       (.ret))
      (.skip)))
    (.seq (.seq (.ops [o 5 (.mv (.k (.s (.c (.val (.int .i64 0))))))] [0, 1, 5])
      (.block 0
       (.loop [0, 1, 5] l1_laws_szTermSS)))
     (.seq (.ops [o 26 (.mv (.t 1)),
        o 4 (.mv (.t 26))] [4])
      (.ret)))))
def c_laws_szTermSS : PFunc := ⟨2, 27, b_laws_szTermSS, [.t 4]⟩
def b_laws_szBox : PC :=
  .seq (.ops [o 2 (.box (.t 0)),
    o 4 (.mv (.k (.s (.c (.val (.int .i64 0))))))] [1, 2])
  (.seq (.ops [o 5 (.fa 1 (.t 2)),
     o 6 (.ld false 1 (.t 5)),
     o 7 (.mv (.t 1)),
     o 8 (.call 55 [(false, (.t 6)), (false, (.t 7))]),
     o 1 (.mv (.t 8))] [1, 2])
   (.seq (.seq (.ops [o 9 (.mv (.t 1)),
       o 10 (.bin .lss (.t 9) (.k (.s (.c (.val (.int .i64 0))))))] [1, 2, 10])
     (.cond (.t 10) (.seq (.ops [o 4 (.mv (.k (.s (.c (.val (.int .i64 (-1)))))))] [4])
       (.ret))
      (.skip)))
    (.seq (.ops [o 11 (.fa 2 (.t 2)),
       o 12 (.ld false 1 (.t 11)),
       o 13 (.mv (.t 1)),
       o 14 (.call 55 [(false, (.t 12)), (false, (.t 13))]),
       o 1 (.mv (.t 14))] [1])
     (.seq (.seq (.ops [o 15 (.mv (.t 1)),
         o 16 (.bin .lss (.t 15) (.k (.s (.c (.val (.int .i64 0))))))] [1, 16])
       (.cond (.t 16) (.seq (.ops [o 4 (.mv (.k (.s (.c (.val (.int .i64 (-1)))))))] [4])
         (.ret))
        (.skip)))
      (.seq (.ops [o 17 (.mv (.t 1)),
         o 4 (.mv (.t 17))] [4])
       (.ret))))))
def c_laws_szBox : PFunc := ⟨2, 18, b_laws_szBox, [.t 4]⟩
def l1_laws_toTermSS : PC :=
  .seq (.seq (.ops [o 21 (.mv (.t 6)),
     o 22 (.mv (.t 0)),
     o 23 (.len false (.t 22)),
     o 24 (.bin .lss (.t 21) (.t 23))] [0, 1, 5, 6, 24])
   (.cond (.t 24) (.skip)
    (.exit 0)))
  (.seq (.block 1
    (.ops [o 27 (.mv (.t 5)),
      o 28 (.mv (.t 6)),
      o 29 (.mv (.t 0)),
      o 30 (.mv (.t 6)),
      o 31 (.ia 1 (.t 29) (.t 30)),
      o 32 (.ld false 1 (.t 31)),
      o 33 (.mv (.t 1)),
      o 34 (.call 60 [(false, (.t 32)), (false, (.t 33))]),
      o 35 (.ia 1 (.t 27) (.t 28)),
      u (.st 1 (.t 35) (.t 34))] [0, 1, 5, 6]))
   (.ops [o 25 (.mv (.t 6)),
     o 26 (.bin .add (.t 25) (.k (.s (.c (.val (.int .i64 1)))))),
     o 6 (.mv (.t 26))] [0, 1, 5, 6]))
def l2_laws_toTermSS : PC :=
  .seq (.seq (.ops [o 38 (.mv (.t 7)),
     o 39 (.mv (.t 5)),
     o 40 (.len false (.t 39)),
     o 41 (.bin .lss (.t 38) (.t 40))] [0, 5, 7, 41])
   (.cond (.t 41) (.skip)
    (.exit 2)))
  (.seq (.block 3
    (.ops [o 44 (.mv (.t 5)),
      o 45 (.mv (.t 7)),
      o 46 (.call 42 []),
      o 47 (.bs (.fl 4) [(.t 46)]),
      o 48 (.ia 1 (.t 44) (.t 45)),
      u (.st 1 (.t 48) (.t 47))] [0, 5, 7]))
   (.ops [o 42 (.mv (.t 7)),
     o 43 (.bin .add (.t 42) (.k (.s (.c (.val (.int .i64 1)))))),
     o 7 (.mv (.t 43))] [0, 5, 7]))
def b_laws_toTermSS : PC :=
  .seq (.ops [o 4 (.mkn (.sl 1))] [0, 1])
  (.seq (.seq (.ops [o 8 (.mv (.t 1)),
      o 9 (.mv (.t 8)),
      ⟨(some 10), (some (9, true)), .no, .no, [], [], .mv (.t 0)⟩,
      ⟨(some 11), (some (9, true)), .no, .no, [], [], .len false (.t 10)⟩,
      ⟨(some 12), (some (9, true)), .no, .no, [], [], .bin .eql (.t 11) (.k (.s (.c (.val (.int .i64 0)))))⟩,
      o 13 (.pick (.t 9) (.t 12) (.k (.s (.c (.val (.bool false))))))] [0, 1, 13])
    (.cond (.t 13) (.seq (.ops [o 4 (.mkn (.sl 1))] [4])
      (.ret))
     (.skip)))
   (.seq (.ops [o 14 (.mv (.t 0)),
      o 15 (.len false (.t 14)),
      o 16 (.mv (.t 0)),
      o 17 (.len false (.t 16)),
      o 18 (.call 19 [(false, (.t 17))]),
      o 19 (.bin .add (.t 15) (.t 18)),
      o 20 (.mks (.sl 1) 24 [.fl 4 [] []] (.t 19) (.t 19)),
      o 5 (.mv (.t 20))] [0, 1, 5])
    (.seq (.seq (.ops [o 6 (.mv (.k (.s (.c (.val (.int .i64 0))))))] [0, 1, 5, 6])
      (.block 0
       (.loop [0, 1, 5, 6] l1_laws_toTermSS)))
     (.seq (.seq (.ops [o 36 (.mv (.t 0)),
         o 37 (.len false (.t 36)),
         o 7 (.mv (.t 37))] [0, 5, 7])
       (.block 2
        (.loop [0, 5, 7] l2_laws_toTermSS)))
      (.seq (.ops [o 49 (.mv (.t 5)),
         o 50 (.mv (.t 0)),
         o 51 (.len false (.t 50)),
         o 52 (.slc 1 (.t 49) none (some (.t 51))),
         o 4 (.mv (.t 52))] [4])
       (.ret))))))
def c_laws_toTermSS : PFunc := ⟨2, 53, b_laws_toTermSS, [.t 4]⟩
def b_laws_toBox : PC :=
  .seq (.ops [o 2 (.box (.t 0)),
    o 4 (.alloc [.c (.val (.int .i64 0)), .nil (.fl 1), .nil (.fl 1)])] [1, 2, 4])
  (.seq (.ops [o 5 (.alloc [.c (.val (.int .i64 0)), .nil (.fl 1), .nil (.fl 1)])] [1, 2, 4, 5])
   (.seq (.ops [o 6 (.fa 0 (.t 2)),
      o 7 (.ld false 1 (.t 6)),
      o 8 (.fa 0 (.t 5)),
      u (.st 1 (.t 8) (.t 7))] [1, 2, 4, 5])
    (.seq (.ops [o 9 (.fa 1 (.t 2)),
       o 10 (.ld false 1 (.t 9)),
       o 11 (.mv (.t 1)),
       o 12 (.call 61 [(false, (.t 10)), (false, (.t 11))]),
       o 13 (.fa 1 (.t 5)),
       u (.st 1 (.t 13) (.t 12))] [1, 2, 4, 5])
     (.seq (.ops [o 14 (.fa 2 (.t 2)),
        o 15 (.ld false 1 (.t 14)),
        o 16 (.mv (.t 1)),
        o 17 (.call 61 [(false, (.t 15)), (false, (.t 16))]),
        o 18 (.fa 2 (.t 5)),
        u (.st 1 (.t 18) (.t 17))] [4, 5])
      (.seq (.ops [o 19 (.ld true 3 (.t 5)),
         u (.st 3 (.t 4) (.t 19))] [4])
       (.ret))))))
def c_laws_toBox : PFunc := ⟨2, 20, b_laws_toBox, [.cell 4 true 3]⟩
def b_laws_fillerTerm : PC :=
  .seq (.ops [o 0 (.alloc [.c (.val (.int .i64 0)), .c (.val (.int .i64 0)), .c (.val (.int .i64 0)), .c (.val (.int .i64 0))])] [0])
  (.seq (.ops [o 1 (.build [.c (.val (.int .i64 0)), .c (.val (.int .i64 0)), .c (.val (.int .i64 0)), .c (.val (.int .i64 0))] [(0, 1, (.k (.s (.c (.val (.int .i64 (-7000000000000000101))))))), (1, 1, (.k (.s (.c (.val (.int .i64 (-7000000000000000101))))))), (2, 1, (.k (.s (.c (.val (.int .i64 (-7000000000000000101))))))), (3, 1, (.k (.s (.c (.val (.int .i64 (-7000000000000000101)))))))]),
     u (.st 4 (.t 0) (.t 1))] [0])
   (.ret))
def c_laws_fillerTerm : PFunc := ⟨0, 2, b_laws_fillerTerm, [.cell 0 true 4]⟩
def b_laws_fillerBox : PC :=
  .seq (.ops [o 0 (.alloc [.c (.val (.int .i64 0)), .nil (.fl 1), .nil (.fl 1)])] [0])
  (.seq (.ops [o 1 (.bs (.fl 1) [(.k (.s (.c (.val (.int .i64 (-7000000000000000101))))))]),
     o 2 (.bs (.fl 1) [(.k (.s (.c (.val (.int .i64 (-7000000000000000101))))))]),
     o 3 (.build [.c (.val (.int .i64 0)), .nil (.fl 1), .nil (.fl 1)] [(0, 1, (.k (.s (.c (.val (.int .i64 (-7000000000000000101))))))), (1, 1, (.t 1)), (2, 1, (.t 2))]),
     u (.st 3 (.t 0) (.t 3))] [0])
   (.ret))
def c_laws_fillerBox : PFunc := ⟨0, 4, b_laws_fillerBox, [.cell 0 true 3]⟩
def l1_laws_eqTermSS : PC :=
  .seq (.seq (.ops [o 11 (.mv (.t 5)),
     o 12 (.mv (.t 0)),
     o 13 (.len false (.t 12)),
     o 14 (.bin .lss (.t 11) (.t 13))] [0, 1, 5, 14])
   (.cond (.t 14) (.skip)
    (.exit 0)))
  (.seq (.block 1
    (.seq (.dops [(0, ⟨(some 17), none, .no, .no, [], [18, 21, 22, 23, 24], .mv (.t 0)⟩),
       (1, ⟨(some 18), none, .no, .no, [], [17, 21, 22, 23, 24], .mv (.t 5)⟩),
       (2, ⟨(some 19), none, .no, .no, [0, 1], [21, 22, 23, 24], .ia 1 (.t 17) (.t 18)⟩),
       (3, ⟨(some 20), none, .no, .no, [0, 1, 2], [21, 22, 23, 24], .ld false 1 (.t 19)⟩),
       (4, ⟨(some 21), none, .no, .no, [], [17, 18, 19, 20, 22], .mv (.t 1)⟩),
       (5, ⟨(some 22), none, .no, .no, [], [17, 18, 19, 20, 21], .mv (.t 5)⟩),
       (6, ⟨(some 23), none, .no, .no, [4, 5], [17, 18, 19, 20], .ia 1 (.t 21) (.t 22)⟩),
       (7, ⟨(some 24), none, .no, .no, [4, 5, 6], [17, 18, 19, 20], .ld false 1 (.t 23)⟩),
       (8, ⟨(some 25), none, .no, .all, [0, 1, 2, 3, 4, 5, 6, 7], [], .call 66 [(false, (.t 20)), (false, (.t 24))]⟩),
       (9, ⟨(some 26), none, .no, .no, [0, 1, 2, 3, 4, 5, 6, 7, 8], [], .un .not (.t 25)⟩)] [0, 1, 5, 26])
     (.cond (.t 26) (.seq (.ops [o 4 (.mv (.k (.s (.c (.val (.bool false))))))] [4])
       (.ret))
      (.skip))))
   (.ops [o 15 (.mv (.t 5)),
     o 16 (.bin .add (.t 15) (.k (.s (.c (.val (.int .i64 1)))))),
     o 5 (.mv (.t 16))] [0, 1, 5]))
def b_laws_eqTermSS : PC :=
  .seq (.ops [o 4 (.mv (.k (.s (.c (.val (.bool false))))))] [0, 1])
  (.seq (.seq (.ops [o 6 (.mv (.t 0)),
      o 7 (.len false (.t 6)),
      o 8 (.mv (.t 1)),
      o 9 (.len false (.t 8)),
      o 10 (.bin .neq (.t 7) (.t 9))] [0, 1, 10])
    (.cond (.t 10) (.seq (.ops [o 4 (.mv (.k (.s (.c (.val (.bool false))))))] [4])
      (.ret))
     (.skip)))
   (.seq (.seq (.ops [o 5 (.mv (.k (.s (.c (.val (.int .i64 0))))))] [0, 1, 5])
     (.block 0
      (.loop [0, 1, 5] l1_laws_eqTermSS)))
    (.seq (.ops [o 4 (.mv (.k (.s (.c (.val (.bool true))))))] [4])
     (.ret))))
def c_laws_eqTermSS : PFunc := ⟨2, 27, b_laws_eqTermSS, [.t 4]⟩
def b_laws_eqBox : PC :=
  .seq (.ops [o 2 (.box (.t 0)),
    o 3 (.box (.t 1)),
    o 4 (.mv (.k (.s (.c (.val (.bool false))))))] [2, 3])
  (.seq (.seq (.ops [o 5 (.fa 0 (.t 2)),
      o 6 (.ld false 1 (.t 5)),
      o 7 (.fa 0 (.t 3)),
      o 8 (.ld false 1 (.t 7)),
      o 9 (.bin .neq (.t 6) (.t 8))] [2, 3, 9])
    (.cond (.t 9) (.seq (.ops [o 4 (.mv (.k (.s (.c (.val (.bool false))))))] [4])
      (.ret))
     (.skip)))
   (.seq (.seq (.ops [o 10 (.fa 1 (.t 2)),
       o 11 (.ld false 1 (.t 10)),
       o 12 (.fa 1 (.t 3)),
       o 13 (.ld false 1 (.t 12)),
       o 14 (.call 67 [(false, (.t 11)), (false, (.t 13))]),
       o 15 (.un .not (.t 14))] [2, 3, 15])
     (.cond (.t 15) (.seq (.ops [o 4 (.mv (.k (.s (.c (.val (.bool false))))))] [4])
       (.ret))
      (.skip)))
    (.seq (.seq (.ops [o 16 (.fa 2 (.t 2)),
        o 17 (.ld false 1 (.t 16)),
        o 18 (.fa 2 (.t 3)),
        o 19 (.ld false 1 (.t 18)),
        o 20 (.call 67 [(false, (.t 17)), (false, (.t 19))]),
        o 21 (.un .not (.t 20))] [21])
      (.cond (.t 21) (.seq (.ops [o 4 (.mv (.k (.s (.c (.val (.bool false))))))] [4])
        (.ret))
       (.skip)))
     (.seq (.ops [o 4 (.mv (.k (.s (.c (.val (.bool true))))))] [4])
      (.ret)))))
def c_laws_eqBox : PFunc := ⟨2, 22, b_laws_eqBox, [.t 4]⟩
def l1_laws_intactTermSS : PC :=
  .seq (.seq (.ops [o 18 (.mv (.t 6)),
     o 19 (.mv (.t 1)),
     o 20 (.len false (.t 19)),
     o 21 (.bin .lss (.t 18) (.t 20))] [0, 1, 5, 6, 21])
   (.cond (.t 21) (.skip)
    (.exit 0)))
  (.seq (.block 1
    (.seq (.dops [(0, ⟨(some 24), none, .no, .no, [], [25, 28, 29, 30, 31], .mv (.t 0)⟩),
       (1, ⟨(some 25), none, .no, .no, [], [24, 28, 29, 30, 31], .mv (.t 6)⟩),
       (2, ⟨(some 26), none, .no, .no, [0, 1], [28, 29, 30, 31], .ia 1 (.t 24) (.t 25)⟩),
       (3, ⟨(some 27), none, .no, .no, [0, 1, 2], [28, 29, 30, 31], .ld false 1 (.t 26)⟩),
       (4, ⟨(some 28), none, .no, .no, [], [24, 25, 26, 27, 29], .mv (.t 1)⟩),
       (5, ⟨(some 29), none, .no, .no, [], [24, 25, 26, 27, 28], .mv (.t 6)⟩),
       (6, ⟨(some 30), none, .no, .no, [4, 5], [24, 25, 26, 27], .ia 1 (.t 28) (.t 29)⟩),
       (7, ⟨(some 31), none, .no, .no, [4, 5, 6], [24, 25, 26, 27], .ld false 1 (.t 30)⟩),
       (8, ⟨(some 32), none, .no, .all, [0, 1, 2, 3, 4, 5, 6, 7], [], .call 68 [(false, (.t 27)), (false, (.t 31))]⟩),
       (9, ⟨(some 33), none, .no, .no, [0, 1, 2, 3, 4, 5, 6, 7, 8], [], .un .not (.t 32)⟩)] [0, 1, 5, 6, 33])
     (.cond (.t 33) (.seq (.ops [o 4 (.mv (.k (.s (.c (.val (.bool false))))))] [4])
       (.ret))
      (.skip))))
   (.ops [o 22 (.mv (.t 6)),
     o 23 (.bin .add (.t 22) (.k (.s (.c (.val (.int .i64 1)))))),
     o 6 (.mv (.t 23))] [0, 1, 5, 6]))
def b_laws_intactTermSS : PC :=
  .seq (.ops [o 4 (.mv (.k (.s (.c (.val (.bool false))))))] [0, 1])
  (.seq (.ops [o 7 (.mv (.t 1)),
     o 8 (.len false (.t 7)),
     o 9 (.mv (.t 1)),
     o 10 (.len false (.t 9)),
     o 11 (.call 19 [(false, (.t 10))]),
     o 12 (.bin .add (.t 8) (.t 11)),
     o 5 (.mv (.t 12))] [0, 1, 5])
   (.seq (.seq (.ops [o 13 (.mv (.t 0)),
       o 14 (.len false (.t 13)),
       o 15 (.mv (.t 1)),
       o 16 (.len false (.t 15)),
       o 17 (.bin .neq (.t 14) (.t 16))] [0, 1, 5, 17])
     (.cond (.t 17) (.seq (.ops [o 4 (.mv (.k (.s (.c (.val (.bool false))))))] [4])
       (.ret))
      (.skip)))
    (.seq (.seq (.ops [o 6 (.mv (.k (.s (.c (.val (.int .i64 0))))))] [0, 1, 5, 6])
      (.block 0
       (.loop [0, 1, 5, 6] l1_laws_intactTermSS)))
     (.seq (.dops [(0, ⟨(some 34), none, .no, .no, [], [35, 36, 37, 39, 40, 41, 42, 43], .mv (.t 0)⟩),
        (1, ⟨(some 35), none, .no, .no, [], [34, 37, 39, 40, 41, 42, 43], .mv (.t 1)⟩),
        (2, ⟨(some 36), none, .no, .no, [1], [34, 37, 39, 40, 41, 42, 43], .len false (.t 35)⟩),
        (3, ⟨(some 37), none, .no, .no, [], [34, 35, 36, 39, 40, 41, 42, 43], .mv (.t 5)⟩),
        (4, ⟨(some 38), none, .no, .no, [0, 1, 2, 3], [39, 40, 41, 42, 43], .slc 1 (.t 34) (some (.t 36)) (some (.t 37))⟩),
        (5, ⟨(some 39), none, .no, .no, [], [34, 35, 36, 37, 38, 40, 41, 42], .mv (.t 1)⟩),
        (6, ⟨(some 40), none, .no, .no, [], [34, 35, 36, 37, 38, 39, 42], .mv (.t 1)⟩),
        (7, ⟨(some 41), none, .no, .no, [6], [34, 35, 36, 37, 38, 39, 42], .len false (.t 40)⟩),
        (8, ⟨(some 42), none, .no, .no, [], [34, 35, 36, 37, 38, 39, 40, 41], .mv (.t 5)⟩),
        (9, ⟨(some 43), none, .no, .no, [5, 6, 7, 8], [34, 35, 36, 37, 38], .slc 1 (.t 39) (some (.t 41)) (some (.t 42))⟩),
        (10, ⟨(some 44), none, .no, .all, [0, 1, 2, 3, 4, 5, 6, 7, 8, 9], [], .call 48 [(false, (.t 38)), (false, (.t 43))]⟩),
        (11, ⟨(some 4), none, .no, .no, [0, 1, 2, 3, 4, 5, 6, 7, 8, 9, 10], [], .mv (.t 44)⟩)] [4])
      (.ret)))))
def c_laws_intactTermSS : PFunc := ⟨2, 45, b_laws_intactTermSS, [.t 4]⟩
def b_laws_intactBox : PC :=
  .seq (.ops [o 2 (.box (.t 0)),
    o 3 (.box (.t 1)),
    o 4 (.mv (.k (.s (.c (.val (.bool false))))))] [2, 3])
  (.seq (.seq (.ops [o 5 (.fa 0 (.t 2)),
      o 6 (.ld false 1 (.t 5)),
      o 7 (.fa 0 (.t 3)),
      o 8 (.ld false 1 (.t 7)),
      o 9 (.bin .neq (.t 6) (.t 8))] [2, 3, 9])
    (.cond (.t 9) (.seq (.ops [o 4 (.mv (.k (.s (.c (.val (.bool false))))))] [4])
      (.ret))
     (.skip)))
   (.seq (.seq (.ops [o 10 (.fa 1 (.t 2)),
       o 11 (.ld false 1 (.t 10)),
       o 12 (.fa 1 (.t 3)),
       o 13 (.ld false 1 (.t 12)),
       o 14 (.call 69 [(false, (.t 11)), (false, (.t 13))]),
       o 15 (.un .not (.t 14))] [2, 3, 15])
     (.cond (.t 15) (.seq (.ops [o 4 (.mv (.k (.s (.c (.val (.bool false))))))] [4])
       (.ret))
      (.skip)))
    (.seq (.seq (.ops [o 16 (.fa 2 (.t 2)),
        o 17 (.ld false 1 (.t 16)),
        o 18 (.fa 2 (.t 3)),
        o 19 (.ld false 1 (.t 18)),
        o 20 (.call 69 [(false, (.t 17)), (false, (.t 19))]),
        o 21 (.un .not (.t 20))] [21])
      (.cond (.t 21) (.seq (.ops [o 4 (.mv (.k (.s (.c (.val (.bool false))))))] [4])
        (.ret))
       (.skip)))
     (.seq (.ops [o 4 (.mv (.k (.s (.c (.val (.bool true))))))] [4])
      (.ret)))))
def c_laws_intactBox : PFunc := ⟨2, 22, b_laws_intactBox, [.t 4]⟩
def l1_laws_markTermS : PC :=
  .seq (.seq (.ops [o 6 (.mv (.t 5)),
     o 7 (.mv (.t 0)),
     o 8 (.len false (.t 7)),
     o 9 (.bin .lss (.t 6) (.t 8))] [0, 1, 5, 9])
   (.cond (.t 9) (.skip)
    (.exit 0)))
  (.seq (.block 1
    (.seq (.ops [o 12 (.mv (.t 0)),
       o 13 (.mv (.t 5)),
       o 14 (.mv (.t 1)),
       o 15 (.ia 4 (.t 12) (.t 13)),
       o 16 (.fa 0 (.t 15)),
       u (.st 1 (.t 16) (.t 14))] [0, 1, 5])
     (.seq (.ops [o 17 (.mv (.t 1)),
        o 18 (.bin .add (.t 17) (.k (.s (.c (.val (.int .i64 1)))))),
        o 1 (.mv (.t 18))] [0, 1, 5])
      (.seq (.ops [o 19 (.mv (.t 0)),
         o 20 (.mv (.t 5)),
         o 21 (.mv (.t 1)),
         o 22 (.ia 4 (.t 19) (.t 20)),
         o 23 (.fa 1 (.t 22)),
         u (.st 1 (.t 23) (.t 21))] [0, 1, 5])
       (.seq (.ops [o 24 (.mv (.t 1)),
          o 25 (.bin .add (.t 24) (.k (.s (.c (.val (.int .i64 1)))))),
          o 1 (.mv (.t 25))] [0, 1, 5])
        (.seq (.ops [o 26 (.mv (.t 0)),
           o 27 (.mv (.t 5)),
           o 28 (.mv (.t 1)),
           o 29 (.ia 4 (.t 26) (.t 27)),
           o 30 (.fa 2 (.t 29)),
           u (.st 1 (.t 30) (.t 28))] [0, 1, 5])
         (.seq (.ops [o 31 (.mv (.t 1)),
            o 32 (.bin .add (.t 31) (.k (.s (.c (.val (.int .i64 1)))))),
            o 1 (.mv (.t 32))] [0, 1, 5])
          (.seq (.ops [o 33 (.mv (.t 0)),
             o 34 (.mv (.t 5)),
             o 35 (.mv (.t 1)),
             o 36 (.ia 4 (.t 33) (.t 34)),
             o 37 (.fa 3 (.t 36)),
             u (.st 1 (.t 37) (.t 35))] [0, 1, 5])
           (.ops [o 38 (.mv (.t 1)),
             o 39 (.bin .add (.t 38) (.k (.s (.c (.val (.int .i64 1)))))),
             o 1 (.mv (.t 39))] [0, 1, 5])))))))))
   (.ops [o 10 (.mv (.t 5)),
     o 11 (.bin .add (.t 10) (.k (.s (.c (.val (.int .i64 1)))))),
     o 5 (.mv (.t 11))] [0, 1, 5]))
def b_laws_markTermS : PC :=
  .seq (.ops [o 4 (.mv (.k (.s (.c (.val (.int .i64 0))))))] [0, 1])
  (.seq (.seq (.ops [o 5 (.mv (.k (.s (.c (.val (.int .i64 0))))))] [0, 1, 5])
    (.block 0
     (.loop [0, 1, 5] l1_laws_markTermS)))
   (.seq (.ops [o 40 (.mv (.t 1)),
      o 4 (.mv (.t 40))] [4])
    (.ret)))
def c_laws_markTermS : PFunc := ⟨2, 41, b_laws_markTermS, [.t 4]⟩
def l1_laws_heldTermS : PC :=
  .seq (.seq (.ops [o 6 (.mv (.t 5)),
     o 7 (.mv (.t 0)),
     o 8 (.len false (.t 7)),
     o 9 (.bin .lss (.t 6) (.t 8))] [0, 1, 5, 9])
   (.cond (.t 9) (.skip)
    (.exit 0)))
  (.seq (.block 1
    (.seq (.seq (.ops [o 12 (.mv (.t 0)),
        o 13 (.mv (.t 5)),
        o 14 (.ia 4 (.t 12) (.t 13)),
        o 15 (.fa 0 (.t 14)),
        o 16 (.ld false 1 (.t 15)),
        o 17 (.mv (.t 1)),
        o 18 (.bin .neq (.t 16) (.t 17))] [0, 1, 5, 18])
      (.cond (.t 18) (.seq (.ops [o 4 (.mv (.k (.s (.c (.val (.int .i64 (-1)))))))] [4])
        (.ret))
       (.skip)))
     (.seq (.ops [o 19 (.mv (.t 1)),
        o 20 (.bin .add (.t 19) (.k (.s (.c (.val (.int .i64 1)))))),
        o 1 (.mv (.t 20))] [0, 1, 5])
      (.seq (.seq (.ops [o 21 (.mv (.t 0)),
          o 22 (.mv (.t 5)),
          o 23 (.ia 4 (.t 21) (.t 22)),
          o 24 (.fa 1 (.t 23)),
          o 25 (.ld false 1 (.t 24)),
          o 26 (.mv (.t 1)),
          o 27 (.bin .neq (.t 25) (.t 26))] [0, 1, 5, 27])
        (.cond (.t 27) (.seq (.ops [o 4 (.mv (.k (.s (.c (.val (.int .i64 (-1)))))))] [4])
          (.ret))
         (.skip)))
       (.seq (.ops [o 28 (.mv (.t 1)),
          o 29 (.bin .add (.t 28) (.k (.s (.c (.val (.int .i64 1)))))),
          o 1 (.mv (.t 29))] [0, 1, 5])
        (.seq (.seq (.ops [o 30 (.mv (.t 0)),
            o 31 (.mv (.t 5)),
            o 32 (.ia 4 (.t 30) (.t 31)),
            o 33 (.fa 2 (.t 32)),
            o 34 (.ld false 1 (.t 33)),
            o 35 (.mv (.t 1)),
            o 36 (.bin .neq (.t 34) (.t 35))] [0, 1, 5, 36])
          (.cond (.t 36) (.seq (.ops [o 4 (.mv (.k (.s (.c (.val (.int .i64 (-1)))))))] [4])
            (.ret))
           (.skip)))
         (.seq (.ops [o 37 (.mv (.t 1)),
            o 38 (.bin .add (.t 37) (.k (.s (.c (.val (.int .i64 1)))))),
            o 1 (.mv (.t 38))] [0, 1, 5])
          (.seq (.seq (.ops [o 39 (.mv (.t 0)),
              o 40 (.mv (.t 5)),
              o 41 (.ia 4 (.t 39) (.t 40)),
              o 42 (.fa 3 (.t 41)),
              o 43 (.ld false 1 (.t 42)),
              o 44 (.mv (.t 1)),
              o 45 (.bin .neq (.t 43) (.t 44))] [0, 1, 5, 45])
            (.cond (.t 45) (.seq (.ops [o 4 (.mv (.k (.s (.c (.val (.int .i64 (-1)))))))] [4])
              (.ret))
             (.skip)))
           (.ops [o 46 (.mv (.t 1)),
             o 47 (.bin .add (.t 46) (.k (.s (.c (.val (.int .i64 1)))))),
             o 1 (.mv (.t 47))] [0, 1, 5])))))))))
   (.ops [o 10 (.mv (.t 5)),
     o 11 (.bin .add (.t 10) (.k (.s (.c (.val (.int .i64 1)))))),
     o 5 (.mv (.t 11))] [0, 1, 5]))
def b_laws_heldTermS : PC :=
  .seq (.ops [o 4 (.mv (.k (.s (.c (.val (.int .i64 0))))))] [0, 1])
  (.seq (.seq (.ops [o 5 (.mv (.k (.s (.c (.val (.int .i64 0))))))] [0, 1, 5])
    (.block 0
     (.loop [0, 1, 5] l1_laws_heldTermS)))
   (.seq (.ops [o 48 (.mv (.t 1)),
      o 4 (.mv (.t 48))] [4])
    (.ret)))
def c_laws_heldTermS : PFunc := ⟨2, 49, b_laws_heldTermS, [.t 4]⟩
def b_spec_caEntry : PC :=
  .seq (.ops [o 1 (.box (.t 0)),
    o 2 (.mv (.k (.s (.c (.val (.bool false))))))] [1])
  (.seq (.ops [o 3 (.fa 0 (.t 1)),
     o 4 (.ld false 1 (.t 3)),
     o 5 (.call 36 [(false, (.t 4))]),
     o 6 (.mv (.t 5)),
     ⟨(some 7), (some (6, true)), .no, .no, [], [], .fa 1 (.t 1)⟩,
     ⟨(some 8), (some (6, true)), .no, .no, [], [], .ld false 1 (.t 7)⟩,
     ⟨(some 9), (some (6, true)), .no, .no, [], [], .fa 2 (.t 1)⟩,
     ⟨(some 10), (some (6, true)), .no, .no, [], [], .ld true 3 (.t 9)⟩,
     ⟨(some 11), (some (6, true)), .no, .no, [], [], .call 37 [(false, (.t 8)), (false, (.t 10))]⟩,
     o 12 (.pick (.t 6) (.t 11) (.k (.s (.c (.val (.bool false)))))),
     o 13 (.mv (.t 12)),
     ⟨(some 14), (some (13, true)), .no, .no, [], [], .fa 6 (.t 1)⟩,
     ⟨(some 15), (some (13, true)), .no, .no, [], [], .ld false 1 (.t 14)⟩,
     ⟨(some 16), (some (13, true)), .no, .no, [], [], .call 14 [(false, (.t 15)), (false, (.k (.s (.c (.val (.int .i64 0)))))), (false, (.k (.s (.c (.val (.int .i64 64))))))]⟩,
     o 17 (.pick (.t 13) (.t 16) (.k (.s (.c (.val (.bool false)))))),
     o 18 (.mv (.t 17)),
     ⟨(some 19), (some (18, true)), .no, .no, [], [], .fa 5 (.t 1)⟩,
     ⟨(some 20), (some (18, true)), .no, .no, [], [], .ld false 1 (.t 19)⟩,
     ⟨(some 21), (some (18, true)), .no, .no, [], [], .fa 6 (.t 1)⟩,
     ⟨(some 22), (some (18, true)), .no, .no, [], [], .ld false 1 (.t 21)⟩,
     ⟨(some 23), (some (18, true)), .no, .no, [], [], .call 14 [(false, (.t 20)), (false, (.k (.s (.c (.val (.int .i64 0)))))), (false, (.t 22))]⟩,
     o 24 (.pick (.t 18) (.t 23) (.k (.s (.c (.val (.bool false)))))),
     o 25 (.mv (.t 24)),
     ⟨(some 26), (some (25, true)), .no, .no, [], [], .fa 7 (.t 1)⟩,
     ⟨(some 27), (some (25, true)), .no, .no, [], [], .ld false 1 (.t 26)⟩,
     ⟨(some 28), (some (25, true)), .no, .no, [], [], .call 14 [(false, (.t 27)), (false, (.k (.s (.c (.val (.int .i64 1)))))), (false, (.k (.s (.c (.val (.int .i64 999))))))]⟩,
     o 29 (.pick (.t 25) (.t 28) (.k (.s (.c (.val (.bool false)))))),
     o 2 (.mv (.t 29))] [2])
   (.ret))
def c_spec_caEntry : PFunc := ⟨1, 30, b_spec_caEntry, [.t 2]⟩
def b_spec_caOwn : PC :=
  .seq (.ops [o 1 (.box (.t 0)),
    o 2 (.alloc [.c (.val (.string ⟨#[]⟩)), .nil (.sl 1), .c (.val (.int .i64 0)), .nil (.fl 1), .nil (.fl 1), .c (.val (.int .i64 0)), .c (.val (.int .i64 0)), .c (.val (.int .i64 0))])] [1, 2])
  (.seq (.ops [o 3 (.fa 1 (.t 1)),
     o 4 (.ld false 1 (.t 3)),
     o 5 (.call 58 [(false, (.t 4))]),
     o 6 (.fa 1 (.t 1)),
     u (.st 1 (.t 6) (.t 5))] [1, 2])
   (.seq (.dops [(0, ⟨(some 7), none, .no, .no, [], [10, 11, 12, 13, 14, 15, 16, 17], .fa 2 (.t 1)⟩),
      (1, ⟨(some 8), none, .no, .no, [0], [10, 11, 12, 13, 14, 15, 16, 17], .fa 0 (.t 7)⟩),
      (2, ⟨(some 9), none, .no, .no, [0, 1], [10, 11, 12, 13, 14, 15, 16, 17], .ld false 1 (.t 8)⟩),
      (3, ⟨(some 10), none, .no, .no, [], [7, 8, 9, 14, 15, 16], .fa 2 (.t 1)⟩),
      (4, ⟨(some 11), none, .no, .no, [3], [7, 8, 9, 14, 15, 16], .fa 1 (.t 10)⟩),
      (5, ⟨(some 12), none, .no, .no, [3, 4], [7, 8, 9, 14, 15, 16], .ld false 1 (.t 11)⟩),
      (7, ⟨(some 14), none, .no, .no, [], [7, 8, 9, 10, 11, 12, 13], .fa 2 (.t 1)⟩),
      (8, ⟨(some 15), none, .no, .no, [6], [7, 8, 9, 10, 11, 12, 13], .fa 2 (.t 14)⟩),
      (9, ⟨(some 16), none, .no, .no, [6, 7], [7, 8, 9, 10, 11, 12, 13], .ld false 1 (.t 15)⟩),
      (6, ⟨(some 13), none, .no, .no, [3, 4, 5], [7, 8, 9, 14, 15, 16], .call 59 [(false, (.t 12))]⟩),
      (10, ⟨(some 17), none, .no, .no, [3, 4, 5, 6, 7, 8, 9], [7, 8, 9], .call 59 [(false, (.t 16))]⟩),
      (11, ⟨(some 18), none, .no, .no, [0, 1, 2, 3, 4, 5, 6, 7, 8, 9, 10], [], .build [.c (.val (.int .i64 0)), .nil (.fl 1), .nil (.fl 1)] [(0, 1, (.t 9)), (1, 1, (.t 13)), (2, 1, (.t 17))]⟩),
      (12, ⟨(some 19), none, .no, .no, [0, 1, 2, 3, 4, 5, 6, 7, 8, 9, 10, 11], [], .fa 2 (.t 1)⟩),
      (13, ⟨none, none, .no, .all, [0, 1, 2, 3, 4, 5, 6, 7, 8, 9, 10, 11, 12], [], .st 3 (.t 19) (.t 18)⟩)] [1, 2])
    (.seq (.ops [o 20 (.ld true 8 (.t 1)),
       u (.st 8 (.t 2) (.t 20))] [2])
     (.ret))))
def c_spec_caOwn : PFunc := ⟨1, 21, b_spec_caOwn, [.cell 2 true 8]⟩
def l1_spec_caSame : PC :=
  .seq (.ops [o 47 (.bin .lss (.t 46) (.t 45))] [3, 44, 45, 46, 47])
  (.seq (.cond (.t 47) (.skip)
    (.exit 0))
   (.seq (.block 1
     (.seq (.ops [o 48 (.mv (.t 46)),
        o 49 (.ia 1 (.t 44) (.t 46)),
        o 50 (.ld false 1 (.t 49)),
        o 5 (.mv (.t 48)),
        o 6 (.mv (.t 50))] [3, 5, 6, 44, 45, 46])
      (.seq (.ops [o 51 (.mv (.t 6)),
         o 52 (.fa 1 (.t 3)),
         o 53 (.ld false 1 (.t 52)),
         o 54 (.mv (.t 5)),
         o 55 (.ia 1 (.t 53) (.t 54)),
         o 56 (.ld false 1 (.t 55)),
         o 57 (.call 144 [(false, (.t 51)), (false, (.t 56))]),
         o 58 (.un .not (.t 57))] [3, 44, 45, 46, 58])
       (.cond (.t 58) (.seq (.ops [o 4 (.mv (.k (.s (.c (.val (.bool false))))))] [4])
         (.ret))
        (.skip)))))
    (.ops [o 59 (.bin .add (.t 46) (.k (.s (.c (.val (.int .i64 1)))))),
      o 46 (.mv (.t 59))] [3, 44, 45, 46])))
def b_spec_caSame : PC :=
  .seq (.ops [o 2 (.box (.t 0)),
    o 3 (.box (.t 1)),
    o 4 (.mv (.k (.s (.c (.val (.bool false))))))] [2, 3])
  (.seq (.seq (.ops [o 7 (.fa 1 (.t 2)),
      o 8 (.ld false 1 (.t 7)),
      o 9 (.len false (.t 8)),
      o 10 (.fa 1 (.t 3)),
      o 11 (.ld false 1 (.t 10)),
      o 12 (.len false (.t 11)),
      o 13 (.bin .neq (.t 9) (.t 12)),
      o 14 (.mv (.t 13)),
      ⟨(some 15), (some (14, false)), .no, .no, [], [], .fa 2 (.t 2)⟩,
      ⟨(some 16), (some (14, false)), .no, .no, [], [], .fa 0 (.t 15)⟩,
      ⟨(some 17), (some (14, false)), .no, .no, [], [], .ld false 1 (.t 16)⟩,
      ⟨(some 18), (some (14, false)), .no, .no, [], [], .fa 2 (.t 3)⟩,
      ⟨(some 19), (some (14, false)), .no, .no, [], [], .fa 0 (.t 18)⟩,
      ⟨(some 20), (some (14, false)), .no, .no, [], [], .ld false 1 (.t 19)⟩,
      ⟨(some 21), (some (14, false)), .no, .no, [], [], .bin .neq (.t 17) (.t 20)⟩,
      o 22 (.pick (.t 14) (.k (.s (.c (.val (.bool true))))) (.t 21)),
      o 23 (.mv (.t 22)),
      ⟨(some 24), (some (23, false)), .no, .no, [], [], .fa 2 (.t 2)⟩,
      ⟨(some 25), (some (23, false)), .no, .no, [], [], .fa 1 (.t 24)⟩,
      ⟨(some 26), (some (23, false)), .no, .no, [], [], .ld false 1 (.t 25)⟩,
      ⟨(some 27), (some (23, false)), .no, .no, [], [], .fa 2 (.t 3)⟩,
      ⟨(some 28), (some (23, false)), .no, .no, [], [], .fa 1 (.t 27)⟩,
      ⟨(some 29), (some (23, false)), .no, .no, [], [], .ld false 1 (.t 28)⟩,
      ⟨(some 30), (some (23, false)), .no, .no, [], [], .call 143 [(false, (.t 26)), (false, (.t 29))]⟩,
      ⟨(some 31), (some (23, false)), .no, .no, [], [], .un .not (.t 30)⟩,
      o 32 (.pick (.t 23) (.k (.s (.c (.val (.bool true))))) (.t 31)),
      o 33 (.mv (.t 32)),
      ⟨(some 34), (some (33, false)), .no, .no, [], [], .fa 2 (.t 2)⟩,
      ⟨(some 35), (some (33, false)), .no, .no, [], [], .fa 2 (.t 34)⟩,
      ⟨(some 36), (some (33, false)), .no, .no, [], [], .ld false 1 (.t 35)⟩,
      ⟨(some 37), (some (33, false)), .no, .no, [], [], .fa 2 (.t 3)⟩,
      ⟨(some 38), (some (33, false)), .no, .no, [], [], .fa 2 (.t 37)⟩,
      ⟨(some 39), (some (33, false)), .no, .no, [], [], .ld false 1 (.t 38)⟩,
      ⟨(some 40), (some (33, false)), .no, .no, [], [], .call 143 [(false, (.t 36)), (false, (.t 39))]⟩,
      ⟨(some 41), (some (33, false)), .no, .no, [], [], .un .not (.t 40)⟩,
      o 42 (.pick (.t 33) (.k (.s (.c (.val (.bool true))))) (.t 41))] [2, 3, 42])
    (.cond (.t 42) (.seq (.ops [o 4 (.mv (.k (.s (.c (.val (.bool false))))))] [4])
      (.ret))
     (.skip)))
   (.seq (.seq (.ops [o 43 (.fa 1 (.t 2)),
       o 44 (.ld false 1 (.t 43)),
       o 45 (.len false (.t 44)),
       o 46 (.mv (.k (.s (.c (.val (.int .i64 0))))))] [3, 44, 45, 46])
     (.block 0
      (.loop [3, 44, 45, 46] l1_spec_caSame)))
    (.seq (.ops [o 4 (.mv (.k (.s (.c (.val (.bool true))))))] [4])
     (.ret))))
def c_spec_caSame : PFunc := ⟨2, 60, b_spec_caSame, [.t 4]⟩
def b_spec_l1Most : PC :=
  .seq (.ops [o 4 (.mv (.k (.s (.c (.val (.int .i64 0))))))] [0, 1])
  (.seq (.seq (.ops [o 5 (.mv (.t 0)),
      o 6 (.mv (.t 1)),
      o 7 (.bin .gtr (.t 5) (.t 6))] [0, 1, 7])
    (.cond (.t 7) (.seq (.ops [o 8 (.mv (.t 0)),
        o 4 (.mv (.t 8))] [4])
      (.ret))
     (.skip)))
   (.seq (.ops [o 9 (.mv (.t 1)),
      o 4 (.mv (.t 9))] [4])
    (.ret)))
def c_spec_l1Most : PFunc := ⟨2, 10, b_spec_l1Most, [.t 4]⟩
def b_spec_l1Least : PC :=
  .seq (.ops [o 4 (.mv (.k (.s (.c (.val (.int .i64 0))))))] [0, 1])
  (.seq (.seq (.ops [o 5 (.mv (.t 0)),
      o 6 (.mv (.t 1)),
      o 7 (.bin .lss (.t 5) (.t 6))] [0, 1, 7])
    (.cond (.t 7) (.seq (.ops [o 8 (.mv (.t 0)),
        o 4 (.mv (.t 8))] [4])
      (.ret))
     (.skip)))
   (.seq (.ops [o 9 (.mv (.t 1)),
      o 4 (.mv (.t 9))] [4])
    (.ret)))
def c_spec_l1Least : PFunc := ⟨2, 10, b_spec_l1Least, [.t 4]⟩
def l1_impl_isEntry : PC :=
  .seq (.ops [o 10 (.bin .lss (.t 9) (.t 8))] [0, 8, 9, 10])
  (.seq (.cond (.t 10) (.skip)
    (.exit 0))
   (.seq (.block 1
     (.seq (.ops [o 11 (.mv (.t 9)),
        o 3 (.mv (.t 11))] [0, 3, 8, 9])
      (.seq (.ops [o 12 (.mv (.t 0)),
         o 13 (.nchk (.t 12)),
         o 14 (.fa 0 (.t 13)),
         o 15 (.ld false 1 (.t 14)),
         o 16 (.mv (.t 3)),
         o 17 (.ixs (.t 15) (.t 16)),
         o 18 (.bin .lss (.t 17) (.k (.s (.c (.val (.int .u8 97)))))),
         o 19 (.mv (.t 18)),
         ⟨(some 20), (some (19, false)), .no, .no, [], [], .mv (.t 0)⟩,
         ⟨(some 21), (some (19, false)), .no, .no, [], [], .nchk (.t 20)⟩,
         ⟨(some 22), (some (19, false)), .no, .no, [], [], .fa 0 (.t 21)⟩,
         ⟨(some 23), (some (19, false)), .no, .no, [], [], .ld false 1 (.t 22)⟩,
         ⟨(some 24), (some (19, false)), .no, .no, [], [], .mv (.t 3)⟩,
         ⟨(some 25), (some (19, false)), .no, .no, [], [], .ixs (.t 23) (.t 24)⟩,
         ⟨(some 26), (some (19, false)), .no, .no, [], [], .bin .gtr (.t 25) (.k (.s (.c (.val (.int .u8 122)))))⟩,
         o 27 (.pick (.t 19) (.k (.s (.c (.val (.bool true))))) (.t 26))] [0, 8, 9, 27])
       (.cond (.t 27) (.seq (.ops [o 2 (.mv (.k (.s (.c (.val (.bool false))))))] [2])
         (.ret))
        (.skip)))))
    (.ops [o 28 (.bin .add (.t 9) (.k (.s (.c (.val (.int .i64 1)))))),
      o 9 (.mv (.t 28))] [0, 8, 9])))
def b_impl_isEntry : PC :=
  .seq (.ops [o 2 (.mv (.k (.s (.c (.val (.bool false))))))] [0])
  (.seq (.seq (.ops [o 4 (.mv (.t 0)),
      o 5 (.nchk (.t 4)),
      o 6 (.fa 0 (.t 5)),
      o 7 (.ld false 1 (.t 6)),
      o 8 (.len true (.t 7)),
      o 9 (.mv (.k (.s (.c (.val (.int .i64 0))))))] [0, 8, 9])
    (.block 0
     (.loop [0, 8, 9] l1_impl_isEntry)))
   (.seq (.dops [(0, ⟨(some 29), none, .no, .no, [], [], .mv (.t 0)⟩),
      (1, ⟨(some 30), none, .no, .no, [0], [], .nchk (.t 29)⟩),
      (2, ⟨(some 31), none, .no, .no, [0, 1], [], .fa 0 (.t 30)⟩),
      (3, ⟨(some 32), none, .no, .no, [0, 1, 2], [], .ld false 1 (.t 31)⟩),
      (4, ⟨(some 33), none, .no, .no, [0, 1, 2, 3], [], .len true (.t 32)⟩),
      (5, ⟨(some 34), none, .no, .all, [0, 1, 2, 3, 4], [], .call 23 [(false, (.t 33)), (false, (.k (.s (.c (.val (.int .i64 1)))))), (false, (.k (.s (.c (.val (.int .i64 8))))))]⟩),
      (6, ⟨(some 35), none, .no, .no, [0, 1, 2, 3, 4, 5], [], .mv (.t 34)⟩),
      (7, ⟨(some 36), (some (35, true)), .no, .no, [0, 1, 2, 3, 4, 5, 6], [40, 41, 42], .mv (.t 0)⟩),
      (8, ⟨(some 37), (some (35, true)), .no, .no, [0, 1, 2, 3, 4, 5, 6, 7], [40, 41, 42], .nchk (.t 36)⟩),
      (9, ⟨(some 38), (some (35, true)), .no, .no, [0, 1, 2, 3, 4, 5, 6, 7, 8], [40, 41, 42], .fa 1 (.t 37)⟩),
      (10, ⟨(some 39), (some (35, true)), .no, .no, [0, 1, 2, 3, 4, 5, 6, 7, 8, 9], [40, 41, 42], .ld false 1 (.t 38)⟩),
      (11, ⟨(some 40), (some (35, true)), .no, .no, [0, 1, 2, 3, 4, 5, 6], [36, 37, 38, 39], .mv (.t 0)⟩),
      (12, ⟨(some 41), (some (35, true)), .no, .no, [0, 1, 2, 3, 4, 5, 6, 11], [36, 37, 38, 39], .nchk (.t 40)⟩),
      (13, ⟨(some 42), (some (35, true)), .no, .no, [0, 1, 2, 3, 4, 5, 6, 11, 12], [36, 37, 38, 39], .fa 2 (.t 41)⟩),
      (14, ⟨(some 43), (some (35, true)), .no, .all, [0, 1, 2, 3, 4, 5, 6, 7, 8, 9, 10, 11, 12, 13], [], .call 62 [(false, (.t 39)), (false, (.t 42))]⟩),
      (15, ⟨(some 44), none, .no, .no, [0, 1, 2, 3, 4, 5, 6, 7, 8, 9, 10, 11, 12, 13, 14], [], .pick (.t 35) (.t 43) (.k (.s (.c (.val (.bool false)))))⟩),
      (16, ⟨(some 45), none, .no, .no, [0, 1, 2, 3, 4, 5, 6, 7, 8, 9, 10, 11, 12, 13, 14, 15], [], .mv (.t 44)⟩),
      (17, ⟨(some 46), (some (45, true)), .no, .no, [0, 1, 2, 3, 4, 5, 6, 7, 8, 9, 10, 11, 12, 13, 14, 15, 16], [50, 51, 52, 53], .mv (.t 0)⟩),
      (18, ⟨(some 47), (some (45, true)), .no, .no, [0, 1, 2, 3, 4, 5, 6, 7, 8, 9, 10, 11, 12, 13, 14, 15, 16, 17], [50, 51, 52, 53], .nchk (.t 46)⟩),
      (19, ⟨(some 48), (some (45, true)), .no, .no, [0, 1, 2, 3, 4, 5, 6, 7, 8, 9, 10, 11, 12, 13, 14, 15, 16, 17, 18], [50, 51, 52, 53], .fa 5 (.t 47)⟩),
      (20, ⟨(some 49), (some (45, true)), .no, .no, [0, 1, 2, 3, 4, 5, 6, 7, 8, 9, 10, 11, 12, 13, 14, 15, 16, 17, 18, 19], [50, 51, 52, 53], .ld false 1 (.t 48)⟩),
      (21, ⟨(some 50), (some (45, true)), .no, .no, [0, 1, 2, 3, 4, 5, 6, 7, 8, 9, 10, 11, 12, 13, 14, 15, 16], [46, 47, 48, 49], .mv (.t 0)⟩),
      (22, ⟨(some 51), (some (45, true)), .no, .no, [0, 1, 2, 3, 4, 5, 6, 7, 8, 9, 10, 11, 12, 13, 14, 15, 16, 21], [46, 47, 48, 49], .nchk (.t 50)⟩),
      (23, ⟨(some 52), (some (45, true)), .no, .no, [0, 1, 2, 3, 4, 5, 6, 7, 8, 9, 10, 11, 12, 13, 14, 15, 16, 21, 22], [46, 47, 48, 49], .fa 6 (.t 51)⟩),
      (24, ⟨(some 53), (some (45, true)), .no, .no, [0, 1, 2, 3, 4, 5, 6, 7, 8, 9, 10, 11, 12, 13, 14, 15, 16, 21, 22, 23], [46, 47, 48, 49], .ld false 1 (.t 52)⟩),
      (25, ⟨(some 54), (some (45, true)), .no, .all, [0, 1, 2, 3, 4, 5, 6, 7, 8, 9, 10, 11, 12, 13, 14, 15, 16, 17, 18, 19, 20, 21, 22, 23, 24], [], .call 23 [(false, (.t 49)), (false, (.k (.s (.c (.val (.int .i64 0)))))), (false, (.t 53))]⟩),
      (26, ⟨(some 55), none, .no, .no, [0, 1, 2, 3, 4, 5, 6, 7, 8, 9, 10, 11, 12, 13, 14, 15, 16, 17, 18, 19, 20, 21, 22, 23, 24, 25], [], .pick (.t 45) (.t 54) (.k (.s (.c (.val (.bool false)))))⟩),
      (27, ⟨(some 56), none, .no, .no, [0, 1, 2, 3, 4, 5, 6, 7, 8, 9, 10, 11, 12, 13, 14, 15, 16, 17, 18, 19, 20, 21, 22, 23, 24, 25, 26], [], .mv (.t 55)⟩),
      (28, ⟨(some 57), (some (56, true)), .no, .no, [0, 1, 2, 3, 4, 5, 6, 7, 8, 9, 10, 11, 12, 13, 14, 15, 16, 17, 18, 19, 20, 21, 22, 23, 24, 25, 26, 27], [], .mv (.t 0)⟩),
      (29, ⟨(some 58), (some (56, true)), .no, .no, [0, 1, 2, 3, 4, 5, 6, 7, 8, 9, 10, 11, 12, 13, 14, 15, 16, 17, 18, 19, 20, 21, 22, 23, 24, 25, 26, 27, 28], [], .nchk (.t 57)⟩),
      (30, ⟨(some 59), (some (56, true)), .no, .no, [0, 1, 2, 3, 4, 5, 6, 7, 8, 9, 10, 11, 12, 13, 14, 15, 16, 17, 18, 19, 20, 21, 22, 23, 24, 25, 26, 27, 28, 29], [], .fa 6 (.t 58)⟩),
      (31, ⟨(some 60), (some (56, true)), .no, .no, [0, 1, 2, 3, 4, 5, 6, 7, 8, 9, 10, 11, 12, 13, 14, 15, 16, 17, 18, 19, 20, 21, 22, 23, 24, 25, 26, 27, 28, 29, 30], [], .ld false 1 (.t 59)⟩),
      (32, ⟨(some 61), (some (56, true)), .no, .no, [0, 1, 2, 3, 4, 5, 6, 7, 8, 9, 10, 11, 12, 13, 14, 15, 16, 17, 18, 19, 20, 21, 22, 23, 24, 25, 26, 27, 28, 29, 30, 31], [], .bin .leq (.t 60) (.k (.s (.c (.val (.int .i64 64)))))⟩),
      (33, ⟨(some 62), none, .no, .no, [0, 1, 2, 3, 4, 5, 6, 7, 8, 9, 10, 11, 12, 13, 14, 15, 16, 17, 18, 19, 20, 21, 22, 23, 24, 25, 26, 27, 28, 29, 30, 31, 32], [], .pick (.t 56) (.t 61) (.k (.s (.c (.val (.bool false)))))⟩),
      (34, ⟨(some 63), none, .no, .no, [0, 1, 2, 3, 4, 5, 6, 7, 8, 9, 10, 11, 12, 13, 14, 15, 16, 17, 18, 19, 20, 21, 22, 23, 24, 25, 26, 27, 28, 29, 30, 31, 32, 33], [], .mv (.t 62)⟩),
      (35, ⟨(some 64), (some (63, true)), .no, .no, [0, 1, 2, 3, 4, 5, 6, 7, 8, 9, 10, 11, 12, 13, 14, 15, 16, 17, 18, 19, 20, 21, 22, 23, 24, 25, 26, 27, 28, 29, 30, 31, 32, 33, 34], [], .mv (.t 0)⟩),
      (36, ⟨(some 65), (some (63, true)), .no, .no, [0, 1, 2, 3, 4, 5, 6, 7, 8, 9, 10, 11, 12, 13, 14, 15, 16, 17, 18, 19, 20, 21, 22, 23, 24, 25, 26, 27, 28, 29, 30, 31, 32, 33, 34, 35], [], .nchk (.t 64)⟩),
      (37, ⟨(some 66), (some (63, true)), .no, .no, [0, 1, 2, 3, 4, 5, 6, 7, 8, 9, 10, 11, 12, 13, 14, 15, 16, 17, 18, 19, 20, 21, 22, 23, 24, 25, 26, 27, 28, 29, 30, 31, 32, 33, 34, 35, 36], [], .fa 7 (.t 65)⟩),
      (38, ⟨(some 67), (some (63, true)), .no, .no, [0, 1, 2, 3, 4, 5, 6, 7, 8, 9, 10, 11, 12, 13, 14, 15, 16, 17, 18, 19, 20, 21, 22, 23, 24, 25, 26, 27, 28, 29, 30, 31, 32, 33, 34, 35, 36, 37], [], .ld false 1 (.t 66)⟩),
      (39, ⟨(some 68), (some (63, true)), .no, .all, [0, 1, 2, 3, 4, 5, 6, 7, 8, 9, 10, 11, 12, 13, 14, 15, 16, 17, 18, 19, 20, 21, 22, 23, 24, 25, 26, 27, 28, 29, 30, 31, 32, 33, 34, 35, 36, 37, 38], [], .call 23 [(false, (.t 67)), (false, (.k (.s (.c (.val (.int .i64 1)))))), (false, (.k (.s (.c (.val (.int .i64 999))))))]⟩),
      (40, ⟨(some 69), none, .no, .no, [0, 1, 2, 3, 4, 5, 6, 7, 8, 9, 10, 11, 12, 13, 14, 15, 16, 17, 18, 19, 20, 21, 22, 23, 24, 25, 26, 27, 28, 29, 30, 31, 32, 33, 34, 35, 36, 37, 38, 39], [], .pick (.t 63) (.t 68) (.k (.s (.c (.val (.bool false)))))⟩),
      (41, ⟨(some 2), none, .no, .no, [0, 1, 2, 3, 4, 5, 6, 7, 8, 9, 10, 11, 12, 13, 14, 15, 16, 17, 18, 19, 20, 21, 22, 23, 24, 25, 26, 27, 28, 29, 30, 31, 32, 33, 34, 35, 36, 37, 38, 39, 40], [], .mv (.t 69)⟩)] [2])
    (.ret)))
def c_impl_isEntry : PFunc := ⟨1, 70, b_impl_isEntry, [.t 2]⟩
def l1_slices_BinarySearchFunc_SimplEntryimplEntrystring : PC :=
  .seq (.seq (.ops [o 15 (.mv (.t 9)),
     o 16 (.mv (.t 10)),
     o 17 (.bin .lss (.t 15) (.t 16))] [0, 1, 2, 8, 9, 10, 17])
   (.cond (.t 17) (.skip)
    (.exit 0)))
  (.block 1
   (.seq (.ops [o 18 (.mv (.t 9)),
      o 19 (.mv (.t 10)),
      o 20 (.bin .add (.t 18) (.t 19)),
      o 21 (.conv .u64 (.t 20)),
      o 22 (.bin .shr (.t 21) (.k (.s (.c (.val (.int .u64 1)))))),
      o 23 (.conv .i64 (.t 22)),
      o 11 (.mv (.t 23))] [0, 1, 2, 8, 9, 10, 11])
    (.seq (.ops [o 24 (.mv (.t 2)),
       o 25 (.mv (.t 0)),
       o 26 (.mv (.t 11)),
       o 27 (.ia 8 (.t 25) (.t 26)),
       o 28 (.ld true 8 (.t 27)),
       o 29 (.mv (.t 1)),
       o 30 (.callv (.t 24) [(false, (.t 28)), (false, (.t 29))]),
       o 31 (.bin .lss (.t 30) (.k (.s (.c (.val (.int .i64 0))))))] [0, 1, 2, 8, 9, 10, 11, 31])
     (.cond (.t 31) (.ops [o 32 (.mv (.t 11)),
        o 33 (.bin .add (.t 32) (.k (.s (.c (.val (.int .i64 1)))))),
        o 9 (.mv (.t 33))] [0, 1, 2, 8, 9, 10])
      (.ops [o 34 (.mv (.t 11)),
        o 10 (.mv (.t 34))] [0, 1, 2, 8, 9, 10])))))
def b_slices_BinarySearchFunc_SimplEntryimplEntrystring : PC :=
  .seq (.ops [o 6 (.mv (.k (.s (.c (.val (.int .i64 0)))))),
    o 7 (.mv (.k (.s (.c (.val (.bool false))))))] [0, 1, 2])
  (.seq (.ops [o 12 (.mv (.t 0)),
     o 13 (.len false (.t 12)),
     o 8 (.mv (.t 13))] [0, 1, 2, 8])
   (.seq (.ops [o 14 (.mv (.t 8)),
      o 9 (.mv (.k (.s (.c (.val (.int .i64 0)))))),
      o 10 (.mv (.t 14))] [0, 1, 2, 8, 9, 10])
    (.seq (.block 0
      (.loop [0, 1, 2, 8, 9, 10] l1_slices_BinarySearchFunc_SimplEntryimplEntrystring))
     (.seq (.ops [o 35 (.mv (.t 9)),
        o 36 (.mv (.t 9)),
        o 37 (.mv (.t 8)),
        o 38 (.bin .lss (.t 36) (.t 37)),
        o 39 (.mv (.t 38)),
        ⟨(some 40), (some (39, true)), .no, .no, [], [], .mv (.t 2)⟩,
        ⟨(some 41), (some (39, true)), .no, .no, [], [], .mv (.t 0)⟩,
        ⟨(some 42), (some (39, true)), .no, .no, [], [], .mv (.t 9)⟩,
        ⟨(some 43), (some (39, true)), .no, .no, [], [], .ia 8 (.t 41) (.t 42)⟩,
        ⟨(some 44), (some (39, true)), .no, .no, [], [], .ld true 8 (.t 43)⟩,
        ⟨(some 45), (some (39, true)), .no, .no, [], [], .mv (.t 1)⟩,
        ⟨(some 46), (some (39, true)), .no, .no, [], [], .callv (.t 40) [(false, (.t 44)), (false, (.t 45))]⟩,
        ⟨(some 47), (some (39, true)), .no, .no, [], [], .bin .eql (.t 46) (.k (.s (.c (.val (.int .i64 0)))))⟩,
        o 48 (.pick (.t 39) (.t 47) (.k (.s (.c (.val (.bool false)))))),
        o 6 (.mv (.t 35)),
        o 7 (.mv (.t 48))] [6, 7])
      (.ret)))))
def c_slices_BinarySearchFunc_SimplEntryimplEntrystring : PFunc := ⟨3, 49, b_slices_BinarySearchFunc_SimplEntryimplEntrystring, [.t 6, .t 7]⟩
def b_impl_entryPlace_in1 : PC :=
  .seq (.ops [o 2 (.box (.t 0)),
    o 4 (.mv (.k (.s (.c (.val (.int .i64 0))))))] [1, 2])
  (.seq (.ops [o 5 (.fa 0 (.t 2)),
     o 6 (.ld false 1 (.t 5)),
     o 7 (.mv (.t 1)),
     o 8 (.call 63 [(false, (.t 6)), (false, (.t 7))]),
     o 4 (.mv (.t 8))] [4])
   (.ret))
def c_impl_entryPlace_in1 : PFunc := ⟨2, 9, b_impl_entryPlace_in1, [.t 4]⟩
def l1_impl_copySystem : PC :=
  .seq (.ops [o 9 (.bin .lss (.t 8) (.t 7))] [3, 6, 7, 8, 9])
  (.seq (.cond (.t 9) (.skip)
    (.exit 0))
   (.seq (.block 1
     (.seq (.ops [o 10 (.ia 1 (.t 6) (.t 8)),
        o 11 (.ld false 1 (.t 10)),
        o 5 (.mv (.t 11))] [3, 5, 6, 7, 8])
      (.ops [o 12 (.mv (.t 3)),
        o 13 (.mv (.t 5)),
        o 14 (.call 77 [(false, (.t 13))]),
        o 15 (.bs (.sl 1) [(.t 14)]),
        o 16 (.app (.sl 1) 24 (.t 12) (.t 15)),
        o 3 (.mv (.t 16))] [3, 6, 7, 8])))
    (.ops [o 17 (.bin .add (.t 8) (.k (.s (.c (.val (.int .i64 1)))))),
      o 8 (.mv (.t 17))] [3, 6, 7, 8])))
def b_impl_copySystem : PC :=
  .seq (.ops [o 2 (.mkn (.sl 1))] [0])
  (.seq (.ops [o 3 (.mkn (.sl 1))] [0, 3])
   (.seq (.seq (.ops [o 6 (.mv (.t 0)),
       o 7 (.len false (.t 6)),
       o 8 (.mv (.k (.s (.c (.val (.int .i64 0))))))] [3, 6, 7, 8])
     (.block 0
      (.loop [3, 6, 7, 8] l1_impl_copySystem)))
    (.seq (.ops [o 18 (.mv (.t 3)),
       o 2 (.mv (.t 18))] [2])
     (.ret))))
def c_impl_copySystem : PFunc := ⟨1, 19, b_impl_copySystem, [.t 2]⟩
def l1_impl_copyBoxes : PC :=
  .seq (.ops [o 9 (.bin .lss (.t 8) (.t 7))] [3, 6, 7, 8, 9])
  (.seq (.cond (.t 9) (.skip)
    (.exit 0))
   (.seq (.block 1
     (.seq (.ops [o 10 (.ia 3 (.t 6) (.t 8)),
        o 11 (.ld true 3 (.t 10)),
        o 5 (.alloc [.c (.val (.int .i64 0)), .nil (.fl 1), .nil (.fl 1)]),
        u (.st 3 (.t 5) (.t 11))] [3, 5, 6, 7, 8])
      (.dops [(0, ⟨(some 12), none, .all, .no, [], [13, 14, 15, 16, 17, 18, 19, 20, 21, 22], .mv (.t 3)⟩),
        (1, ⟨(some 13), none, .no, .no, [], [12, 15, 16, 17, 18, 19, 20], .fa 0 (.t 5)⟩),
        (2, ⟨(some 14), none, .no, .no, [1], [12, 15, 16, 17, 18, 19, 20], .ld false 1 (.t 13)⟩),
        (3, ⟨(some 15), none, .no, .no, [], [12, 13, 14, 18, 19], .fa 1 (.t 5)⟩),
        (4, ⟨(some 16), none, .no, .no, [3], [12, 13, 14, 18, 19], .ld false 1 (.t 15)⟩),
        (6, ⟨(some 18), none, .no, .no, [], [12, 13, 14, 15, 16, 17], .fa 2 (.t 5)⟩),
        (7, ⟨(some 19), none, .no, .no, [5], [12, 13, 14, 15, 16, 17], .ld false 1 (.t 18)⟩),
        (5, ⟨(some 17), none, .no, .no, [3, 4], [12, 13, 14, 18, 19], .call 78 [(false, (.t 16))]⟩),
        (8, ⟨(some 20), none, .no, .no, [3, 4, 5, 6, 7], [12, 13, 14], .call 78 [(false, (.t 19))]⟩),
        (9, ⟨(some 21), none, .no, .no, [1, 2, 3, 4, 5, 6, 7, 8], [12], .build [.c (.val (.int .i64 0)), .nil (.fl 1), .nil (.fl 1)] [(0, 1, (.t 14)), (1, 1, (.t 17)), (2, 1, (.t 20))]⟩),
        (10, ⟨(some 22), none, .no, .all, [1, 2, 3, 4, 5, 6, 7, 8, 9], [12], .bs (.sl 3) [(.t 21)]⟩),
        (11, ⟨(some 23), none, .no, .all, [0, 1, 2, 3, 4, 5, 6, 7, 8, 9, 10], [], .app (.sl 3) 56 (.t 12) (.t 22)⟩),
        (12, ⟨(some 3), none, .no, .no, [0, 1, 2, 3, 4, 5, 6, 7, 8, 9, 10, 11], [], .mv (.t 23)⟩)] [3, 6, 7, 8])))
    (.ops [o 24 (.bin .add (.t 8) (.k (.s (.c (.val (.int .i64 1)))))),
      o 8 (.mv (.t 24))] [3, 6, 7, 8])))
def b_impl_copyBoxes : PC :=
  .seq (.ops [o 2 (.mkn (.sl 3))] [0])
  (.seq (.ops [o 3 (.mkn (.sl 3))] [0, 3])
   (.seq (.seq (.ops [o 6 (.mv (.t 0)),
       o 7 (.len false (.t 6)),
       o 8 (.mv (.k (.s (.c (.val (.int .i64 0))))))] [3, 6, 7, 8])
     (.block 0
      (.loop [3, 6, 7, 8] l1_impl_copyBoxes)))
    (.seq (.ops [o 25 (.mv (.t 3)),
       o 2 (.mv (.t 25))] [2])
     (.ret))))
def c_impl_copyBoxes : PFunc := ⟨1, 26, b_impl_copyBoxes, [.t 2]⟩
def l1_slices_EqualFunc_SSimplTermSSimplTermSimplTermSimplTerm : PC :=
  .seq (.ops [o 18 (.bin .lss (.t 17) (.t 16))] [1, 2, 15, 16, 17, 18])
  (.seq (.cond (.t 18) (.skip)
    (.exit 0))
   (.seq (.block 1
     (.seq (.ops [o 19 (.mv (.t 17)),
        o 20 (.ia 1 (.t 15) (.t 17)),
        o 21 (.ld false 1 (.t 20)),
        o 7 (.mv (.t 19)),
        o 8 (.mv (.t 21))] [1, 2, 7, 8, 15, 16, 17])
      (.seq (.ops [o 22 (.mv (.t 1)),
         o 23 (.mv (.t 7)),
         o 24 (.ia 1 (.t 22) (.t 23)),
         o 25 (.ld false 1 (.t 24)),
         o 9 (.mv (.t 25))] [1, 2, 8, 9, 15, 16, 17])
       (.seq (.ops [o 26 (.mv (.t 2)),
          o 27 (.mv (.t 8)),
          o 28 (.mv (.t 9)),
          o 29 (.callv (.t 26) [(false, (.t 27)), (false, (.t 28))]),
          o 30 (.un .not (.t 29))] [1, 2, 15, 16, 17, 30])
        (.cond (.t 30) (.seq (.ops [o 6 (.mv (.k (.s (.c (.val (.bool false))))))] [6])
          (.ret))
         (.skip))))))
    (.ops [o 31 (.bin .add (.t 17) (.k (.s (.c (.val (.int .i64 1)))))),
      o 17 (.mv (.t 31))] [1, 2, 15, 16, 17])))
def b_slices_EqualFunc_SSimplTermSSimplTermSimplTermSimplTerm : PC :=
  .seq (.ops [o 6 (.mv (.k (.s (.c (.val (.bool false))))))] [0, 1, 2])
  (.seq (.seq (.ops [o 10 (.mv (.t 0)),
      o 11 (.len false (.t 10)),
      o 12 (.mv (.t 1)),
      o 13 (.len false (.t 12)),
      o 14 (.bin .neq (.t 11) (.t 13))] [0, 1, 2, 14])
    (.cond (.t 14) (.seq (.ops [o 6 (.mv (.k (.s (.c (.val (.bool false))))))] [6])
      (.ret))
     (.skip)))
   (.seq (.seq (.ops [o 15 (.mv (.t 0)),
       o 16 (.len false (.t 15)),
       o 17 (.mv (.k (.s (.c (.val (.int .i64 0))))))] [1, 2, 15, 16, 17])
     (.block 0
      (.loop [1, 2, 15, 16, 17] l1_slices_EqualFunc_SSimplTermSSimplTermSimplTermSimplTerm)))
    (.seq (.ops [o 6 (.mv (.k (.s (.c (.val (.bool true))))))] [6])
     (.ret))))
def c_slices_EqualFunc_SSimplTermSSimplTermSimplTermSimplTerm : PFunc := ⟨3, 32, b_slices_EqualFunc_SSimplTermSSimplTermSimplTermSimplTerm, [.t 6]⟩
def l1_slices_Equal_SimplTermimplTerm : PC :=
  .seq (.ops [o 14 (.bin .lss (.t 13) (.t 12))] [0, 1, 12, 13, 14])
  (.seq (.cond (.t 14) (.skip)
    (.exit 0))
   (.seq (.block 1
     (.seq (.ops [o 15 (.mv (.t 13)),
        o 5 (.mv (.t 15))] [0, 1, 5, 12, 13])
      (.seq (.dops [(0, ⟨(some 16), none, .no, .no, [], [17, 20, 21, 22, 23], .mv (.t 0)⟩),
         (1, ⟨(some 17), none, .no, .no, [], [16, 20, 21, 22, 23], .mv (.t 5)⟩),
         (2, ⟨(some 18), none, .no, .no, [0, 1], [20, 21, 22, 23], .ia 4 (.t 16) (.t 17)⟩),
         (3, ⟨(some 19), none, .no, .no, [0, 1, 2], [20, 21, 22, 23], .ld true 4 (.t 18)⟩),
         (4, ⟨(some 20), none, .no, .no, [], [16, 17, 18, 19, 21], .mv (.t 1)⟩),
         (5, ⟨(some 21), none, .no, .no, [], [16, 17, 18, 19, 20], .mv (.t 5)⟩),
         (6, ⟨(some 22), none, .no, .no, [4, 5], [16, 17, 18, 19], .ia 4 (.t 20) (.t 21)⟩),
         (7, ⟨(some 23), none, .no, .no, [4, 5, 6], [16, 17, 18, 19], .ld true 4 (.t 22)⟩),
         (8, ⟨(some 24), none, .no, .no, [0, 1, 2, 3, 4, 5, 6, 7], [], .eqs true [0, 0, 0, 0] (.t 19) (.t 23)⟩)] [0, 1, 12, 13, 24])
       (.cond (.t 24) (.seq (.ops [o 4 (.mv (.k (.s (.c (.val (.bool false))))))] [4])
         (.ret))
        (.skip)))))
    (.ops [o 25 (.bin .add (.t 13) (.k (.s (.c (.val (.int .i64 1)))))),
      o 13 (.mv (.t 25))] [0, 1, 12, 13])))
def b_slices_Equal_SimplTermimplTerm : PC :=
  .seq (.ops [o 4 (.mv (.k (.s (.c (.val (.bool false))))))] [0, 1])
  (.seq (.seq (.ops [o 6 (.mv (.t 0)),
      o 7 (.len false (.t 6)),
      o 8 (.mv (.t 1)),
      o 9 (.len false (.t 8)),
      o 10 (.bin .neq (.t 7) (.t 9))] [0, 1, 10])
    (.cond (.t 10) (.seq (.ops [o 4 (.mv (.k (.s (.c (.val (.bool false))))))] [4])
      (.ret))
     (.skip)))
   (.seq (.seq (.ops [o 11 (.mv (.t 0)),
       o 12 (.len false (.t 11)),
       o 13 (.mv (.k (.s (.c (.val (.int .i64 0))))))] [0, 1, 12, 13])
     (.block 0
      (.loop [0, 1, 12, 13] l1_slices_Equal_SimplTermimplTerm)))
    (.seq (.ops [o 4 (.mv (.k (.s (.c (.val (.bool true))))))] [4])
     (.ret))))
def c_slices_Equal_SimplTermimplTerm : PFunc := ⟨2, 26, b_slices_Equal_SimplTermimplTerm, [.t 4]⟩
def b_impl_sameBox : PC :=
  .seq (.ops [o 2 (.box (.t 0)),
    o 3 (.box (.t 1)),
    o 4 (.mv (.k (.s (.c (.val (.bool false))))))] [2, 3])
  (.seq (.ops [o 5 (.fa 1 (.t 2)),
     o 6 (.ld false 1 (.t 5)),
     o 7 (.len false (.t 6)),
     o 8 (.fa 1 (.t 3)),
     o 9 (.ld false 1 (.t 8)),
     o 10 (.len false (.t 9)),
     o 11 (.bin .eql (.t 7) (.t 10)),
     o 12 (.mv (.t 11)),
     ⟨(some 13), (some (12, true)), .no, .no, [], [], .ld true 3 (.t 2)⟩,
     ⟨(some 14), (some (12, true)), .no, .no, [], [], .ld true 3 (.t 3)⟩,
     ⟨(some 15), (some (12, true)), .no, .no, [], [], .call 153 [(false, (.t 13)), (false, (.t 14))]⟩,
     ⟨(some 16), (some (12, true)), .no, .no, [], [], .bin .eql (.t 15) (.k (.s (.c (.val (.int .i64 0)))))⟩,
     o 17 (.pick (.t 12) (.t 16) (.k (.s (.c (.val (.bool false)))))),
     o 4 (.mv (.t 17))] [4])
   (.ret))
def c_impl_sameBox : PFunc := ⟨2, 18, b_impl_sameBox, [.t 4]⟩
def b_laws_szTermS : PC :=
  .seq (.ops [o 4 (.mv (.k (.s (.c (.val (.int .i64 0))))))] [0, 1])
  (.seq (.ops [o 5 (.mv (.t 1)),
     o 6 (.mv (.t 0)),
     o 7 (.len false (.t 6)),
     o 8 (.bin .sub (.t 5) (.t 7)),
     o 1 (.mv (.t 8))] [1])
   (.seq (.seq (.ops [o 9 (.mv (.t 1)),
       o 10 (.bin .lss (.t 9) (.k (.s (.c (.val (.int .i64 0))))))] [1, 10])
     (.cond (.t 10) (.seq (.ops [o 4 (.mv (.k (.s (.c (.val (.int .i64 (-1)))))))] [4])
       (.ret))
      (.skip)))
    (.seq (.ops [o 11 (.mv (.t 1)),
       o 4 (.mv (.t 11))] [4])
     (.ret))))
def c_laws_szTermS : PFunc := ⟨2, 12, b_laws_szTermS, [.t 4]⟩
def b_laws_szIntS : PC :=
  .seq (.ops [o 4 (.mv (.k (.s (.c (.val (.int .i64 0))))))] [0, 1])
  (.seq (.ops [o 5 (.mv (.t 1)),
     o 6 (.mv (.t 0)),
     o 7 (.len false (.t 6)),
     o 8 (.bin .sub (.t 5) (.t 7)),
     o 1 (.mv (.t 8))] [1])
   (.seq (.seq (.ops [o 9 (.mv (.t 1)),
       o 10 (.bin .lss (.t 9) (.k (.s (.c (.val (.int .i64 0))))))] [1, 10])
     (.cond (.t 10) (.seq (.ops [o 4 (.mv (.k (.s (.c (.val (.int .i64 (-1)))))))] [4])
       (.ret))
      (.skip)))
    (.seq (.ops [o 11 (.mv (.t 1)),
       o 4 (.mv (.t 11))] [4])
     (.ret))))
def c_laws_szIntS : PFunc := ⟨2, 12, b_laws_szIntS, [.t 4]⟩
def l1_laws_toTermS : PC :=
  .seq (.seq (.ops [o 21 (.mv (.t 6)),
     o 22 (.mv (.t 0)),
     o 23 (.len false (.t 22)),
     o 24 (.bin .lss (.t 21) (.t 23))] [0, 5, 6, 24])
   (.cond (.t 24) (.skip)
    (.exit 0)))
  (.seq (.block 1
    (.ops [o 27 (.mv (.t 5)),
      o 28 (.mv (.t 6)),
      o 29 (.mv (.t 0)),
      o 30 (.mv (.t 6)),
      o 31 (.ia 4 (.t 29) (.t 30)),
      o 32 (.ld true 4 (.t 31)),
      o 33 (.call 73 [(false, (.t 32))]),
      o 34 (.ia 4 (.t 27) (.t 28)),
      u (.st 4 (.t 34) (.t 33))] [0, 5, 6]))
   (.ops [o 25 (.mv (.t 6)),
     o 26 (.bin .add (.t 25) (.k (.s (.c (.val (.int .i64 1)))))),
     o 6 (.mv (.t 26))] [0, 5, 6]))
def l2_laws_toTermS : PC :=
  .seq (.seq (.ops [o 37 (.mv (.t 7)),
     o 38 (.mv (.t 5)),
     o 39 (.len false (.t 38)),
     o 40 (.bin .lss (.t 37) (.t 39))] [0, 5, 7, 40])
   (.cond (.t 40) (.skip)
    (.exit 2)))
  (.seq (.block 3
    (.ops [o 43 (.mv (.t 5)),
      o 44 (.mv (.t 7)),
      o 45 (.call 42 []),
      o 46 (.ia 4 (.t 43) (.t 44)),
      u (.st 4 (.t 46) (.t 45))] [0, 5, 7]))
   (.ops [o 41 (.mv (.t 7)),
     o 42 (.bin .add (.t 41) (.k (.s (.c (.val (.int .i64 1)))))),
     o 7 (.mv (.t 42))] [0, 5, 7]))
def b_laws_toTermS : PC :=
  .seq (.ops [o 4 (.mkn (.fl 4))] [0, 1])
  (.seq (.seq (.ops [o 8 (.mv (.t 1)),
      o 9 (.mv (.t 8)),
      ⟨(some 10), (some (9, true)), .no, .no, [], [], .mv (.t 0)⟩,
      ⟨(some 11), (some (9, true)), .no, .no, [], [], .len false (.t 10)⟩,
      ⟨(some 12), (some (9, true)), .no, .no, [], [], .bin .eql (.t 11) (.k (.s (.c (.val (.int .i64 0)))))⟩,
      o 13 (.pick (.t 9) (.t 12) (.k (.s (.c (.val (.bool false))))))] [0, 13])
    (.cond (.t 13) (.seq (.ops [o 4 (.mkn (.fl 4))] [4])
      (.ret))
     (.skip)))
   (.seq (.ops [o 14 (.mv (.t 0)),
      o 15 (.len false (.t 14)),
      o 16 (.mv (.t 0)),
      o 17 (.len false (.t 16)),
      o 18 (.call 19 [(false, (.t 17))]),
      o 19 (.bin .add (.t 15) (.t 18)),
      o 20 (.mks (.fl 4) 32 [.val (.int .i64 0), .val (.int .i64 0), .val (.int .i64 0), .val (.int .i64 0)] (.t 19) (.t 19)),
      o 5 (.mv (.t 20))] [0, 5])
    (.seq (.seq (.ops [o 6 (.mv (.k (.s (.c (.val (.int .i64 0))))))] [0, 5, 6])
      (.block 0
       (.loop [0, 5, 6] l1_laws_toTermS)))
     (.seq (.seq (.ops [o 35 (.mv (.t 0)),
         o 36 (.len false (.t 35)),
         o 7 (.mv (.t 36))] [0, 5, 7])
       (.block 2
        (.loop [0, 5, 7] l2_laws_toTermS)))
      (.seq (.ops [o 47 (.mv (.t 5)),
         o 48 (.mv (.t 0)),
         o 49 (.len false (.t 48)),
         o 50 (.slc 4 (.t 47) none (some (.t 49))),
         o 4 (.mv (.t 50))] [4])
       (.ret))))))
def c_laws_toTermS : PFunc := ⟨2, 51, b_laws_toTermS, [.t 4]⟩
def l1_laws_toIntS : PC :=
  .seq (.seq (.ops [o 21 (.mv (.t 6)),
     o 22 (.mv (.t 0)),
     o 23 (.len false (.t 22)),
     o 24 (.bin .lss (.t 21) (.t 23))] [0, 5, 6, 24])
   (.cond (.t 24) (.skip)
    (.exit 0)))
  (.seq (.block 1
    (.ops [o 27 (.mv (.t 5)),
      o 28 (.mv (.t 6)),
      o 29 (.mv (.t 0)),
      o 30 (.mv (.t 6)),
      o 31 (.ia 1 (.t 29) (.t 30)),
      o 32 (.ld false 1 (.t 31)),
      o 33 (.ia 1 (.t 27) (.t 28)),
      u (.st 1 (.t 33) (.t 32))] [0, 5, 6]))
   (.ops [o 25 (.mv (.t 6)),
     o 26 (.bin .add (.t 25) (.k (.s (.c (.val (.int .i64 1)))))),
     o 6 (.mv (.t 26))] [0, 5, 6]))
def l2_laws_toIntS : PC :=
  .seq (.seq (.ops [o 36 (.mv (.t 7)),
     o 37 (.mv (.t 5)),
     o 38 (.len false (.t 37)),
     o 39 (.bin .lss (.t 36) (.t 38))] [0, 5, 7, 39])
   (.cond (.t 39) (.skip)
    (.exit 2)))
  (.seq (.block 3
    (.ops [o 42 (.mv (.t 5)),
      o 43 (.mv (.t 7)),
      o 44 (.ia 1 (.t 42) (.t 43)),
      u (.st 1 (.t 44) (.k (.s (.c (.val (.int .i64 (-7000000000000000101)))))))] [0, 5, 7]))
   (.ops [o 40 (.mv (.t 7)),
     o 41 (.bin .add (.t 40) (.k (.s (.c (.val (.int .i64 1)))))),
     o 7 (.mv (.t 41))] [0, 5, 7]))
def b_laws_toIntS : PC :=
  .seq (.ops [o 4 (.mkn (.fl 1))] [0, 1])
  (.seq (.seq (.ops [o 8 (.mv (.t 1)),
      o 9 (.mv (.t 8)),
      ⟨(some 10), (some (9, true)), .no, .no, [], [], .mv (.t 0)⟩,
      ⟨(some 11), (some (9, true)), .no, .no, [], [], .len false (.t 10)⟩,
      ⟨(some 12), (some (9, true)), .no, .no, [], [], .bin .eql (.t 11) (.k (.s (.c (.val (.int .i64 0)))))⟩,
      o 13 (.pick (.t 9) (.t 12) (.k (.s (.c (.val (.bool false))))))] [0, 13])
    (.cond (.t 13) (.seq (.ops [o 4 (.mkn (.fl 1))] [4])
      (.ret))
     (.skip)))
   (.seq (.ops [o 14 (.mv (.t 0)),
      o 15 (.len false (.t 14)),
      o 16 (.mv (.t 0)),
      o 17 (.len false (.t 16)),
      o 18 (.call 19 [(false, (.t 17))]),
      o 19 (.bin .add (.t 15) (.t 18)),
      o 20 (.mks (.fl 1) 8 [.val (.int .i64 0)] (.t 19) (.t 19)),
      o 5 (.mv (.t 20))] [0, 5])
    (.seq (.seq (.ops [o 6 (.mv (.k (.s (.c (.val (.int .i64 0))))))] [0, 5, 6])
      (.block 0
       (.loop [0, 5, 6] l1_laws_toIntS)))
     (.seq (.seq (.ops [o 34 (.mv (.t 0)),
         o 35 (.len false (.t 34)),
         o 7 (.mv (.t 35))] [0, 5, 7])
       (.block 2
        (.loop [0, 5, 7] l2_laws_toIntS)))
      (.seq (.ops [o 45 (.mv (.t 5)),
         o 46 (.mv (.t 0)),
         o 47 (.len false (.t 46)),
         o 48 (.slc 1 (.t 45) none (some (.t 47))),
         o 4 (.mv (.t 48))] [4])
       (.ret))))))
def c_laws_toIntS : PFunc := ⟨2, 49, b_laws_toIntS, [.t 4]⟩
def l1_laws_eqTermS : PC :=
  .seq (.seq (.ops [o 11 (.mv (.t 5)),
     o 12 (.mv (.t 0)),
     o 13 (.len false (.t 12)),
     o 14 (.bin .lss (.t 11) (.t 13))] [0, 1, 5, 14])
   (.cond (.t 14) (.skip)
    (.exit 0)))
  (.seq (.block 1
    (.seq (.dops [(0, ⟨(some 17), none, .no, .no, [], [18, 21, 22, 23, 24], .mv (.t 0)⟩),
       (1, ⟨(some 18), none, .no, .no, [], [17, 21, 22, 23, 24], .mv (.t 5)⟩),
       (2, ⟨(some 19), none, .no, .no, [0, 1], [21, 22, 23, 24], .ia 4 (.t 17) (.t 18)⟩),
       (3, ⟨(some 20), none, .no, .no, [0, 1, 2], [21, 22, 23, 24], .ld true 4 (.t 19)⟩),
       (4, ⟨(some 21), none, .no, .no, [], [17, 18, 19, 20, 22], .mv (.t 1)⟩),
       (5, ⟨(some 22), none, .no, .no, [], [17, 18, 19, 20, 21], .mv (.t 5)⟩),
       (6, ⟨(some 23), none, .no, .no, [4, 5], [17, 18, 19, 20], .ia 4 (.t 21) (.t 22)⟩),
       (7, ⟨(some 24), none, .no, .no, [4, 5, 6], [17, 18, 19, 20], .ld true 4 (.t 23)⟩),
       (8, ⟨(some 25), none, .no, .all, [0, 1, 2, 3, 4, 5, 6, 7], [], .call 79 [(false, (.t 20)), (false, (.t 24))]⟩),
       (9, ⟨(some 26), none, .no, .no, [0, 1, 2, 3, 4, 5, 6, 7, 8], [], .un .not (.t 25)⟩)] [0, 1, 5, 26])
     (.cond (.t 26) (.seq (.ops [o 4 (.mv (.k (.s (.c (.val (.bool false))))))] [4])
       (.ret))
      (.skip))))
   (.ops [o 15 (.mv (.t 5)),
     o 16 (.bin .add (.t 15) (.k (.s (.c (.val (.int .i64 1)))))),
     o 5 (.mv (.t 16))] [0, 1, 5]))
def b_laws_eqTermS : PC :=
  .seq (.ops [o 4 (.mv (.k (.s (.c (.val (.bool false))))))] [0, 1])
  (.seq (.seq (.ops [o 6 (.mv (.t 0)),
      o 7 (.len false (.t 6)),
      o 8 (.mv (.t 1)),
      o 9 (.len false (.t 8)),
      o 10 (.bin .neq (.t 7) (.t 9))] [0, 1, 10])
    (.cond (.t 10) (.seq (.ops [o 4 (.mv (.k (.s (.c (.val (.bool false))))))] [4])
      (.ret))
     (.skip)))
   (.seq (.seq (.ops [o 5 (.mv (.k (.s (.c (.val (.int .i64 0))))))] [0, 1, 5])
     (.block 0
      (.loop [0, 1, 5] l1_laws_eqTermS)))
    (.seq (.ops [o 4 (.mv (.k (.s (.c (.val (.bool true))))))] [4])
     (.ret))))
def c_laws_eqTermS : PFunc := ⟨2, 27, b_laws_eqTermS, [.t 4]⟩
def l1_laws_eqIntS : PC :=
  .seq (.seq (.ops [o 11 (.mv (.t 5)),
     o 12 (.mv (.t 0)),
     o 13 (.len false (.t 12)),
     o 14 (.bin .lss (.t 11) (.t 13))] [0, 1, 5, 14])
   (.cond (.t 14) (.skip)
    (.exit 0)))
  (.seq (.block 1
    (.seq (.dops [(0, ⟨(some 17), none, .no, .no, [], [18, 21, 22, 23, 24], .mv (.t 0)⟩),
       (1, ⟨(some 18), none, .no, .no, [], [17, 21, 22, 23, 24], .mv (.t 5)⟩),
       (2, ⟨(some 19), none, .no, .no, [0, 1], [21, 22, 23, 24], .ia 1 (.t 17) (.t 18)⟩),
       (3, ⟨(some 20), none, .no, .no, [0, 1, 2], [21, 22, 23, 24], .ld false 1 (.t 19)⟩),
       (4, ⟨(some 21), none, .no, .no, [], [17, 18, 19, 20, 22], .mv (.t 1)⟩),
       (5, ⟨(some 22), none, .no, .no, [], [17, 18, 19, 20, 21], .mv (.t 5)⟩),
       (6, ⟨(some 23), none, .no, .no, [4, 5], [17, 18, 19, 20], .ia 1 (.t 21) (.t 22)⟩),
       (7, ⟨(some 24), none, .no, .no, [4, 5, 6], [17, 18, 19, 20], .ld false 1 (.t 23)⟩),
       (8, ⟨(some 25), none, .no, .no, [0, 1, 2, 3, 4, 5, 6, 7], [], .bin .neq (.t 20) (.t 24)⟩)] [0, 1, 5, 25])
     (.cond (.t 25) (.seq (.ops [o 4 (.mv (.k (.s (.c (.val (.bool false))))))] [4])
       (.ret))
      (.skip))))
   (.ops [o 15 (.mv (.t 5)),
     o 16 (.bin .add (.t 15) (.k (.s (.c (.val (.int .i64 1)))))),
     o 5 (.mv (.t 16))] [0, 1, 5]))
def b_laws_eqIntS : PC :=
  .seq (.ops [o 4 (.mv (.k (.s (.c (.val (.bool false))))))] [0, 1])
  (.seq (.seq (.ops [o 6 (.mv (.t 0)),
      o 7 (.len false (.t 6)),
      o 8 (.mv (.t 1)),
      o 9 (.len false (.t 8)),
      o 10 (.bin .neq (.t 7) (.t 9))] [0, 1, 10])
    (.cond (.t 10) (.seq (.ops [o 4 (.mv (.k (.s (.c (.val (.bool false))))))] [4])
      (.ret))
     (.skip)))
   (.seq (.seq (.ops [o 5 (.mv (.k (.s (.c (.val (.int .i64 0))))))] [0, 1, 5])
     (.block 0
      (.loop [0, 1, 5] l1_laws_eqIntS)))
    (.seq (.ops [o 4 (.mv (.k (.s (.c (.val (.bool true))))))] [4])
     (.ret))))
def c_laws_eqIntS : PFunc := ⟨2, 26, b_laws_eqIntS, [.t 4]⟩
def b_laws_intactTermS : PC :=
  .seq (.ops [o 4 (.mv (.k (.s (.c (.val (.bool false))))))] [0, 1])
  (.seq (.ops [o 6 (.mv (.t 1)),
     o 7 (.len false (.t 6)),
     o 8 (.mv (.t 1)),
     o 9 (.len false (.t 8)),
     o 10 (.call 19 [(false, (.t 9))]),
     o 11 (.bin .add (.t 7) (.t 10)),
     o 5 (.mv (.t 11))] [0, 1, 5])
   (.seq (.dops [(0, ⟨(some 12), none, .no, .no, [], [14, 15], .mv (.t 0)⟩),
      (1, ⟨(some 13), none, .no, .no, [0], [14, 15], .len false (.t 12)⟩),
      (2, ⟨(some 14), none, .no, .no, [], [12, 13], .mv (.t 1)⟩),
      (3, ⟨(some 15), none, .no, .no, [2], [12, 13], .len false (.t 14)⟩),
      (4, ⟨(some 16), none, .no, .no, [0, 1, 2, 3], [], .bin .eql (.t 13) (.t 15)⟩),
      (5, ⟨(some 17), none, .no, .no, [0, 1, 2, 3, 4], [], .mv (.t 16)⟩),
      (6, ⟨(some 18), (some (17, true)), .no, .no, [0, 1, 2, 3, 4, 5], [19, 21, 22, 23], .mv (.t 0)⟩),
      (7, ⟨(some 19), (some (17, true)), .no, .no, [0, 1, 2, 3, 4, 5], [18, 21, 22, 23], .mv (.t 5)⟩),
      (8, ⟨(some 20), (some (17, true)), .no, .no, [0, 1, 2, 3, 4, 5, 6, 7], [21, 22, 23], .slc 4 (.t 18) none (some (.t 19))⟩),
      (9, ⟨(some 21), (some (17, true)), .no, .no, [0, 1, 2, 3, 4, 5], [18, 19, 20, 22], .mv (.t 1)⟩),
      (10, ⟨(some 22), (some (17, true)), .no, .no, [0, 1, 2, 3, 4, 5], [18, 19, 20, 21], .mv (.t 5)⟩),
      (11, ⟨(some 23), (some (17, true)), .no, .no, [0, 1, 2, 3, 4, 5, 9, 10], [18, 19, 20], .slc 4 (.t 21) none (some (.t 22))⟩),
      (12, ⟨(some 24), (some (17, true)), .no, .all, [0, 1, 2, 3, 4, 5, 6, 7, 8, 9, 10, 11], [], .call 66 [(false, (.t 20)), (false, (.t 23))]⟩),
      (13, ⟨(some 25), none, .no, .no, [0, 1, 2, 3, 4, 5, 6, 7, 8, 9, 10, 11, 12], [], .pick (.t 17) (.t 24) (.k (.s (.c (.val (.bool false)))))⟩),
      (14, ⟨(some 4), none, .no, .no, [0, 1, 2, 3, 4, 5, 6, 7, 8, 9, 10, 11, 12, 13], [], .mv (.t 25)⟩)] [4])
    (.ret)))
def c_laws_intactTermS : PFunc := ⟨2, 26, b_laws_intactTermS, [.t 4]⟩
def b_laws_intactIntS : PC :=
  .seq (.ops [o 4 (.mv (.k (.s (.c (.val (.bool false))))))] [0, 1])
  (.seq (.ops [o 6 (.mv (.t 1)),
     o 7 (.len false (.t 6)),
     o 8 (.mv (.t 1)),
     o 9 (.len false (.t 8)),
     o 10 (.call 19 [(false, (.t 9))]),
     o 11 (.bin .add (.t 7) (.t 10)),
     o 5 (.mv (.t 11))] [0, 1, 5])
   (.seq (.dops [(0, ⟨(some 12), none, .no, .no, [], [14, 15], .mv (.t 0)⟩),
      (1, ⟨(some 13), none, .no, .no, [0], [14, 15], .len false (.t 12)⟩),
      (2, ⟨(some 14), none, .no, .no, [], [12, 13], .mv (.t 1)⟩),
      (3, ⟨(some 15), none, .no, .no, [2], [12, 13], .len false (.t 14)⟩),
      (4, ⟨(some 16), none, .no, .no, [0, 1, 2, 3], [], .bin .eql (.t 13) (.t 15)⟩),
      (5, ⟨(some 17), none, .no, .no, [0, 1, 2, 3, 4], [], .mv (.t 16)⟩),
      (6, ⟨(some 18), (some (17, true)), .no, .no, [0, 1, 2, 3, 4, 5], [19, 21, 22, 23], .mv (.t 0)⟩),
      (7, ⟨(some 19), (some (17, true)), .no, .no, [0, 1, 2, 3, 4, 5], [18, 21, 22, 23], .mv (.t 5)⟩),
      (8, ⟨(some 20), (some (17, true)), .no, .no, [0, 1, 2, 3, 4, 5, 6, 7], [21, 22, 23], .slc 1 (.t 18) none (some (.t 19))⟩),
      (9, ⟨(some 21), (some (17, true)), .no, .no, [0, 1, 2, 3, 4, 5], [18, 19, 20, 22], .mv (.t 1)⟩),
      (10, ⟨(some 22), (some (17, true)), .no, .no, [0, 1, 2, 3, 4, 5], [18, 19, 20, 21], .mv (.t 5)⟩),
      (11, ⟨(some 23), (some (17, true)), .no, .no, [0, 1, 2, 3, 4, 5, 9, 10], [18, 19, 20], .slc 1 (.t 21) none (some (.t 22))⟩),
      (12, ⟨(some 24), (some (17, true)), .no, .all, [0, 1, 2, 3, 4, 5, 6, 7, 8, 9, 10, 11], [], .call 67 [(false, (.t 20)), (false, (.t 23))]⟩),
      (13, ⟨(some 25), none, .no, .no, [0, 1, 2, 3, 4, 5, 6, 7, 8, 9, 10, 11, 12], [], .pick (.t 17) (.t 24) (.k (.s (.c (.val (.bool false)))))⟩),
      (14, ⟨(some 4), none, .no, .no, [0, 1, 2, 3, 4, 5, 6, 7, 8, 9, 10, 11, 12, 13], [], .mv (.t 25)⟩)] [4])
    (.ret)))
def c_laws_intactIntS : PFunc := ⟨2, 26, b_laws_intactIntS, [.t 4]⟩
def b_spec_l1In : PC :=
  .seq (.ops [o 6 (.mv (.k (.s (.c (.val (.bool false))))))] [0, 1, 2])
  (.seq (.ops [o 7 (.mv (.t 0)),
     o 8 (.mv (.t 1)),
     o 9 (.bin .geq (.t 7) (.t 8)),
     o 10 (.mv (.t 9)),
     ⟨(some 11), (some (10, true)), .no, .no, [], [], .mv (.t 0)⟩,
     ⟨(some 12), (some (10, true)), .no, .no, [], [], .mv (.t 2)⟩,
     ⟨(some 13), (some (10, true)), .no, .no, [], [], .bin .leq (.t 11) (.t 12)⟩,
     o 14 (.pick (.t 10) (.t 13) (.k (.s (.c (.val (.bool false)))))),
     o 6 (.mv (.t 14))] [6])
   (.ret))
def c_spec_l1In : PFunc := ⟨3, 15, b_spec_l1In, [.t 6]⟩
def l1_spec_caName : PC :=
  .seq (.seq (.ops [o 4 (.mv (.t 3)),
     o 5 (.mv (.t 0)),
     o 6 (.len true (.t 5)),
     o 7 (.bin .lss (.t 4) (.t 6))] [0, 3, 7])
   (.cond (.t 7) (.skip)
    (.exit 0)))
  (.seq (.block 1
    (.seq (.ops [o 10 (.mv (.t 0)),
       o 11 (.mv (.t 3)),
       o 12 (.ixs (.t 10) (.t 11)),
       o 13 (.bin .lss (.t 12) (.k (.s (.c (.val (.int .u8 97)))))),
       o 14 (.mv (.t 13)),
       ⟨(some 15), (some (14, false)), .no, .no, [], [], .mv (.t 0)⟩,
       ⟨(some 16), (some (14, false)), .no, .no, [], [], .mv (.t 3)⟩,
       ⟨(some 17), (some (14, false)), .no, .no, [], [], .ixs (.t 15) (.t 16)⟩,
       ⟨(some 18), (some (14, false)), .no, .no, [], [], .bin .gtr (.t 17) (.k (.s (.c (.val (.int .u8 122)))))⟩,
       o 19 (.pick (.t 14) (.k (.s (.c (.val (.bool true))))) (.t 18))] [0, 3, 19])
     (.cond (.t 19) (.seq (.ops [o 2 (.mv (.k (.s (.c (.val (.bool false))))))] [2])
       (.ret))
      (.skip))))
   (.ops [o 8 (.mv (.t 3)),
     o 9 (.bin .add (.t 8) (.k (.s (.c (.val (.int .i64 1)))))),
     o 3 (.mv (.t 9))] [0, 3]))
def b_spec_caName : PC :=
  .seq (.ops [o 2 (.mv (.k (.s (.c (.val (.bool false))))))] [0])
  (.seq (.seq (.ops [o 3 (.mv (.k (.s (.c (.val (.int .i64 0))))))] [0, 3])
    (.block 0
     (.loop [0, 3] l1_spec_caName)))
   (.seq (.ops [o 20 (.mv (.t 0)),
      o 21 (.len true (.t 20)),
      o 22 (.call 14 [(false, (.t 21)), (false, (.k (.s (.c (.val (.int .i64 1)))))), (false, (.k (.s (.c (.val (.int .i64 8))))))]),
      o 2 (.mv (.t 22))] [2])
    (.ret)))
def c_spec_caName : PFunc := ⟨1, 23, b_spec_caName, [.t 2]⟩
def b_spec_vaBoth : PC :=
  .seq (.ops [o 3 (.box (.t 1)),
    o 4 (.mv (.k (.s (.c (.val (.bool false))))))] [0, 3])
  (.seq (.ops [o 5 (.mv (.t 0)),
     o 6 (.call 56 [(false, (.t 5))]),
     o 7 (.mv (.t 6)),
     ⟨(some 8), (some (7, true)), .no, .no, [], [], .ld true 3 (.t 3)⟩,
     ⟨(some 9), (some (7, true)), .no, .no, [], [], .call 57 [(false, (.t 8))]⟩,
     o 10 (.pick (.t 7) (.t 9) (.k (.s (.c (.val (.bool false)))))),
     o 11 (.mv (.t 10)),
     ⟨(some 12), (some (11, true)), .no, .no, [], [], .mv (.t 0)⟩,
     ⟨(some 13), (some (11, true)), .no, .no, [], [], .len false (.t 12)⟩,
     ⟨(some 14), (some (11, true)), .no, .no, [], [], .fa 1 (.t 3)⟩,
     ⟨(some 15), (some (11, true)), .no, .no, [], [], .ld false 1 (.t 14)⟩,
     ⟨(some 16), (some (11, true)), .no, .no, [], [], .len false (.t 15)⟩,
     ⟨(some 17), (some (11, true)), .no, .no, [], [], .bin .eql (.t 13) (.t 16)⟩,
     o 18 (.pick (.t 11) (.t 17) (.k (.s (.c (.val (.bool false)))))),
     o 4 (.mv (.t 18))] [4])
   (.ret))
def c_spec_vaBoth : PFunc := ⟨2, 19, b_spec_vaBoth, [.t 4]⟩
def l1_spec_caSystem : PC :=
  .seq (.ops [o 9 (.bin .lss (.t 8) (.t 7))] [3, 6, 7, 8, 9])
  (.seq (.cond (.t 9) (.skip)
    (.exit 0))
   (.seq (.block 1
     (.seq (.ops [o 10 (.ia 1 (.t 6) (.t 8)),
        o 11 (.ld false 1 (.t 10)),
        o 5 (.mv (.t 11))] [3, 5, 6, 7, 8])
      (.ops [o 12 (.mv (.t 3)),
        o 13 (.bs (.fl 4) []),
        o 14 (.mv (.t 5)),
        o 15 (.app (.fl 4) 32 (.t 13) (.t 14)),
        o 16 (.bs (.sl 1) [(.t 15)]),
        o 17 (.app (.sl 1) 24 (.t 12) (.t 16)),
        o 3 (.mv (.t 17))] [3, 6, 7, 8])))
    (.ops [o 18 (.bin .add (.t 8) (.k (.s (.c (.val (.int .i64 1)))))),
      o 8 (.mv (.t 18))] [3, 6, 7, 8])))
def b_spec_caSystem : PC :=
  .seq (.ops [o 2 (.mkn (.sl 1))] [0])
  (.seq (.ops [o 3 (.mkn (.sl 1))] [0, 3])
   (.seq (.seq (.ops [o 6 (.mv (.t 0)),
       o 7 (.len false (.t 6)),
       o 8 (.mv (.k (.s (.c (.val (.int .i64 0))))))] [3, 6, 7, 8])
     (.block 0
      (.loop [3, 6, 7, 8] l1_spec_caSystem)))
    (.seq (.ops [o 19 (.mv (.t 3)),
       o 2 (.mv (.t 19))] [2])
     (.ret))))
def c_spec_caSystem : PFunc := ⟨1, 20, b_spec_caSystem, [.t 2]⟩
def b_spec_l1Own : PC :=
  .seq (.ops [o 2 (.mkn (.fl 1))] [0])
  (.seq (.ops [o 3 (.bs (.fl 1) []),
     o 4 (.mv (.t 0)),
     o 5 (.app (.fl 1) 8 (.t 3) (.t 4)),
     o 2 (.mv (.t 5))] [2])
   (.ret))
def c_spec_l1Own : PFunc := ⟨1, 6, b_spec_l1Own, [.t 2]⟩
def l1_spec_l1Same : PC :=
  .seq (.ops [o 14 (.bin .lss (.t 13) (.t 12))] [0, 1, 12, 13, 14])
  (.seq (.cond (.t 14) (.skip)
    (.exit 0))
   (.seq (.block 1
     (.seq (.ops [o 15 (.mv (.t 13)),
        o 5 (.mv (.t 15))] [0, 1, 5, 12, 13])
      (.seq (.dops [(0, ⟨(some 16), none, .no, .no, [], [17, 20, 21, 22, 23], .mv (.t 0)⟩),
         (1, ⟨(some 17), none, .no, .no, [], [16, 20, 21, 22, 23], .mv (.t 5)⟩),
         (2, ⟨(some 18), none, .no, .no, [0, 1], [20, 21, 22, 23], .ia 1 (.t 16) (.t 17)⟩),
         (3, ⟨(some 19), none, .no, .no, [0, 1, 2], [20, 21, 22, 23], .ld false 1 (.t 18)⟩),
         (4, ⟨(some 20), none, .no, .no, [], [16, 17, 18, 19, 21], .mv (.t 1)⟩),
         (5, ⟨(some 21), none, .no, .no, [], [16, 17, 18, 19, 20], .mv (.t 5)⟩),
         (6, ⟨(some 22), none, .no, .no, [4, 5], [16, 17, 18, 19], .ia 1 (.t 20) (.t 21)⟩),
         (7, ⟨(some 23), none, .no, .no, [4, 5, 6], [16, 17, 18, 19], .ld false 1 (.t 22)⟩),
         (8, ⟨(some 24), none, .no, .no, [0, 1, 2, 3, 4, 5, 6, 7], [], .bin .neq (.t 19) (.t 23)⟩)] [0, 1, 12, 13, 24])
       (.cond (.t 24) (.seq (.ops [o 4 (.mv (.k (.s (.c (.val (.bool false))))))] [4])
         (.ret))
        (.skip)))))
    (.ops [o 25 (.bin .add (.t 13) (.k (.s (.c (.val (.int .i64 1)))))),
      o 13 (.mv (.t 25))] [0, 1, 12, 13])))
def b_spec_l1Same : PC :=
  .seq (.ops [o 4 (.mv (.k (.s (.c (.val (.bool false))))))] [0, 1])
  (.seq (.seq (.ops [o 6 (.mv (.t 0)),
      o 7 (.len false (.t 6)),
      o 8 (.mv (.t 1)),
      o 9 (.len false (.t 8)),
      o 10 (.bin .neq (.t 7) (.t 9))] [0, 1, 10])
    (.cond (.t 10) (.seq (.ops [o 4 (.mv (.k (.s (.c (.val (.bool false))))))] [4])
      (.ret))
     (.skip)))
   (.seq (.seq (.ops [o 11 (.mv (.t 0)),
       o 12 (.len false (.t 11)),
       o 13 (.mv (.k (.s (.c (.val (.int .i64 0))))))] [0, 1, 12, 13])
     (.block 0
      (.loop [0, 1, 12, 13] l1_spec_l1Same)))
    (.seq (.ops [o 4 (.mv (.k (.s (.c (.val (.bool true))))))] [4])
     (.ret))))
def c_spec_l1Same : PFunc := ⟨2, 26, b_spec_l1Same, [.t 4]⟩
def l1_spec_txSame : PC :=
  .seq (.ops [o 15 (.bin .lss (.t 14) (.t 13))] [1, 12, 13, 14, 15])
  (.seq (.cond (.t 15) (.skip)
    (.exit 0))
   (.seq (.block 1
     (.seq (.ops [o 16 (.mv (.t 14)),
        o 17 (.ia 4 (.t 12) (.t 14)),
        o 18 (.ld true 4 (.t 17)),
        o 6 (.alloc [.c (.val (.int .i64 0)), .c (.val (.int .i64 0)), .c (.val (.int .i64 0)), .c (.val (.int .i64 0))]),
        o 5 (.mv (.t 16)),
        u (.st 4 (.t 6) (.t 18))] [1, 5, 6, 12, 13, 14])
      (.seq (.dops [(0, ⟨(some 19), none, .no, .no, [], [20, 21, 22, 23], .ld true 4 (.t 6)⟩),
         (1, ⟨(some 20), none, .no, .no, [], [19, 21], .mv (.t 1)⟩),
         (2, ⟨(some 21), none, .no, .no, [], [19, 20], .mv (.t 5)⟩),
         (3, ⟨(some 22), none, .no, .no, [1, 2], [19], .ia 4 (.t 20) (.t 21)⟩),
         (4, ⟨(some 23), none, .no, .no, [1, 2, 3], [19], .ld true 4 (.t 22)⟩),
         (5, ⟨(some 24), none, .no, .no, [0, 1, 2, 3, 4], [], .eqs true [0, 0, 0, 0] (.t 19) (.t 23)⟩)] [1, 12, 13, 14, 24])
       (.cond (.t 24) (.seq (.ops [o 4 (.mv (.k (.s (.c (.val (.bool false))))))] [4])
         (.ret))
        (.skip)))))
    (.ops [o 25 (.bin .add (.t 14) (.k (.s (.c (.val (.int .i64 1)))))),
      o 14 (.mv (.t 25))] [1, 12, 13, 14])))
def b_spec_txSame : PC :=
  .seq (.ops [o 4 (.mv (.k (.s (.c (.val (.bool false))))))] [0, 1])
  (.seq (.seq (.ops [o 7 (.mv (.t 0)),
      o 8 (.len false (.t 7)),
      o 9 (.mv (.t 1)),
      o 10 (.len false (.t 9)),
      o 11 (.bin .neq (.t 8) (.t 10))] [0, 1, 11])
    (.cond (.t 11) (.seq (.ops [o 4 (.mv (.k (.s (.c (.val (.bool false))))))] [4])
      (.ret))
     (.skip)))
   (.seq (.seq (.ops [o 12 (.mv (.t 0)),
       o 13 (.len false (.t 12)),
       o 14 (.mv (.k (.s (.c (.val (.int .i64 0))))))] [1, 12, 13, 14])
     (.block 0
      (.loop [1, 12, 13, 14] l1_spec_txSame)))
    (.seq (.ops [o 4 (.mv (.k (.s (.c (.val (.bool true))))))] [4])
     (.ret))))
def c_spec_txSame : PFunc := ⟨2, 26, b_spec_txSame, [.t 4]⟩
def b_impl_inside : PC :=
  .seq (.ops [o 6 (.mv (.k (.s (.c (.val (.bool false))))))] [0, 1, 2])
  (.seq (.ops [o 7 (.mv (.t 0)),
     o 8 (.mv (.t 1)),
     o 9 (.bin .geq (.t 7) (.t 8)),
     o 10 (.mv (.t 9)),
     ⟨(some 11), (some (10, true)), .no, .no, [], [], .mv (.t 0)⟩,
     ⟨(some 12), (some (10, true)), .no, .no, [], [], .mv (.t 2)⟩,
     ⟨(some 13), (some (10, true)), .no, .no, [], [], .bin .leq (.t 11) (.t 12)⟩,
     o 14 (.pick (.t 10) (.t 13) (.k (.s (.c (.val (.bool false)))))),
     o 6 (.mv (.t 14))] [6])
   (.ret))
def c_impl_inside : PFunc := ⟨3, 15, b_impl_inside, [.t 6]⟩
def b_impl_systemOver : PC :=
  .seq (.ops [o 4 (.mv (.k (.s (.c (.val (.bool false))))))] [0, 1])
  (.seq (.ops [o 5 (.mv (.t 0)),
     o 6 (.call 74 [(false, (.t 5))]),
     o 7 (.mv (.t 6)),
     ⟨(some 8), (some (7, true)), .no, .no, [], [], .mv (.t 1)⟩,
     ⟨(some 9), (some (7, true)), .no, .no, [], [], .call 75 [(false, (.t 8))]⟩,
     o 10 (.pick (.t 7) (.t 9) (.k (.s (.c (.val (.bool false)))))),
     o 11 (.mv (.t 10)),
     ⟨(some 12), (some (11, true)), .no, .no, [], [], .mv (.t 0)⟩,
     ⟨(some 13), (some (11, true)), .no, .no, [], [], .len false (.t 12)⟩,
     ⟨(some 14), (some (11, true)), .no, .no, [], [], .mv (.t 1)⟩,
     ⟨(some 15), (some (11, true)), .no, .no, [], [], .nchk (.t 14)⟩,
     ⟨(some 16), (some (11, true)), .no, .no, [], [], .fa 1 (.t 15)⟩,
     ⟨(some 17), (some (11, true)), .no, .no, [], [], .ld false 1 (.t 16)⟩,
     ⟨(some 18), (some (11, true)), .no, .no, [], [], .len false (.t 17)⟩,
     ⟨(some 19), (some (11, true)), .no, .no, [], [], .bin .eql (.t 13) (.t 18)⟩,
     o 20 (.pick (.t 11) (.t 19) (.k (.s (.c (.val (.bool false)))))),
     o 4 (.mv (.t 20))] [4])
   (.ret))
def c_impl_systemOver : PFunc := ⟨2, 21, b_impl_systemOver, [.t 4]⟩
def b_strings_Compare : PC :=
  .seq (.ops [o 4 (.mv (.k (.s (.c (.val (.int .i64 0))))))] [0, 1])
  (.seq (.ops [o 5 (.mv (.t 0)),
     o 6 (.mv (.t 1)),
     o 7 (.call 76 [(false, (.t 5)), (false, (.t 6))]),
     o 4 (.mv (.t 7))] [4])
   (.ret))
def c_strings_Compare : PFunc := ⟨2, 8, b_strings_Compare, [.t 4]⟩
def b_impl_compareBoxes : PC :=
  .seq (.ops [o 2 (.box (.t 0)),
    o 3 (.box (.t 1)),
    o 4 (.mv (.k (.s (.c (.val (.int .i64 0))))))] [2, 3])
  (.seq (.ops [o 9 (.call 167 [(false, (.t 2)), (false, (.t 3))]),
     o 8 (.mvt 9),
     o 10 (.ext 8 0),
     o 11 (.ext 8 1),
     o 12 (.ext 8 2),
     o 6 (.alloc [.c (.val (.int .i64 0)), .nil (.fl 1), .nil (.fl 1)]),
     o 7 (.alloc [.c (.val (.int .i64 0)), .nil (.fl 1), .nil (.fl 1)]),
     o 5 (.mv (.t 10)),
     u (.st 3 (.t 6) (.t 11)),
     u (.st 3 (.t 7) (.t 12))] [6, 7])
   (.seq (.dops [(0, ⟨(some 13), none, .no, .no, [], [15, 16, 18, 19, 20, 21], .fa 1 (.t 6)⟩),
      (1, ⟨(some 14), none, .no, .no, [0], [15, 16, 18, 19, 20, 21], .ld false 1 (.t 13)⟩),
      (2, ⟨(some 15), none, .no, .no, [], [13, 14, 18, 19, 20, 21], .fa 1 (.t 7)⟩),
      (3, ⟨(some 16), none, .no, .no, [2], [13, 14, 18, 19, 20, 21], .ld false 1 (.t 15)⟩),
      (5, ⟨(some 18), none, .no, .no, [], [13, 14, 15, 16, 17, 20, 21], .fa 2 (.t 6)⟩),
      (6, ⟨(some 19), none, .no, .no, [4], [13, 14, 15, 16, 17, 20, 21], .ld false 1 (.t 18)⟩),
      (7, ⟨(some 20), none, .no, .no, [], [13, 14, 15, 16, 17, 18, 19], .fa 2 (.t 7)⟩),
      (8, ⟨(some 21), none, .no, .no, [6], [13, 14, 15, 16, 17, 18, 19], .ld false 1 (.t 20)⟩),
      (4, ⟨(some 17), none, .no, .no, [0, 1, 2, 3], [18, 19, 20, 21], .call 168 [(false, (.t 14)), (false, (.t 16))]⟩),
      (9, ⟨(some 22), none, .no, .all, [0, 1, 2, 3, 4, 5, 6, 7, 8], [], .call 168 [(false, (.t 19)), (false, (.t 21))]⟩),
      (10, ⟨(some 23), none, .no, .all, [0, 1, 2, 3, 4, 5, 6, 7, 8, 9], [], .bs (.fl 1) [(.t 17), (.t 22)]⟩),
      (11, ⟨(some 24), none, .no, .all, [0, 1, 2, 3, 4, 5, 6, 7, 8, 9, 10], [], .call 92 [(false, (.t 23))]⟩),
      (12, ⟨(some 4), none, .no, .no, [0, 1, 2, 3, 4, 5, 6, 7, 8, 9, 10, 11], [], .mv (.t 24)⟩)] [4])
    (.ret)))
def c_impl_compareBoxes : PFunc := ⟨2, 25, b_impl_compareBoxes, [.t 4]⟩
def b_laws_toTerm : PC :=
  .seq (.ops [o 1 (.box (.t 0)),
    o 2 (.alloc [.c (.val (.int .i64 0)), .c (.val (.int .i64 0)), .c (.val (.int .i64 0)), .c (.val (.int .i64 0))])] [1, 2])
  (.seq (.ops [o 3 (.alloc [.c (.val (.int .i64 0)), .c (.val (.int .i64 0)), .c (.val (.int .i64 0)), .c (.val (.int .i64 0))])] [1, 2, 3])
   (.seq (.ops [o 4 (.fa 0 (.t 1)),
      o 5 (.ld false 1 (.t 4)),
      o 6 (.fa 0 (.t 3)),
      u (.st 1 (.t 6) (.t 5))] [1, 2, 3])
    (.seq (.ops [o 7 (.fa 1 (.t 1)),
       o 8 (.ld false 1 (.t 7)),
       o 9 (.fa 1 (.t 3)),
       u (.st 1 (.t 9) (.t 8))] [1, 2, 3])
     (.seq (.ops [o 10 (.fa 2 (.t 1)),
        o 11 (.ld false 1 (.t 10)),
        o 12 (.fa 2 (.t 3)),
        u (.st 1 (.t 12) (.t 11))] [1, 2, 3])
      (.seq (.ops [o 13 (.fa 3 (.t 1)),
         o 14 (.ld false 1 (.t 13)),
         o 15 (.fa 3 (.t 3)),
         u (.st 1 (.t 15) (.t 14))] [2, 3])
       (.seq (.ops [o 16 (.ld true 4 (.t 3)),
          u (.st 4 (.t 2) (.t 16))] [2])
        (.ret)))))))
def c_laws_toTerm : PFunc := ⟨1, 17, b_laws_toTerm, [.cell 2 true 4]⟩
def b_laws_eqTerm : PC :=
  .seq (.ops [o 2 (.box (.t 0)),
    o 3 (.box (.t 1)),
    o 4 (.mv (.k (.s (.c (.val (.bool false))))))] [2, 3])
  (.seq (.seq (.ops [o 5 (.fa 0 (.t 2)),
      o 6 (.ld false 1 (.t 5)),
      o 7 (.fa 0 (.t 3)),
      o 8 (.ld false 1 (.t 7)),
      o 9 (.bin .neq (.t 6) (.t 8))] [2, 3, 9])
    (.cond (.t 9) (.seq (.ops [o 4 (.mv (.k (.s (.c (.val (.bool false))))))] [4])
      (.ret))
     (.skip)))
   (.seq (.seq (.ops [o 10 (.fa 1 (.t 2)),
       o 11 (.ld false 1 (.t 10)),
       o 12 (.fa 1 (.t 3)),
       o 13 (.ld false 1 (.t 12)),
       o 14 (.bin .neq (.t 11) (.t 13))] [2, 3, 14])
     (.cond (.t 14) (.seq (.ops [o 4 (.mv (.k (.s (.c (.val (.bool false))))))] [4])
       (.ret))
      (.skip)))
    (.seq (.seq (.ops [o 15 (.fa 2 (.t 2)),
        o 16 (.ld false 1 (.t 15)),
        o 17 (.fa 2 (.t 3)),
        o 18 (.ld false 1 (.t 17)),
        o 19 (.bin .neq (.t 16) (.t 18))] [2, 3, 19])
      (.cond (.t 19) (.seq (.ops [o 4 (.mv (.k (.s (.c (.val (.bool false))))))] [4])
        (.ret))
       (.skip)))
     (.seq (.seq (.ops [o 20 (.fa 3 (.t 2)),
         o 21 (.ld false 1 (.t 20)),
         o 22 (.fa 3 (.t 3)),
         o 23 (.ld false 1 (.t 22)),
         o 24 (.bin .neq (.t 21) (.t 23))] [24])
       (.cond (.t 24) (.seq (.ops [o 4 (.mv (.k (.s (.c (.val (.bool false))))))] [4])
         (.ret))
        (.skip)))
      (.seq (.ops [o 4 (.mv (.k (.s (.c (.val (.bool true))))))] [4])
       (.ret))))))
def c_laws_eqTerm : PFunc := ⟨2, 25, b_laws_eqTerm, [.t 4]⟩
def l1_spec_poSystem : PC :=
  .seq (.seq (.ops [o 17 (.mv (.t 5)),
     o 18 (.bin .lss (.t 17) (.k (.s (.c (.val (.int .i64 3))))))] [0, 4, 5, 6, 7, 8, 18])
   (.cond (.t 18) (.skip)
    (.exit 2)))
  (.seq (.block 3
    (.seq (.ops [o 21 (.mv (.t 4)),
       o 22 (.mv (.t 5)),
       o 23 (.call 71 [(false, (.t 21)), (false, (.t 22))]),
       o 24 (.bin .gtr (.t 23) (.k (.s (.c (.val (.int .i64 0))))))] [0, 4, 5, 6, 7, 8, 24])
     (.cond (.t 24) (.seq (.ops [o 2 (.mv (.k (.s (.c (.val (.bool false))))))] [2])
       (.ret))
      (.skip))))
   (.ops [o 19 (.mv (.t 5)),
     o 20 (.bin .add (.t 19) (.k (.s (.c (.val (.int .i64 1)))))),
     o 5 (.mv (.t 20))] [0, 4, 5, 6, 7, 8]))
def l2_spec_poSystem : PC :=
  .seq (.ops [o 9 (.bin .lss (.t 8) (.t 7))] [0, 6, 7, 8, 9])
  (.seq (.cond (.t 9) (.skip)
    (.exit 0))
   (.seq (.block 1
     (.seq (.ops [o 10 (.ia 1 (.t 6) (.t 8)),
        o 11 (.ld false 1 (.t 10)),
        o 4 (.mv (.t 11))] [0, 4, 6, 7, 8])
      (.seq (.seq (.ops [o 12 (.mv (.t 4)),
          o 13 (.call 70 [(false, (.t 12))]),
          o 14 (.un .not (.t 13))] [0, 4, 6, 7, 8, 14])
        (.cond (.t 14) (.seq (.ops [o 2 (.mv (.k (.s (.c (.val (.bool false))))))] [2])
          (.ret))
         (.skip)))
       (.seq (.ops [o 15 (.mv (.t 0)),
          o 16 (.len false (.t 15)),
          o 5 (.mv (.t 16))] [0, 4, 5, 6, 7, 8])
        (.block 2
         (.loop [0, 4, 5, 6, 7, 8] l1_spec_poSystem))))))
    (.ops [o 25 (.bin .add (.t 8) (.k (.s (.c (.val (.int .i64 1)))))),
      o 8 (.mv (.t 25))] [0, 6, 7, 8])))
def b_spec_poSystem : PC :=
  .seq (.ops [o 2 (.mv (.k (.s (.c (.val (.bool false))))))] [0])
  (.seq (.seq (.ops [o 6 (.mv (.t 0)),
      o 7 (.len false (.t 6)),
      o 8 (.mv (.k (.s (.c (.val (.int .i64 0))))))] [0, 6, 7, 8])
    (.block 0
     (.loop [0, 6, 7, 8] l2_spec_poSystem)))
   (.seq (.ops [o 26 (.mv (.t 0)),
      o 27 (.len false (.t 26)),
      o 28 (.call 14 [(false, (.t 27)), (false, (.k (.s (.c (.val (.int .i64 1)))))), (false, (.k (.s (.c (.val (.int .i64 3))))))]),
      o 2 (.mv (.t 28))] [2])
    (.ret)))
def c_spec_poSystem : PFunc := ⟨1, 29, b_spec_poSystem, [.t 2]⟩
def l1_spec_bxGood : PC :=
  .seq (.ops [o 39 (.bin .lss (.t 38) (.t 37))] [1, 3, 4, 36, 37, 38, 39])
  (.seq (.cond (.t 39) (.skip)
    (.exit 0))
   (.seq (.block 1
     (.seq (.ops [o 40 (.mv (.t 38)),
        o 41 (.ia 1 (.t 36) (.t 38)),
        o 42 (.ld false 1 (.t 41)),
        o 5 (.mv (.t 40)),
        o 6 (.mv (.t 42))] [1, 3, 4, 5, 6, 36, 37, 38])
      (.seq (.ops [o 43 (.fa 2 (.t 1)),
         o 44 (.ld false 1 (.t 43)),
         o 45 (.mv (.t 5)),
         o 46 (.ia 1 (.t 44) (.t 45)),
         o 47 (.ld false 1 (.t 46)),
         o 7 (.mv (.t 47))] [1, 3, 4, 6, 7, 36, 37, 38])
       (.seq (.seq (.ops [o 48 (.mv (.t 6)),
           o 49 (.mv (.t 3)),
           o 50 (.un .neg (.t 49)),
           o 51 (.mv (.t 3)),
           o 52 (.call 14 [(false, (.t 48)), (false, (.t 50)), (false, (.t 51))]),
           o 53 (.un .not (.t 52)),
           o 54 (.mv (.t 53)),
           ⟨(some 55), (some (54, false)), .no, .no, [], [], .mv (.t 7)⟩,
           ⟨(some 56), (some (54, false)), .no, .no, [], [], .mv (.t 3)⟩,
           ⟨(some 57), (some (54, false)), .no, .no, [], [], .un .neg (.t 56)⟩,
           ⟨(some 58), (some (54, false)), .no, .no, [], [], .mv (.t 3)⟩,
           ⟨(some 59), (some (54, false)), .no, .no, [], [], .call 14 [(false, (.t 55)), (false, (.t 57)), (false, (.t 58))]⟩,
           ⟨(some 60), (some (54, false)), .no, .no, [], [], .un .not (.t 59)⟩,
           o 61 (.pick (.t 54) (.k (.s (.c (.val (.bool true))))) (.t 60)),
           o 62 (.mv (.t 61)),
           ⟨(some 63), (some (62, false)), .no, .no, [], [], .mv (.t 6)⟩,
           ⟨(some 64), (some (62, false)), .no, .no, [], [], .mv (.t 7)⟩,
           ⟨(some 65), (some (62, false)), .no, .no, [], [], .bin .geq (.t 63) (.t 64)⟩,
           o 66 (.pick (.t 62) (.k (.s (.c (.val (.bool true))))) (.t 65))] [1, 3, 4, 6, 7, 36, 37, 38, 66])
         (.cond (.t 66) (.seq (.ops [o 2 (.mv (.k (.s (.c (.val (.bool false))))))] [2])
           (.ret))
          (.skip)))
        (.ops [o 67 (.mv (.t 4)),
          o 68 (.mv (.t 67)),
          ⟨(some 69), (some (68, false)), .no, .no, [], [], .mv (.t 6)⟩,
          ⟨(some 70), (some (68, false)), .no, .no, [], [], .bin .rem (.t 69) (.k (.s (.c (.val (.int .i64 2)))))⟩,
          ⟨(some 71), (some (68, false)), .no, .no, [], [], .bin .neq (.t 70) (.k (.s (.c (.val (.int .i64 0)))))⟩,
          o 72 (.pick (.t 68) (.k (.s (.c (.val (.bool true))))) (.t 71)),
          o 73 (.mv (.t 72)),
          ⟨(some 74), (some (73, false)), .no, .no, [], [], .mv (.t 7)⟩,
          ⟨(some 75), (some (73, false)), .no, .no, [], [], .bin .rem (.t 74) (.k (.s (.c (.val (.int .i64 2)))))⟩,
          ⟨(some 76), (some (73, false)), .no, .no, [], [], .bin .neq (.t 75) (.k (.s (.c (.val (.int .i64 0)))))⟩,
          o 77 (.pick (.t 73) (.k (.s (.c (.val (.bool true))))) (.t 76)),
          o 4 (.mv (.t 77))] [1, 3, 4, 36, 37, 38])))))
    (.ops [o 78 (.bin .add (.t 38) (.k (.s (.c (.val (.int .i64 1)))))),
      o 38 (.mv (.t 78))] [1, 3, 4, 36, 37, 38])))
def b_spec_bxGood : PC :=
  .seq (.ops [o 1 (.box (.t 0)),
    o 2 (.mv (.k (.s (.c (.val (.bool false))))))] [1])
  (.seq (.seq (.ops [o 8 (.fa 0 (.t 1)),
      o 9 (.ld false 1 (.t 8)),
      o 10 (.call 14 [(false, (.t 9)), (false, (.k (.s (.c (.val (.int .i64 0)))))), (false, (.k (.s (.c (.val (.int .i64 8))))))]),
      o 11 (.un .not (.t 10)),
      o 12 (.mv (.t 11)),
      ⟨(some 13), (some (12, false)), .no, .no, [], [], .fa 1 (.t 1)⟩,
      ⟨(some 14), (some (12, false)), .no, .no, [], [], .ld false 1 (.t 13)⟩,
      ⟨(some 15), (some (12, false)), .no, .no, [], [], .len false (.t 14)⟩,
      ⟨(some 16), (some (12, false)), .no, .no, [], [], .call 14 [(false, (.t 15)), (false, (.k (.s (.c (.val (.int .i64 1)))))), (false, (.k (.s (.c (.val (.int .i64 3))))))]⟩,
      ⟨(some 17), (some (12, false)), .no, .no, [], [], .un .not (.t 16)⟩,
      o 18 (.pick (.t 12) (.k (.s (.c (.val (.bool true))))) (.t 17)),
      o 19 (.mv (.t 18)),
      ⟨(some 20), (some (19, false)), .no, .no, [], [], .fa 2 (.t 1)⟩,
      ⟨(some 21), (some (19, false)), .no, .no, [], [], .ld false 1 (.t 20)⟩,
      ⟨(some 22), (some (19, false)), .no, .no, [], [], .len false (.t 21)⟩,
      ⟨(some 23), (some (19, false)), .no, .no, [], [], .fa 1 (.t 1)⟩,
      ⟨(some 24), (some (19, false)), .no, .no, [], [], .ld false 1 (.t 23)⟩,
      ⟨(some 25), (some (19, false)), .no, .no, [], [], .len false (.t 24)⟩,
      ⟨(some 26), (some (19, false)), .no, .no, [], [], .bin .neq (.t 22) (.t 25)⟩,
      o 27 (.pick (.t 19) (.k (.s (.c (.val (.bool true))))) (.t 26))] [1, 27])
    (.cond (.t 27) (.seq (.ops [o 2 (.mv (.k (.s (.c (.val (.bool false))))))] [2])
      (.ret))
     (.skip)))
   (.seq (.ops [o 28 (.fa 0 (.t 1)),
      o 29 (.ld false 1 (.t 28)),
      o 30 (.call 72 [(false, (.t 29))]),
      o 31 (.bin .mul (.k (.s (.c (.val (.int .i64 8))))) (.t 30)),
      o 3 (.mv (.t 31))] [1, 3])
    (.seq (.ops [o 32 (.fa 0 (.t 1)),
       o 33 (.ld false 1 (.t 32)),
       o 34 (.bin .eql (.t 33) (.k (.s (.c (.val (.int .i64 0)))))),
       o 4 (.mv (.t 34))] [1, 3, 4])
     (.seq (.seq (.ops [o 35 (.fa 1 (.t 1)),
         o 36 (.ld false 1 (.t 35)),
         o 37 (.len false (.t 36)),
         o 38 (.mv (.k (.s (.c (.val (.int .i64 0))))))] [1, 3, 4, 36, 37, 38])
       (.block 0
        (.loop [1, 3, 4, 36, 37, 38] l1_spec_bxGood)))
      (.seq (.ops [o 79 (.mv (.t 4)),
         o 2 (.mv (.t 79))] [2])
       (.ret))))))
def c_spec_bxGood : PFunc := ⟨1, 80, b_spec_bxGood, [.t 2]⟩
def l1_impl_isSystem : PC :=
  .seq (.ops [o 8 (.bin .lss (.t 7) (.t 6))] [0, 5, 6, 7, 8])
  (.seq (.cond (.t 8) (.skip)
    (.exit 0))
   (.seq (.block 1
     (.seq (.ops [o 9 (.ia 1 (.t 5) (.t 7)),
        o 10 (.ld false 1 (.t 9)),
        o 4 (.mv (.t 10))] [0, 4, 5, 6, 7])
      (.seq (.ops [o 11 (.mv (.t 4)),
         o 12 (.call 83 [(false, (.t 11))]),
         o 13 (.un .not (.t 12)),
         o 14 (.mv (.t 13)),
         ⟨(some 15), (some (14, false)), .no, .no, [], [], .mv (.t 4)⟩,
         ⟨(some 16), (some (14, false)), .no, .no, [], [], .mv (.t 0)⟩,
         ⟨(some 17), (some (14, false)), .no, .no, [], [], .len false (.t 16)⟩,
         ⟨(some 18), (some (14, false)), .no, .no, [], [], .call 84 [(false, (.t 15)), (false, (.t 17))]⟩,
         ⟨(some 19), (some (14, false)), .no, .no, [], [], .un .not (.t 18)⟩,
         o 20 (.pick (.t 14) (.k (.s (.c (.val (.bool true))))) (.t 19))] [0, 5, 6, 7, 20])
       (.cond (.t 20) (.seq (.ops [o 2 (.mv (.k (.s (.c (.val (.bool false))))))] [2])
         (.ret))
        (.skip)))))
    (.ops [o 21 (.bin .add (.t 7) (.k (.s (.c (.val (.int .i64 1)))))),
      o 7 (.mv (.t 21))] [0, 5, 6, 7])))
def b_impl_isSystem : PC :=
  .seq (.ops [o 2 (.mv (.k (.s (.c (.val (.bool false))))))] [0])
  (.seq (.seq (.ops [o 5 (.mv (.t 0)),
      o 6 (.len false (.t 5)),
      o 7 (.mv (.k (.s (.c (.val (.int .i64 0))))))] [0, 5, 6, 7])
    (.block 0
     (.loop [0, 5, 6, 7] l1_impl_isSystem)))
   (.seq (.ops [o 22 (.mv (.t 0)),
      o 23 (.len false (.t 22)),
      o 24 (.call 23 [(false, (.t 23)), (false, (.k (.s (.c (.val (.int .i64 1)))))), (false, (.k (.s (.c (.val (.int .i64 3))))))]),
      o 2 (.mv (.t 24))] [2])
    (.ret)))
def c_impl_isSystem : PFunc := ⟨1, 25, b_impl_isSystem, [.t 2]⟩
def l1_impl_isBox : PC :=
  .seq (.ops [o 51 (.bin .lss (.t 50) (.t 49))] [0, 3, 4, 48, 49, 50, 51])
  (.seq (.cond (.t 51) (.skip)
    (.exit 0))
   (.seq (.block 1
     (.seq (.ops [o 52 (.mv (.t 50)),
        o 53 (.ia 1 (.t 48) (.t 50)),
        o 54 (.ld false 1 (.t 53)),
        o 5 (.mv (.t 52)),
        o 6 (.mv (.t 54))] [0, 3, 4, 5, 6, 48, 49, 50])
      (.seq (.seq (.ops [o 55 (.mv (.t 6)),
          o 56 (.mv (.t 3)),
          o 57 (.un .neg (.t 56)),
          o 58 (.mv (.t 3)),
          o 59 (.call 23 [(false, (.t 55)), (false, (.t 57)), (false, (.t 58))]),
          o 60 (.un .not (.t 59)),
          o 61 (.mv (.t 60)),
          ⟨(some 62), (some (61, false)), .no, .no, [], [], .mv (.t 0)⟩,
          ⟨(some 63), (some (61, false)), .no, .no, [], [], .nchk (.t 62)⟩,
          ⟨(some 64), (some (61, false)), .no, .no, [], [], .fa 2 (.t 63)⟩,
          ⟨(some 65), (some (61, false)), .no, .no, [], [], .ld false 1 (.t 64)⟩,
          ⟨(some 66), (some (61, false)), .no, .no, [], [], .mv (.t 5)⟩,
          ⟨(some 67), (some (61, false)), .no, .no, [], [], .ia 1 (.t 65) (.t 66)⟩,
          ⟨(some 68), (some (61, false)), .no, .no, [], [], .ld false 1 (.t 67)⟩,
          ⟨(some 69), (some (61, false)), .no, .no, [], [], .mv (.t 6)⟩,
          ⟨(some 70), (some (61, false)), .no, .no, [], [], .bin .add (.t 69) (.k (.s (.c (.val (.int .i64 1)))))⟩,
          ⟨(some 71), (some (61, false)), .no, .no, [], [], .mv (.t 3)⟩,
          ⟨(some 72), (some (61, false)), .no, .no, [], [], .call 23 [(false, (.t 68)), (false, (.t 70)), (false, (.t 71))]⟩,
          ⟨(some 73), (some (61, false)), .no, .no, [], [], .un .not (.t 72)⟩,
          o 74 (.pick (.t 61) (.k (.s (.c (.val (.bool true))))) (.t 73))] [0, 3, 4, 5, 6, 48, 49, 50, 74])
        (.cond (.t 74) (.seq (.ops [o 2 (.mv (.k (.s (.c (.val (.bool false))))))] [2])
          (.ret))
         (.skip)))
       (.ops [o 75 (.mv (.t 4)),
         o 76 (.mv (.t 75)),
         ⟨(some 77), (some (76, false)), .no, .no, [], [], .mv (.t 6)⟩,
         ⟨(some 78), (some (76, false)), .no, .no, [], [], .bin .rem (.t 77) (.k (.s (.c (.val (.int .i64 2)))))⟩,
         ⟨(some 79), (some (76, false)), .no, .no, [], [], .bin .neq (.t 78) (.k (.s (.c (.val (.int .i64 0)))))⟩,
         o 80 (.pick (.t 76) (.k (.s (.c (.val (.bool true))))) (.t 79)),
         o 81 (.mv (.t 80)),
         ⟨(some 82), (some (81, false)), .no, .no, [], [], .mv (.t 0)⟩,
         ⟨(some 83), (some (81, false)), .no, .no, [], [], .nchk (.t 82)⟩,
         ⟨(some 84), (some (81, false)), .no, .no, [], [], .fa 2 (.t 83)⟩,
         ⟨(some 85), (some (81, false)), .no, .no, [], [], .ld false 1 (.t 84)⟩,
         ⟨(some 86), (some (81, false)), .no, .no, [], [], .mv (.t 5)⟩,
         ⟨(some 87), (some (81, false)), .no, .no, [], [], .ia 1 (.t 85) (.t 86)⟩,
         ⟨(some 88), (some (81, false)), .no, .no, [], [], .ld false 1 (.t 87)⟩,
         ⟨(some 89), (some (81, false)), .no, .no, [], [], .bin .rem (.t 88) (.k (.s (.c (.val (.int .i64 2)))))⟩,
         ⟨(some 90), (some (81, false)), .no, .no, [], [], .bin .neq (.t 89) (.k (.s (.c (.val (.int .i64 0)))))⟩,
         o 91 (.pick (.t 81) (.k (.s (.c (.val (.bool true))))) (.t 90)),
         o 4 (.mv (.t 91))] [0, 3, 4, 48, 49, 50]))))
    (.ops [o 92 (.bin .add (.t 50) (.k (.s (.c (.val (.int .i64 1)))))),
      o 50 (.mv (.t 92))] [0, 3, 4, 48, 49, 50])))
def b_impl_isBox : PC :=
  .seq (.ops [o 2 (.mv (.k (.s (.c (.val (.bool false))))))] [0])
  (.seq (.seq (.dops [(0, ⟨(some 7), none, .no, .no, [], [], .mv (.t 0)⟩),
      (1, ⟨(some 8), none, .no, .no, [0], [], .nchk (.t 7)⟩),
      (2, ⟨(some 9), none, .no, .no, [0, 1], [], .fa 0 (.t 8)⟩),
      (3, ⟨(some 10), none, .no, .no, [0, 1, 2], [], .ld false 1 (.t 9)⟩),
      (4, ⟨(some 11), none, .no, .all, [0, 1, 2, 3], [], .call 23 [(false, (.t 10)), (false, (.k (.s (.c (.val (.int .i64 0)))))), (false, (.k (.s (.c (.val (.int .i64 8))))))]⟩),
      (5, ⟨(some 12), none, .no, .no, [0, 1, 2, 3, 4], [], .un .not (.t 11)⟩),
      (6, ⟨(some 13), none, .no, .no, [0, 1, 2, 3, 4, 5], [], .mv (.t 12)⟩),
      (7, ⟨(some 14), (some (13, false)), .no, .no, [0, 1, 2, 3, 4, 5, 6], [], .mv (.t 0)⟩),
      (8, ⟨(some 15), (some (13, false)), .no, .no, [0, 1, 2, 3, 4, 5, 6, 7], [], .nchk (.t 14)⟩),
      (9, ⟨(some 16), (some (13, false)), .no, .no, [0, 1, 2, 3, 4, 5, 6, 7, 8], [], .fa 1 (.t 15)⟩),
      (10, ⟨(some 17), (some (13, false)), .no, .no, [0, 1, 2, 3, 4, 5, 6, 7, 8, 9], [], .ld false 1 (.t 16)⟩),
      (11, ⟨(some 18), (some (13, false)), .no, .no, [0, 1, 2, 3, 4, 5, 6, 7, 8, 9, 10], [], .len false (.t 17)⟩),
      (12, ⟨(some 19), (some (13, false)), .no, .all, [0, 1, 2, 3, 4, 5, 6, 7, 8, 9, 10, 11], [], .call 23 [(false, (.t 18)), (false, (.k (.s (.c (.val (.int .i64 1)))))), (false, (.k (.s (.c (.val (.int .i64 3))))))]⟩),
      (13, ⟨(some 20), (some (13, false)), .no, .no, [0, 1, 2, 3, 4, 5, 6, 7, 8, 9, 10, 11, 12], [], .un .not (.t 19)⟩),
      (14, ⟨(some 21), none, .no, .no, [0, 1, 2, 3, 4, 5, 6, 7, 8, 9, 10, 11, 12, 13], [], .pick (.t 13) (.k (.s (.c (.val (.bool true))))) (.t 20)⟩),
      (15, ⟨(some 22), none, .no, .no, [0, 1, 2, 3, 4, 5, 6, 7, 8, 9, 10, 11, 12, 13, 14], [], .mv (.t 21)⟩),
      (16, ⟨(some 23), (some (22, false)), .no, .no, [0, 1, 2, 3, 4, 5, 6, 7, 8, 9, 10, 11, 12, 13, 14, 15], [28, 29, 30, 31, 32], .mv (.t 0)⟩),
      (17, ⟨(some 24), (some (22, false)), .no, .no, [0, 1, 2, 3, 4, 5, 6, 7, 8, 9, 10, 11, 12, 13, 14, 15, 16], [28, 29, 30, 31, 32], .nchk (.t 23)⟩),
      (18, ⟨(some 25), (some (22, false)), .no, .no, [0, 1, 2, 3, 4, 5, 6, 7, 8, 9, 10, 11, 12, 13, 14, 15, 16, 17], [28, 29, 30, 31, 32], .fa 2 (.t 24)⟩),
      (19, ⟨(some 26), (some (22, false)), .no, .no, [0, 1, 2, 3, 4, 5, 6, 7, 8, 9, 10, 11, 12, 13, 14, 15, 16, 17, 18], [28, 29, 30, 31, 32], .ld false 1 (.t 25)⟩),
      (20, ⟨(some 27), (some (22, false)), .no, .no, [0, 1, 2, 3, 4, 5, 6, 7, 8, 9, 10, 11, 12, 13, 14, 15, 16, 17, 18, 19], [28, 29, 30, 31, 32], .len false (.t 26)⟩),
      (21, ⟨(some 28), (some (22, false)), .no, .no, [0, 1, 2, 3, 4, 5, 6, 7, 8, 9, 10, 11, 12, 13, 14, 15], [23, 24, 25, 26, 27], .mv (.t 0)⟩),
      (22, ⟨(some 29), (some (22, false)), .no, .no, [0, 1, 2, 3, 4, 5, 6, 7, 8, 9, 10, 11, 12, 13, 14, 15, 21], [23, 24, 25, 26, 27], .nchk (.t 28)⟩),
      (23, ⟨(some 30), (some (22, false)), .no, .no, [0, 1, 2, 3, 4, 5, 6, 7, 8, 9, 10, 11, 12, 13, 14, 15, 21, 22], [23, 24, 25, 26, 27], .fa 1 (.t 29)⟩),
      (24, ⟨(some 31), (some (22, false)), .no, .no, [0, 1, 2, 3, 4, 5, 6, 7, 8, 9, 10, 11, 12, 13, 14, 15, 21, 22, 23], [23, 24, 25, 26, 27], .ld false 1 (.t 30)⟩),
      (25, ⟨(some 32), (some (22, false)), .no, .no, [0, 1, 2, 3, 4, 5, 6, 7, 8, 9, 10, 11, 12, 13, 14, 15, 21, 22, 23, 24], [23, 24, 25, 26, 27], .len false (.t 31)⟩),
      (26, ⟨(some 33), (some (22, false)), .no, .no, [0, 1, 2, 3, 4, 5, 6, 7, 8, 9, 10, 11, 12, 13, 14, 15, 16, 17, 18, 19, 20, 21, 22, 23, 24, 25], [], .bin .neq (.t 27) (.t 32)⟩),
      (27, ⟨(some 34), none, .no, .no, [0, 1, 2, 3, 4, 5, 6, 7, 8, 9, 10, 11, 12, 13, 14, 15, 16, 17, 18, 19, 20, 21, 22, 23, 24, 25, 26], [], .pick (.t 22) (.k (.s (.c (.val (.bool true))))) (.t 33)⟩)] [0, 34])
    (.cond (.t 34) (.seq (.ops [o 2 (.mv (.k (.s (.c (.val (.bool false))))))] [2])
      (.ret))
     (.skip)))
   (.seq (.dops [(0, ⟨(some 35), none, .no, .no, [], [40, 41, 42, 43, 44], .mv (.t 0)⟩),
      (1, ⟨(some 36), none, .no, .no, [0], [40, 41, 42, 43, 44], .nchk (.t 35)⟩),
      (2, ⟨(some 37), none, .no, .no, [0, 1], [40, 41, 42, 43, 44], .fa 0 (.t 36)⟩),
      (3, ⟨(some 38), none, .no, .no, [0, 1, 2], [40, 41, 42, 43, 44], .ld false 1 (.t 37)⟩),
      (4, ⟨(some 39), none, .no, .no, [0, 1, 2, 3], [40, 41, 42, 43, 44], .bin .shl (.k (.s (.c (.val (.int .i64 8))))) (.t 38)⟩),
      (5, ⟨(some 40), none, .no, .no, [], [3, 35, 36, 37, 38, 39], .mv (.t 0)⟩),
      (6, ⟨(some 41), none, .no, .no, [5], [3, 35, 36, 37, 38, 39], .nchk (.t 40)⟩),
      (7, ⟨(some 42), none, .no, .no, [5, 6], [3, 35, 36, 37, 38, 39], .fa 0 (.t 41)⟩),
      (8, ⟨(some 43), none, .no, .no, [5, 6, 7], [3, 35, 36, 37, 38, 39], .ld false 1 (.t 42)⟩),
      (9, ⟨(some 44), none, .no, .no, [5, 6, 7, 8], [3, 35, 36, 37, 38, 39], .bin .eql (.t 43) (.k (.s (.c (.val (.int .i64 0)))))⟩),
      (10, ⟨(some 3), none, .no, .no, [0, 1, 2, 3, 4], [40, 41, 42, 43, 44], .mv (.t 39)⟩),
      (11, ⟨(some 4), none, .no, .no, [0, 1, 2, 3, 4, 5, 6, 7, 8, 9, 10], [], .mv (.t 44)⟩)] [0, 3, 4])
    (.seq (.seq (.ops [o 45 (.mv (.t 0)),
        o 46 (.nchk (.t 45)),
        o 47 (.fa 1 (.t 46)),
        o 48 (.ld false 1 (.t 47)),
        o 49 (.len false (.t 48)),
        o 50 (.mv (.k (.s (.c (.val (.int .i64 0))))))] [0, 3, 4, 48, 49, 50])
      (.block 0
       (.loop [0, 3, 4, 48, 49, 50] l1_impl_isBox)))
     (.seq (.ops [o 93 (.mv (.t 4)),
        o 2 (.mv (.t 93))] [2])
      (.ret)))))
def c_impl_isBox : PFunc := ⟨1, 94, b_impl_isBox, [.t 2]⟩
def b_bytealg_CompareString : PC :=
  .seq (.ops [o 4 (.mv (.k (.s (.c (.val (.int .i64 0))))))] [0, 1])
  (.seq (.ops [o 5 (.mv (.t 0)),
     o 6 (.mv (.t 1)),
     o 7 (.call 85 [(false, (.t 5)), (false, (.t 6))]),
     o 4 (.mv (.t 7))] [4])
   (.ret))
def c_bytealg_CompareString : PFunc := ⟨2, 8, b_bytealg_CompareString, [.t 4]⟩
def b_impl_align : PC :=
  .seq (.ops [o 4 (.mv (.k (.s (.c (.val (.int .i64 0)))))),
    o 5 (.alloc [.c (.val (.int .i64 0)), .nil (.fl 1), .nil (.fl 1)]),
    o 6 (.alloc [.c (.val (.int .i64 0)), .nil (.fl 1), .nil (.fl 1)])] [0, 1, 5, 6])
  (.seq (.dops [(0, ⟨(some 10), none, .no, .no, [], [14, 15, 16, 17], .mv (.t 0)⟩),
     (1, ⟨(some 11), none, .no, .no, [0], [14, 15, 16, 17], .nchk (.t 10)⟩),
     (2, ⟨(some 12), none, .no, .no, [0, 1], [14, 15, 16, 17], .fa 0 (.t 11)⟩),
     (3, ⟨(some 13), none, .no, .no, [0, 1, 2], [14, 15, 16, 17], .ld false 1 (.t 12)⟩),
     (4, ⟨(some 14), none, .no, .no, [], [10, 11, 12, 13], .mv (.t 1)⟩),
     (5, ⟨(some 15), none, .no, .no, [4], [10, 11, 12, 13], .nchk (.t 14)⟩),
     (6, ⟨(some 16), none, .no, .no, [4, 5], [10, 11, 12, 13], .fa 0 (.t 15)⟩),
     (7, ⟨(some 17), none, .no, .no, [4, 5, 6], [10, 11, 12, 13], .ld false 1 (.t 16)⟩),
     (8, ⟨(some 18), none, .no, .no, [0, 1, 2, 3, 4, 5, 6, 7], [], .mm true [(.t 13), (.t 17)]⟩),
     (9, ⟨(some 7), none, .no, .no, [0, 1, 2, 3, 4, 5, 6, 7, 8], [], .mv (.t 18)⟩)] [0, 1, 5, 6, 7])
   (.seq (.dops [(0, ⟨(some 19), none, .all, .no, [], [8, 20, 21, 22, 23, 24, 25, 26, 27, 28, 29, 30, 31, 32, 33, 34, 35, 36, 37, 38, 39, 40, 41], .mv (.t 7)⟩),
      (1, ⟨(some 20), none, .no, .no, [], [8, 19, 24, 25, 26, 27, 28, 29, 31, 32, 33, 34, 35, 36, 37, 38, 39, 40], .mv (.t 0)⟩),
      (2, ⟨(some 21), none, .no, .no, [1], [8, 19, 24, 25, 26, 27, 28, 29, 31, 32, 33, 34, 35, 36, 37, 38, 39, 40], .nchk (.t 20)⟩),
      (3, ⟨(some 22), none, .no, .no, [1, 2], [8, 19, 24, 25, 26, 27, 28, 29, 31, 32, 33, 34, 35, 36, 37, 38, 39, 40], .fa 1 (.t 21)⟩),
      (4, ⟨(some 23), none, .no, .no, [1, 2, 3], [8, 19, 24, 25, 26, 27, 28, 29, 31, 32, 33, 34, 35, 36, 37, 38, 39, 40], .ld false 1 (.t 22)⟩),
      (5, ⟨(some 24), none, .no, .no, [], [8, 19, 20, 21, 22, 23, 25, 26, 27, 28, 31, 32, 33, 34, 35, 36, 37, 38, 39, 40], .mv (.t 7)⟩),
      (6, ⟨(some 25), none, .no, .no, [], [8, 19, 20, 21, 22, 23, 24, 31, 32, 33, 34, 35, 36, 37, 38, 39, 40], .mv (.t 0)⟩),
      (7, ⟨(some 26), none, .no, .no, [6], [8, 19, 20, 21, 22, 23, 24, 31, 32, 33, 34, 35, 36, 37, 38, 39, 40], .nchk (.t 25)⟩),
      (8, ⟨(some 27), none, .no, .no, [6, 7], [8, 19, 20, 21, 22, 23, 24, 31, 32, 33, 34, 35, 36, 37, 38, 39, 40], .fa 0 (.t 26)⟩),
      (9, ⟨(some 28), none, .no, .no, [6, 7, 8], [8, 19, 20, 21, 22, 23, 24, 31, 32, 33, 34, 35, 36, 37, 38, 39, 40], .ld false 1 (.t 27)⟩),
      (10, ⟨(some 29), none, .no, .no, [5, 6, 7, 8, 9], [8, 19, 20, 21, 22, 23, 31, 32, 33, 34, 35, 36, 37, 38, 39, 40], .bin .sub (.t 24) (.t 28)⟩),
      (12, ⟨(some 31), none, .no, .no, [], [8, 19, 20, 21, 22, 23, 24, 25, 26, 27, 28, 29, 30, 35, 36, 37, 38, 39, 40], .mv (.t 0)⟩),
      (13, ⟨(some 32), none, .no, .no, [11], [8, 19, 20, 21, 22, 23, 24, 25, 26, 27, 28, 29, 30, 35, 36, 37, 38, 39, 40], .nchk (.t 31)⟩),
      (14, ⟨(some 33), none, .no, .no, [11, 12], [8, 19, 20, 21, 22, 23, 24, 25, 26, 27, 28, 29, 30, 35, 36, 37, 38, 39, 40], .fa 2 (.t 32)⟩),
      (15, ⟨(some 34), none, .no, .no, [11, 12, 13], [8, 19, 20, 21, 22, 23, 24, 25, 26, 27, 28, 29, 30, 35, 36, 37, 38, 39, 40], .ld false 1 (.t 33)⟩),
      (16, ⟨(some 35), none, .no, .no, [], [8, 19, 20, 21, 22, 23, 24, 25, 26, 27, 28, 29, 30, 31, 32, 33, 34, 36, 37, 38, 39], .mv (.t 7)⟩),
      (17, ⟨(some 36), none, .no, .no, [], [8, 19, 20, 21, 22, 23, 24, 25, 26, 27, 28, 29, 30, 31, 32, 33, 34, 35], .mv (.t 0)⟩),
      (18, ⟨(some 37), none, .no, .no, [16], [8, 19, 20, 21, 22, 23, 24, 25, 26, 27, 28, 29, 30, 31, 32, 33, 34, 35], .nchk (.t 36)⟩),
      (19, ⟨(some 38), none, .no, .no, [16, 17], [8, 19, 20, 21, 22, 23, 24, 25, 26, 27, 28, 29, 30, 31, 32, 33, 34, 35], .fa 0 (.t 37)⟩),
      (20, ⟨(some 39), none, .no, .no, [16, 17, 18], [8, 19, 20, 21, 22, 23, 24, 25, 26, 27, 28, 29, 30, 31, 32, 33, 34, 35], .ld false 1 (.t 38)⟩),
      (21, ⟨(some 40), none, .no, .no, [15, 16, 17, 18, 19], [8, 19, 20, 21, 22, 23, 24, 25, 26, 27, 28, 29, 30, 31, 32, 33, 34], .bin .sub (.t 35) (.t 39)⟩),
      (11, ⟨(some 30), none, .no, .no, [1, 2, 3, 4, 5, 6, 7, 8, 9, 10], [8, 19, 31, 32, 33, 34, 35, 36, 37, 38, 39, 40], .call 178 [(false, (.t 23)), (false, (.t 29))]⟩),
      (22, ⟨(some 41), none, .no, .all, [1, 2, 3, 4, 5, 6, 7, 8, 9, 10, 11, 12, 13, 14, 15, 16, 17, 18, 19, 20, 21], [8, 19], .call 178 [(false, (.t 34)), (false, (.t 40))]⟩),
      (23, ⟨(some 42), none, .no, .no, [0, 1, 2, 3, 4, 5, 6, 7, 8, 9, 10, 11, 12, 13, 14, 15, 16, 17, 18, 19, 20, 21, 22], [8], .build [.c (.val (.int .i64 0)), .nil (.fl 1), .nil (.fl 1)] [(0, 1, (.t 19)), (1, 1, (.t 30)), (2, 1, (.t 41))]⟩),
      (24, ⟨(some 8), none, .no, .no, [], [19, 20, 21, 22, 23, 24, 25, 26, 27, 28, 29, 30, 31, 32, 33, 34, 35, 36, 37, 38, 39, 40, 41, 42], .alloc [.c (.val (.int .i64 0)), .nil (.fl 1), .nil (.fl 1)]⟩),
      (25, ⟨none, none, .no, .all, [0, 1, 2, 3, 4, 5, 6, 7, 8, 9, 10, 11, 12, 13, 14, 15, 16, 17, 18, 19, 20, 21, 22, 23, 24], [], .st 3 (.t 8) (.t 42)⟩)] [1, 5, 6, 7, 8])
    (.seq (.dops [(0, ⟨(some 43), none, .all, .no, [], [9, 44, 45, 46, 47, 48, 49, 50, 51, 52, 53, 54, 55, 56, 57, 58, 59, 60, 61, 62, 63, 64, 65], .mv (.t 7)⟩),
       (1, ⟨(some 44), none, .no, .no, [], [9, 43, 48, 49, 50, 51, 52, 53, 55, 56, 57, 58, 59, 60, 61, 62, 63, 64], .mv (.t 1)⟩),
       (2, ⟨(some 45), none, .no, .no, [1], [9, 43, 48, 49, 50, 51, 52, 53, 55, 56, 57, 58, 59, 60, 61, 62, 63, 64], .nchk (.t 44)⟩),
       (3, ⟨(some 46), none, .no, .no, [1, 2], [9, 43, 48, 49, 50, 51, 52, 53, 55, 56, 57, 58, 59, 60, 61, 62, 63, 64], .fa 1 (.t 45)⟩),
       (4, ⟨(some 47), none, .no, .no, [1, 2, 3], [9, 43, 48, 49, 50, 51, 52, 53, 55, 56, 57, 58, 59, 60, 61, 62, 63, 64], .ld false 1 (.t 46)⟩),
       (5, ⟨(some 48), none, .no, .no, [], [9, 43, 44, 45, 46, 47, 49, 50, 51, 52, 55, 56, 57, 58, 59, 60, 61, 62, 63, 64], .mv (.t 7)⟩),
       (6, ⟨(some 49), none, .no, .no, [], [9, 43, 44, 45, 46, 47, 48, 55, 56, 57, 58, 59, 60, 61, 62, 63, 64], .mv (.t 1)⟩),
       (7, ⟨(some 50), none, .no, .no, [6], [9, 43, 44, 45, 46, 47, 48, 55, 56, 57, 58, 59, 60, 61, 62, 63, 64], .nchk (.t 49)⟩),
       (8, ⟨(some 51), none, .no, .no, [6, 7], [9, 43, 44, 45, 46, 47, 48, 55, 56, 57, 58, 59, 60, 61, 62, 63, 64], .fa 0 (.t 50)⟩),
       (9, ⟨(some 52), none, .no, .no, [6, 7, 8], [9, 43, 44, 45, 46, 47, 48, 55, 56, 57, 58, 59, 60, 61, 62, 63, 64], .ld false 1 (.t 51)⟩),
       (10, ⟨(some 53), none, .no, .no, [5, 6, 7, 8, 9], [9, 43, 44, 45, 46, 47, 55, 56, 57, 58, 59, 60, 61, 62, 63, 64], .bin .sub (.t 48) (.t 52)⟩),
       (12, ⟨(some 55), none, .no, .no, [], [9, 43, 44, 45, 46, 47, 48, 49, 50, 51, 52, 53, 54, 59, 60, 61, 62, 63, 64], .mv (.t 1)⟩),
       (13, ⟨(some 56), none, .no, .no, [11], [9, 43, 44, 45, 46, 47, 48, 49, 50, 51, 52, 53, 54, 59, 60, 61, 62, 63, 64], .nchk (.t 55)⟩),
       (14, ⟨(some 57), none, .no, .no, [11, 12], [9, 43, 44, 45, 46, 47, 48, 49, 50, 51, 52, 53, 54, 59, 60, 61, 62, 63, 64], .fa 2 (.t 56)⟩),
       (15, ⟨(some 58), none, .no, .no, [11, 12, 13], [9, 43, 44, 45, 46, 47, 48, 49, 50, 51, 52, 53, 54, 59, 60, 61, 62, 63, 64], .ld false 1 (.t 57)⟩),
       (16, ⟨(some 59), none, .no, .no, [], [9, 43, 44, 45, 46, 47, 48, 49, 50, 51, 52, 53, 54, 55, 56, 57, 58, 60, 61, 62, 63], .mv (.t 7)⟩),
       (17, ⟨(some 60), none, .no, .no, [], [9, 43, 44, 45, 46, 47, 48, 49, 50, 51, 52, 53, 54, 55, 56, 57, 58, 59], .mv (.t 1)⟩),
       (18, ⟨(some 61), none, .no, .no, [16], [9, 43, 44, 45, 46, 47, 48, 49, 50, 51, 52, 53, 54, 55, 56, 57, 58, 59], .nchk (.t 60)⟩),
       (19, ⟨(some 62), none, .no, .no, [16, 17], [9, 43, 44, 45, 46, 47, 48, 49, 50, 51, 52, 53, 54, 55, 56, 57, 58, 59], .fa 0 (.t 61)⟩),
       (20, ⟨(some 63), none, .no, .no, [16, 17, 18], [9, 43, 44, 45, 46, 47, 48, 49, 50, 51, 52, 53, 54, 55, 56, 57, 58, 59], .ld false 1 (.t 62)⟩),
       (21, ⟨(some 64), none, .no, .no, [15, 16, 17, 18, 19], [9, 43, 44, 45, 46, 47, 48, 49, 50, 51, 52, 53, 54, 55, 56, 57, 58], .bin .sub (.t 59) (.t 63)⟩),
       (11, ⟨(some 54), none, .no, .no, [1, 2, 3, 4, 5, 6, 7, 8, 9, 10], [9, 43, 55, 56, 57, 58, 59, 60, 61, 62, 63, 64], .call 178 [(false, (.t 47)), (false, (.t 53))]⟩),
       (22, ⟨(some 65), none, .no, .all, [1, 2, 3, 4, 5, 6, 7, 8, 9, 10, 11, 12, 13, 14, 15, 16, 17, 18, 19, 20, 21], [9, 43], .call 178 [(false, (.t 58)), (false, (.t 64))]⟩),
       (23, ⟨(some 66), none, .no, .no, [0, 1, 2, 3, 4, 5, 6, 7, 8, 9, 10, 11, 12, 13, 14, 15, 16, 17, 18, 19, 20, 21, 22], [9], .build [.c (.val (.int .i64 0)), .nil (.fl 1), .nil (.fl 1)] [(0, 1, (.t 43)), (1, 1, (.t 54)), (2, 1, (.t 65))]⟩),
       (24, ⟨(some 9), none, .no, .no, [], [43, 44, 45, 46, 47, 48, 49, 50, 51, 52, 53, 54, 55, 56, 57, 58, 59, 60, 61, 62, 63, 64, 65, 66], .alloc [.c (.val (.int .i64 0)), .nil (.fl 1), .nil (.fl 1)]⟩),
       (25, ⟨none, none, .no, .all, [0, 1, 2, 3, 4, 5, 6, 7, 8, 9, 10, 11, 12, 13, 14, 15, 16, 17, 18, 19, 20, 21, 22, 23, 24], [], .st 3 (.t 9) (.t 66)⟩)] [5, 6, 7, 8, 9])
     (.seq (.dops [(0, ⟨(some 67), none, .no, .no, [], [68, 69], .mv (.t 7)⟩),
        (1, ⟨(some 68), none, .no, .no, [], [4, 67, 69], .ld true 3 (.t 8)⟩),
        (2, ⟨(some 69), none, (.ids [5, 8, 30, 41] [0, 64]), .no, [], [4, 67, 68], .ld true 3 (.t 9)⟩),
        (3, ⟨(some 4), none, .no, .no, [0], [68, 69], .mv (.t 67)⟩),
        (4, ⟨none, none, .no, (.ids [5, 8, 30, 41] [0, 64]), [0, 1, 3], [69], .st 3 (.t 5) (.t 68)⟩),
        (5, ⟨none, none, .no, .all, [0, 1, 2, 3, 4], [], .st 3 (.t 6) (.t 69)⟩)] [4, 5, 6])
      (.ret)))))
def c_impl_align : PFunc := ⟨2, 70, b_impl_align, [.t 4, .cell 5 true 3, .cell 6 true 3]⟩
def l1_cmp_Or_int : PC :=
  .seq (.ops [o 9 (.bin .lss (.t 8) (.t 7))] [3, 6, 7, 8, 9])
  (.seq (.cond (.t 9) (.skip)
    (.exit 0))
   (.seq (.block 1
     (.seq (.ops [o 10 (.ia 1 (.t 6) (.t 8)),
        o 11 (.ld false 1 (.t 10)),
        o 5 (.mv (.t 11))] [3, 5, 6, 7, 8])
      (.seq (.ops [o 12 (.mv (.t 5)),
         o 13 (.mv (.t 3)),
         o 14 (.bin .neq (.t 12) (.t 13))] [3, 5, 6, 7, 8, 14])
       (.cond (.t 14) (.seq (.ops [o 15 (.mv (.t 5)),
           o 2 (.mv (.t 15))] [2])
         (.ret))
        (.skip)))))
    (.ops [o 16 (.bin .add (.t 8) (.k (.s (.c (.val (.int .i64 1)))))),
      o 8 (.mv (.t 16))] [3, 6, 7, 8])))
def b_cmp_Or_int : PC :=
  .seq (.ops [o 2 (.mv (.k (.s (.c (.val (.int .i64 0))))))] [0])
  (.seq (.ops [o 3 (.mv (.k (.s (.c (.val (.int .i64 0))))))] [0, 3])
   (.seq (.seq (.ops [o 6 (.mv (.t 0)),
       o 7 (.len false (.t 6)),
       o 8 (.mv (.k (.s (.c (.val (.int .i64 0))))))] [3, 6, 7, 8])
     (.block 0
      (.loop [3, 6, 7, 8] l1_cmp_Or_int)))
    (.seq (.ops [o 17 (.mv (.t 3)),
       o 2 (.mv (.t 17))] [2])
     (.ret))))
def c_cmp_Or_int : PFunc := ⟨1, 18, b_cmp_Or_int, [.t 2]⟩
def l1_slices_Compare_Sintint : PC :=
  .seq (.ops [o 12 (.bin .lss (.t 11) (.t 10))] [0, 1, 9, 10, 11, 12])
  (.seq (.cond (.t 12) (.skip)
    (.exit 0))
   (.seq (.block 1
     (.seq (.ops [o 13 (.mv (.t 11)),
        o 14 (.ia 1 (.t 9) (.t 11)),
        o 15 (.ld false 1 (.t 14)),
        o 5 (.mv (.t 13)),
        o 6 (.mv (.t 15))] [0, 1, 5, 6, 9, 10, 11])
      (.seq (.seq (.ops [o 16 (.mv (.t 5)),
          o 17 (.mv (.t 1)),
          o 18 (.len false (.t 17)),
          o 19 (.bin .geq (.t 16) (.t 18))] [0, 1, 5, 6, 9, 10, 11, 19])
        (.cond (.t 19) (.seq (.ops [o 4 (.mv (.k (.s (.c (.val (.int .i64 1))))))] [4])
          (.ret))
         (.skip)))
       (.seq (.ops [o 20 (.mv (.t 1)),
          o 21 (.mv (.t 5)),
          o 22 (.ia 1 (.t 20) (.t 21)),
          o 23 (.ld false 1 (.t 22)),
          o 7 (.mv (.t 23))] [0, 1, 6, 7, 9, 10, 11])
        (.seq (.ops [o 24 (.mv (.t 6)),
           o 25 (.mv (.t 7)),
           o 26 (.call 91 [(false, (.t 24)), (false, (.t 25))]),
           o 8 (.mv (.t 26))] [0, 1, 8, 9, 10, 11])
         (.seq (.ops [o 27 (.mv (.t 8)),
            o 28 (.bin .neq (.t 27) (.k (.s (.c (.val (.int .i64 0))))))] [0, 1, 8, 9, 10, 11, 28])
          (.cond (.t 28) (.seq (.ops [o 29 (.mv (.t 8)),
              o 4 (.mv (.t 29))] [4])
            (.ret))
           (.skip))))))))
    (.ops [o 30 (.bin .add (.t 11) (.k (.s (.c (.val (.int .i64 1)))))),
      o 11 (.mv (.t 30))] [0, 1, 9, 10, 11])))
def b_slices_Compare_Sintint : PC :=
  .seq (.ops [o 4 (.mv (.k (.s (.c (.val (.int .i64 0))))))] [0, 1])
  (.seq (.seq (.ops [o 9 (.mv (.t 0)),
      o 10 (.len false (.t 9)),
      o 11 (.mv (.k (.s (.c (.val (.int .i64 0))))))] [0, 1, 9, 10, 11])
    (.block 0
     (.loop [0, 1, 9, 10, 11] l1_slices_Compare_Sintint)))
   (.seq (.seq (.ops [o 31 (.mv (.t 0)),
       o 32 (.len false (.t 31)),
       o 33 (.mv (.t 1)),
       o 34 (.len false (.t 33)),
       o 35 (.bin .lss (.t 32) (.t 34))] [35])
     (.cond (.t 35) (.seq (.ops [o 4 (.mv (.k (.s (.c (.val (.int .i64 (-1)))))))] [4])
       (.ret))
      (.skip)))
    (.seq (.ops [o 4 (.mv (.k (.s (.c (.val (.int .i64 0))))))] [4])
     (.ret))))
def c_slices_Compare_Sintint : PFunc := ⟨2, 36, b_slices_Compare_Sintint, [.t 4]⟩
def l1_spec_poGood : PC :=
  .seq (.ops [o 8 (.bin .lss (.t 7) (.t 6))] [0, 5, 6, 7, 8])
  (.seq (.cond (.t 8) (.skip)
    (.exit 0))
   (.seq (.block 1
     (.seq (.ops [o 9 (.mv (.t 7)),
        o 10 (.ia 4 (.t 5) (.t 7)),
        o 11 (.ld true 4 (.t 10)),
        o 4 (.alloc [.c (.val (.int .i64 0)), .c (.val (.int .i64 0)), .c (.val (.int .i64 0)), .c (.val (.int .i64 0))]),
        o 3 (.mv (.t 9)),
        u (.st 4 (.t 4) (.t 11))] [0, 3, 4, 5, 6, 7])
      (.seq (.dops [(0, ⟨(some 12), none, .no, .no, [], [], .ld true 4 (.t 4)⟩),
         (1, ⟨(some 13), none, .no, .all, [0], [], .call 80 [(false, (.t 12))]⟩),
         (2, ⟨(some 14), none, .no, .no, [0, 1], [], .un .not (.t 13)⟩),
         (3, ⟨(some 15), none, .no, .no, [0, 1, 2], [], .mv (.t 14)⟩),
         (4, ⟨(some 16), (some (15, false)), .no, .no, [0, 1, 2, 3], [], .fa 0 (.t 4)⟩),
         (5, ⟨(some 17), (some (15, false)), .no, .no, [0, 1, 2, 3, 4], [], .ld false 1 (.t 16)⟩),
         (6, ⟨(some 18), (some (15, false)), .no, .no, [0, 1, 2, 3, 4, 5], [], .bin .eql (.t 17) (.k (.s (.c (.val (.int .i64 0)))))⟩),
         (7, ⟨(some 19), none, .no, .no, [0, 1, 2, 3, 4, 5, 6], [], .pick (.t 15) (.k (.s (.c (.val (.bool true))))) (.t 18)⟩),
         (8, ⟨(some 20), none, .no, .no, [0, 1, 2, 3, 4, 5, 6, 7], [], .mv (.t 19)⟩),
         (9, ⟨(some 21), (some (20, false)), .no, .no, [0, 1, 2, 3, 4, 5, 6, 7, 8], [], .mv (.t 3)⟩),
         (10, ⟨(some 22), (some (20, false)), .no, .no, [0, 1, 2, 3, 4, 5, 6, 7, 8, 9], [], .bin .gtr (.t 21) (.k (.s (.c (.val (.int .i64 0)))))⟩),
         (11, ⟨(some 23), (some (20, false)), .no, .no, [0, 1, 2, 3, 4, 5, 6, 7, 8, 9, 10], [], .mv (.t 22)⟩),
         (12, ⟨(some 24), (some (23, true)), .no, .no, [0, 1, 2, 3, 4, 5, 6, 7, 8, 9, 10, 11], [25, 26, 29], .mv (.t 0)⟩),
         (13, ⟨(some 25), (some (23, true)), .no, .no, [0, 1, 2, 3, 4, 5, 6, 7, 8, 9, 10, 11], [24, 29], .mv (.t 3)⟩),
         (14, ⟨(some 26), (some (23, true)), .no, .no, [0, 1, 2, 3, 4, 5, 6, 7, 8, 9, 10, 11, 13], [24, 29], .bin .sub (.t 25) (.k (.s (.c (.val (.int .i64 1)))))⟩),
         (15, ⟨(some 27), (some (23, true)), .no, .no, [0, 1, 2, 3, 4, 5, 6, 7, 8, 9, 10, 11, 12, 13, 14], [29], .ia 4 (.t 24) (.t 26)⟩),
         (16, ⟨(some 28), (some (23, true)), .no, .no, [0, 1, 2, 3, 4, 5, 6, 7, 8, 9, 10, 11, 12, 13, 14, 15], [29], .ld true 4 (.t 27)⟩),
         (17, ⟨(some 29), (some (23, true)), .no, .no, [0, 1, 2, 3, 4, 5, 6, 7, 8, 9, 10, 11], [24, 25, 26, 27, 28], .ld true 4 (.t 4)⟩),
         (18, ⟨(some 30), (some (23, true)), .no, .all, [0, 1, 2, 3, 4, 5, 6, 7, 8, 9, 10, 11, 12, 13, 14, 15, 16, 17], [], .call 81 [(false, (.t 28)), (false, (.t 29))]⟩),
         (19, ⟨(some 31), (some (23, true)), .no, .no, [0, 1, 2, 3, 4, 5, 6, 7, 8, 9, 10, 11, 12, 13, 14, 15, 16, 17, 18], [], .bin .geq (.t 30) (.k (.s (.c (.val (.int .i64 0)))))⟩),
         (20, ⟨(some 32), (some (20, false)), .no, .no, [0, 1, 2, 3, 4, 5, 6, 7, 8, 9, 10, 11, 12, 13, 14, 15, 16, 17, 18, 19], [], .pick (.t 23) (.t 31) (.k (.s (.c (.val (.bool false)))))⟩),
         (21, ⟨(some 33), none, .no, .no, [0, 1, 2, 3, 4, 5, 6, 7, 8, 9, 10, 11, 12, 13, 14, 15, 16, 17, 18, 19, 20], [], .pick (.t 20) (.k (.s (.c (.val (.bool true))))) (.t 32)⟩)] [0, 5, 6, 7, 33])
       (.cond (.t 33) (.seq (.ops [o 2 (.mv (.k (.s (.c (.val (.bool false))))))] [2])
         (.ret))
        (.skip)))))
    (.ops [o 34 (.bin .add (.t 7) (.k (.s (.c (.val (.int .i64 1)))))),
      o 7 (.mv (.t 34))] [0, 5, 6, 7])))
def b_spec_poGood : PC :=
  .seq (.ops [o 2 (.mv (.k (.s (.c (.val (.bool false))))))] [0])
  (.seq (.seq (.ops [o 5 (.mv (.t 0)),
      o 6 (.len false (.t 5)),
      o 7 (.mv (.k (.s (.c (.val (.int .i64 0))))))] [0, 5, 6, 7])
    (.block 0
     (.loop [0, 5, 6, 7] l1_spec_poGood)))
   (.seq (.ops [o 35 (.mv (.t 0)),
      o 36 (.len false (.t 35)),
      o 37 (.bin .leq (.t 36) (.k (.s (.c (.val (.int .i64 20)))))),
      o 2 (.mv (.t 37))] [2])
    (.ret)))
def c_spec_poGood : PFunc := ⟨1, 38, b_spec_poGood, [.t 2]⟩
def l1_spec_poDegreeIn : PC :=
  .seq (.ops [o 11 (.bin .lss (.t 10) (.t 9))] [1, 5, 8, 9, 10, 11])
  (.seq (.cond (.t 11) (.skip)
    (.exit 0))
   (.seq (.block 1
     (.seq (.ops [o 12 (.ia 4 (.t 8) (.t 10)),
        o 13 (.ld true 4 (.t 12)),
        o 7 (.alloc [.c (.val (.int .i64 0)), .c (.val (.int .i64 0)), .c (.val (.int .i64 0)), .c (.val (.int .i64 0))]),
        u (.st 4 (.t 7) (.t 13))] [1, 5, 7, 8, 9, 10])
      (.ops [o 14 (.mv (.t 5)),
        o 15 (.ld true 4 (.t 7)),
        o 16 (.mv (.t 1)),
        o 17 (.call 82 [(false, (.t 15)), (false, (.t 16))]),
        o 18 (.call 15 [(false, (.t 14)), (false, (.t 17))]),
        o 5 (.mv (.t 18))] [1, 5, 8, 9, 10])))
    (.ops [o 19 (.bin .add (.t 10) (.k (.s (.c (.val (.int .i64 1)))))),
      o 10 (.mv (.t 19))] [1, 5, 8, 9, 10])))
def b_spec_poDegreeIn : PC :=
  .seq (.ops [o 4 (.mv (.k (.s (.c (.val (.int .i64 0))))))] [0, 1])
  (.seq (.ops [o 5 (.mv (.k (.s (.c (.val (.int .i64 (-1)))))))] [0, 1, 5])
   (.seq (.seq (.ops [o 8 (.mv (.t 0)),
       o 9 (.len false (.t 8)),
       o 10 (.mv (.k (.s (.c (.val (.int .i64 0))))))] [1, 5, 8, 9, 10])
     (.block 0
      (.loop [1, 5, 8, 9, 10] l1_spec_poDegreeIn)))
    (.seq (.ops [o 20 (.mv (.t 5)),
       o 4 (.mv (.t 20))] [4])
     (.ret))))
def c_spec_poDegreeIn : PFunc := ⟨2, 21, b_spec_poDegreeIn, [.t 4]⟩
def b_spec_dyPower : PC :=
  .seq (.ops [o 2 (.mv (.k (.s (.c (.val (.int .i64 0))))))] [0])
  (.seq (.ops [o 3 (.mv (.t 0)),
     o 4 (.conv .u64 (.t 3)),
     o 5 (.bin .shl (.k (.s (.c (.val (.int .i64 1))))) (.t 4)),
     o 2 (.mv (.t 5))] [2])
   (.ret))
def c_spec_dyPower : PFunc := ⟨1, 6, b_spec_dyPower, [.t 2]⟩
def l1_impl_isPoly : PC :=
  .seq (.ops [o 8 (.bin .lss (.t 7) (.t 6))] [0, 5, 6, 7, 8])
  (.seq (.cond (.t 8) (.skip)
    (.exit 0))
   (.seq (.block 1
     (.seq (.ops [o 9 (.mv (.t 7)),
        o 10 (.ia 4 (.t 5) (.t 7)),
        o 11 (.ld true 4 (.t 10)),
        o 4 (.alloc [.c (.val (.int .i64 0)), .c (.val (.int .i64 0)), .c (.val (.int .i64 0)), .c (.val (.int .i64 0))]),
        o 3 (.mv (.t 9)),
        u (.st 4 (.t 4) (.t 11))] [0, 3, 4, 5, 6, 7])
      (.seq (.dops [(0, ⟨(some 12), none, .no, .no, [], [], .fa 0 (.t 4)⟩),
         (1, ⟨(some 13), none, .no, .no, [0], [], .ld false 1 (.t 12)⟩),
         (2, ⟨(some 14), none, .no, .no, [0, 1], [], .bin .eql (.t 13) (.k (.s (.c (.val (.int .i64 0)))))⟩),
         (3, ⟨(some 15), none, .no, .no, [0, 1, 2], [], .mv (.t 14)⟩),
         (4, ⟨(some 16), (some (15, false)), .no, .no, [0, 1, 2, 3], [], .fa 0 (.t 4)⟩),
         (5, ⟨(some 17), (some (15, false)), .no, .no, [0, 1, 2, 3, 4], [], .ld false 1 (.t 16)⟩),
         (6, ⟨(some 18), (some (15, false)), .no, .all, [0, 1, 2, 3, 4, 5], [], .call 23 [(false, (.t 17)), (false, (.k (.s (.c (.val (.int .i64 (-1000))))))), (false, (.k (.s (.c (.val (.int .i64 1000))))))]⟩),
         (7, ⟨(some 19), (some (15, false)), .no, .no, [0, 1, 2, 3, 4, 5, 6], [], .un .not (.t 18)⟩),
         (8, ⟨(some 20), none, .no, .no, [0, 1, 2, 3, 4, 5, 6, 7], [], .pick (.t 15) (.k (.s (.c (.val (.bool true))))) (.t 19)⟩),
         (9, ⟨(some 21), none, .no, .no, [0, 1, 2, 3, 4, 5, 6, 7, 8], [], .mv (.t 20)⟩),
         (10, ⟨(some 22), (some (21, false)), .no, .no, [0, 1, 2, 3, 4, 5, 6, 7, 8, 9], [], .ld true 4 (.t 4)⟩),
         (11, ⟨(some 23), (some (21, false)), .no, .all, [0, 1, 2, 3, 4, 5, 6, 7, 8, 9, 10], [], .call 87 [(false, (.t 22))]⟩),
         (12, ⟨(some 24), (some (21, false)), .no, .no, [0, 1, 2, 3, 4, 5, 6, 7, 8, 9, 10, 11], [], .un .not (.t 23)⟩),
         (13, ⟨(some 25), none, .no, .no, [0, 1, 2, 3, 4, 5, 6, 7, 8, 9, 10, 11, 12], [], .pick (.t 21) (.k (.s (.c (.val (.bool true))))) (.t 24)⟩),
         (14, ⟨(some 26), none, .no, .no, [0, 1, 2, 3, 4, 5, 6, 7, 8, 9, 10, 11, 12, 13], [], .mv (.t 25)⟩),
         (15, ⟨(some 27), (some (26, false)), .no, .no, [0, 1, 2, 3, 4, 5, 6, 7, 8, 9, 10, 11, 12, 13, 14], [], .mv (.t 3)⟩),
         (16, ⟨(some 28), (some (26, false)), .no, .no, [0, 1, 2, 3, 4, 5, 6, 7, 8, 9, 10, 11, 12, 13, 14, 15], [], .bin .gtr (.t 27) (.k (.s (.c (.val (.int .i64 0)))))⟩),
         (17, ⟨(some 29), (some (26, false)), .no, .no, [0, 1, 2, 3, 4, 5, 6, 7, 8, 9, 10, 11, 12, 13, 14, 15, 16], [], .mv (.t 28)⟩),
         (18, ⟨(some 30), (some (29, true)), .no, .no, [0, 1, 2, 3, 4, 5, 6, 7, 8, 9, 10, 11, 12, 13, 14, 15, 16, 17], [31, 32, 35], .mv (.t 0)⟩),
         (19, ⟨(some 31), (some (29, true)), .no, .no, [0, 1, 2, 3, 4, 5, 6, 7, 8, 9, 10, 11, 12, 13, 14, 15, 16, 17], [30, 35], .mv (.t 3)⟩),
         (20, ⟨(some 32), (some (29, true)), .no, .no, [0, 1, 2, 3, 4, 5, 6, 7, 8, 9, 10, 11, 12, 13, 14, 15, 16, 17, 19], [30, 35], .bin .sub (.t 31) (.k (.s (.c (.val (.int .i64 1)))))⟩),
         (21, ⟨(some 33), (some (29, true)), .no, .no, [0, 1, 2, 3, 4, 5, 6, 7, 8, 9, 10, 11, 12, 13, 14, 15, 16, 17, 18, 19, 20], [35], .ia 4 (.t 30) (.t 32)⟩),
         (22, ⟨(some 34), (some (29, true)), .no, .no, [0, 1, 2, 3, 4, 5, 6, 7, 8, 9, 10, 11, 12, 13, 14, 15, 16, 17, 18, 19, 20, 21], [35], .ld true 4 (.t 33)⟩),
         (23, ⟨(some 35), (some (29, true)), .no, .no, [0, 1, 2, 3, 4, 5, 6, 7, 8, 9, 10, 11, 12, 13, 14, 15, 16, 17], [30, 31, 32, 33, 34], .ld true 4 (.t 4)⟩),
         (24, ⟨(some 36), (some (29, true)), .no, .all, [0, 1, 2, 3, 4, 5, 6, 7, 8, 9, 10, 11, 12, 13, 14, 15, 16, 17, 18, 19, 20, 21, 22, 23], [], .call 88 [(false, (.t 34)), (false, (.t 35))]⟩),
         (25, ⟨(some 37), (some (29, true)), .no, .no, [0, 1, 2, 3, 4, 5, 6, 7, 8, 9, 10, 11, 12, 13, 14, 15, 16, 17, 18, 19, 20, 21, 22, 23, 24], [], .bin .geq (.t 36) (.k (.s (.c (.val (.int .i64 0)))))⟩),
         (26, ⟨(some 38), (some (26, false)), .no, .no, [0, 1, 2, 3, 4, 5, 6, 7, 8, 9, 10, 11, 12, 13, 14, 15, 16, 17, 18, 19, 20, 21, 22, 23, 24, 25], [], .pick (.t 29) (.t 37) (.k (.s (.c (.val (.bool false)))))⟩),
         (27, ⟨(some 39), none, .no, .no, [0, 1, 2, 3, 4, 5, 6, 7, 8, 9, 10, 11, 12, 13, 14, 15, 16, 17, 18, 19, 20, 21, 22, 23, 24, 25, 26], [], .pick (.t 26) (.k (.s (.c (.val (.bool true))))) (.t 38)⟩)] [0, 5, 6, 7, 39])
       (.cond (.t 39) (.seq (.ops [o 2 (.mv (.k (.s (.c (.val (.bool false))))))] [2])
         (.ret))
        (.skip)))))
    (.ops [o 40 (.bin .add (.t 7) (.k (.s (.c (.val (.int .i64 1)))))),
      o 7 (.mv (.t 40))] [0, 5, 6, 7])))
def b_impl_isPoly : PC :=
  .seq (.ops [o 2 (.mv (.k (.s (.c (.val (.bool false))))))] [0])
  (.seq (.seq (.ops [o 5 (.mv (.t 0)),
      o 6 (.len false (.t 5)),
      o 7 (.mv (.k (.s (.c (.val (.int .i64 0))))))] [0, 5, 6, 7])
    (.block 0
     (.loop [0, 5, 6, 7] l1_impl_isPoly)))
   (.seq (.ops [o 41 (.mv (.t 0)),
      o 42 (.len false (.t 41)),
      o 43 (.bin .leq (.t 42) (.k (.s (.c (.val (.int .i64 20)))))),
      o 2 (.mv (.t 43))] [2])
    (.ret)))
def c_impl_isPoly : PFunc := ⟨1, 44, b_impl_isPoly, [.t 2]⟩
def l1_impl_needsAtMost : PC :=
  .seq (.ops [o 18 (.bin .lss (.t 17) (.k (.s (.c (.val (.int .i64 3))))))] [1, 9, 10, 11, 16, 17, 18])
  (.seq (.cond (.t 18) (.skip)
    (.exit 2))
   (.seq (.block 3
     (.seq (.ops [o 19 (.mv (.t 17)),
        o 20 (.ixa false 3 1 (.t 16) (.t 17)),
        o 7 (.mv (.t 19)),
        o 8 (.mv (.t 20))] [1, 7, 8, 9, 10, 11, 16, 17])
      (.seq (.ops [o 21 (.mv (.t 7)),
         o 22 (.mv (.t 1)),
         o 23 (.bin .geq (.t 21) (.t 22)),
         o 24 (.mv (.t 23)),
         ⟨(some 25), (some (24, true)), .no, .no, [], [], .mv (.t 8)⟩,
         ⟨(some 26), (some (24, true)), .no, .no, [], [], .bin .gtr (.t 25) (.k (.s (.c (.val (.int .i64 0)))))⟩,
         o 27 (.pick (.t 24) (.t 26) (.k (.s (.c (.val (.bool false))))))] [1, 9, 10, 11, 16, 17, 27])
       (.cond (.t 27) (.seq (.ops [o 4 (.mv (.k (.s (.c (.val (.bool false))))))] [4])
         (.ret))
        (.skip)))))
    (.ops [o 28 (.bin .add (.t 17) (.k (.s (.c (.val (.int .i64 1)))))),
      o 17 (.mv (.t 28))] [1, 9, 10, 11, 16, 17])))
def l2_impl_needsAtMost : PC :=
  .seq (.ops [o 12 (.bin .lss (.t 11) (.t 10))] [1, 9, 10, 11, 12])
  (.seq (.cond (.t 12) (.skip)
    (.exit 0))
   (.seq (.block 1
     (.seq (.ops [o 13 (.ia 4 (.t 9) (.t 11)),
        o 14 (.ld true 4 (.t 13)),
        o 6 (.alloc [.c (.val (.int .i64 0)), .c (.val (.int .i64 0)), .c (.val (.int .i64 0)), .c (.val (.int .i64 0))]),
        u (.st 4 (.t 6) (.t 14))] [1, 6, 9, 10, 11])
      (.seq (.ops [o 15 (.ld true 4 (.t 6)),
         o 16 (.call 89 [(false, (.t 15))]),
         o 17 (.mv (.k (.s (.c (.val (.int .i64 0))))))] [1, 9, 10, 11, 16, 17])
       (.block 2
        (.loop [1, 9, 10, 11, 16, 17] l1_impl_needsAtMost)))))
    (.ops [o 29 (.bin .add (.t 11) (.k (.s (.c (.val (.int .i64 1)))))),
      o 11 (.mv (.t 29))] [1, 9, 10, 11])))
def b_impl_needsAtMost : PC :=
  .seq (.ops [o 4 (.mv (.k (.s (.c (.val (.bool false))))))] [0, 1])
  (.seq (.seq (.ops [o 9 (.mv (.t 0)),
      o 10 (.len false (.t 9)),
      o 11 (.mv (.k (.s (.c (.val (.int .i64 0))))))] [1, 9, 10, 11])
    (.block 0
     (.loop [1, 9, 10, 11] l2_impl_needsAtMost)))
   (.seq (.ops [o 4 (.mv (.k (.s (.c (.val (.bool true))))))] [4])
    (.ret)))
def c_impl_needsAtMost : PFunc := ⟨2, 30, b_impl_needsAtMost, [.t 4]⟩
def l1_impl_scaled : PC :=
  .seq (.ops [o 11 (.bin .lss (.t 10) (.t 9))] [1, 5, 8, 9, 10, 11])
  (.seq (.cond (.t 11) (.skip)
    (.exit 0))
   (.seq (.block 1
     (.seq (.ops [o 12 (.ia 1 (.t 8) (.t 10)),
        o 13 (.ld false 1 (.t 12)),
        o 7 (.mv (.t 13))] [1, 5, 7, 8, 9, 10])
      (.ops [o 14 (.mv (.t 5)),
        o 15 (.mv (.t 7)),
        o 16 (.mv (.t 1)),
        o 17 (.bin .shl (.t 15) (.t 16)),
        o 18 (.bs (.fl 1) [(.t 17)]),
        o 19 (.app (.fl 1) 8 (.t 14) (.t 18)),
        o 5 (.mv (.t 19))] [1, 5, 8, 9, 10])))
    (.ops [o 20 (.bin .add (.t 10) (.k (.s (.c (.val (.int .i64 1)))))),
      o 10 (.mv (.t 20))] [1, 5, 8, 9, 10])))
def b_impl_scaled : PC :=
  .seq (.ops [o 4 (.mkn (.fl 1))] [0, 1])
  (.seq (.ops [o 5 (.mkn (.fl 1))] [0, 1, 5])
   (.seq (.seq (.ops [o 8 (.mv (.t 0)),
       o 9 (.len false (.t 8)),
       o 10 (.mv (.k (.s (.c (.val (.int .i64 0))))))] [1, 5, 8, 9, 10])
     (.block 0
      (.loop [1, 5, 8, 9, 10] l1_impl_scaled)))
    (.seq (.ops [o 21 (.mv (.t 5)),
       o 4 (.mv (.t 21))] [4])
     (.ret))))
def c_impl_scaled : PFunc := ⟨2, 22, b_impl_scaled, [.t 4]⟩
def b_cmp_Compare_int : PC :=
  .seq (.ops [o 4 (.mv (.k (.s (.c (.val (.int .i64 0))))))] [0, 1])
  (.seq (.ops [o 7 (.mv (.t 0)),
     o 8 (.call 93 [(false, (.t 7))]),
     o 5 (.mv (.t 8))] [0, 1, 5])
   (.seq (.ops [o 9 (.mv (.t 1)),
      o 10 (.call 93 [(false, (.t 9))]),
      o 6 (.mv (.t 10))] [0, 1, 5, 6])
    (.seq (.seq (.ops [o 11 (.mv (.t 5))] [0, 1, 6, 11])
      (.cond (.t 11) (.seq (.seq (.ops [o 12 (.mv (.t 6))] [12])
         (.cond (.t 12) (.seq (.ops [o 4 (.mv (.k (.s (.c (.val (.int .i64 0))))))] [4])
           (.ret))
          (.skip)))
        (.seq (.ops [o 4 (.mv (.k (.s (.c (.val (.int .i64 (-1)))))))] [4])
         (.ret)))
       (.skip)))
     (.seq (.seq (.ops [o 13 (.mv (.t 6))] [0, 1, 13])
       (.cond (.t 13) (.seq (.ops [o 4 (.mv (.k (.s (.c (.val (.int .i64 1))))))] [4])
         (.ret))
        (.skip)))
      (.seq (.seq (.ops [o 14 (.mv (.t 0)),
          o 15 (.mv (.t 1)),
          o 16 (.bin .lss (.t 14) (.t 15))] [0, 1, 16])
        (.cond (.t 16) (.seq (.ops [o 4 (.mv (.k (.s (.c (.val (.int .i64 (-1)))))))] [4])
          (.ret))
         (.skip)))
       (.seq (.seq (.ops [o 17 (.mv (.t 0)),
           o 18 (.mv (.t 1)),
           o 19 (.bin .gtr (.t 17) (.t 18))] [19])
         (.cond (.t 19) (.seq (.ops [o 4 (.mv (.k (.s (.c (.val (.int .i64 1))))))] [4])
           (.ret))
          (.skip)))
        (.seq (.ops [o 4 (.mv (.k (.s (.c (.val (.int .i64 0))))))] [4])
         (.ret))))))))
def c_cmp_Compare_int : PFunc := ⟨2, 20, b_cmp_Compare_int, [.t 4]⟩
def b_spec_poTerm : PC :=
  .seq (.ops [o 1 (.box (.t 0)),
    o 2 (.mv (.k (.s (.c (.val (.bool false))))))] [1])
  (.seq (.ops [o 3 (.fa 0 (.t 1)),
     o 4 (.ld false 1 (.t 3)),
     o 5 (.call 14 [(false, (.t 4)), (false, (.k (.s (.c (.val (.int .i64 (-1000))))))), (false, (.k (.s (.c (.val (.int .i64 1000))))))]),
     o 6 (.mv (.t 5)),
     ⟨(some 7), (some (6, true)), .no, .no, [], [], .fa 1 (.t 1)⟩,
     ⟨(some 8), (some (6, true)), .no, .no, [], [], .ld false 1 (.t 7)⟩,
     ⟨(some 9), (some (6, true)), .no, .no, [], [], .call 14 [(false, (.t 8)), (false, (.k (.s (.c (.val (.int .i64 0)))))), (false, (.k (.s (.c (.val (.int .i64 4))))))]⟩,
     o 10 (.pick (.t 6) (.t 9) (.k (.s (.c (.val (.bool false)))))),
     o 11 (.mv (.t 10)),
     ⟨(some 12), (some (11, true)), .no, .no, [], [], .fa 2 (.t 1)⟩,
     ⟨(some 13), (some (11, true)), .no, .no, [], [], .ld false 1 (.t 12)⟩,
     ⟨(some 14), (some (11, true)), .no, .no, [], [], .call 14 [(false, (.t 13)), (false, (.k (.s (.c (.val (.int .i64 0)))))), (false, (.k (.s (.c (.val (.int .i64 4))))))]⟩,
     o 15 (.pick (.t 11) (.t 14) (.k (.s (.c (.val (.bool false)))))),
     o 16 (.mv (.t 15)),
     ⟨(some 17), (some (16, true)), .no, .no, [], [], .fa 3 (.t 1)⟩,
     ⟨(some 18), (some (16, true)), .no, .no, [], [], .ld false 1 (.t 17)⟩,
     ⟨(some 19), (some (16, true)), .no, .no, [], [], .call 14 [(false, (.t 18)), (false, (.k (.s (.c (.val (.int .i64 0)))))), (false, (.k (.s (.c (.val (.int .i64 4))))))]⟩,
     o 20 (.pick (.t 16) (.t 19) (.k (.s (.c (.val (.bool false)))))),
     o 21 (.mv (.t 20)),
     ⟨(some 22), (some (21, true)), .no, .no, [], [], .fa 1 (.t 1)⟩,
     ⟨(some 23), (some (21, true)), .no, .no, [], [], .ld false 1 (.t 22)⟩,
     ⟨(some 24), (some (21, true)), .no, .no, [], [], .fa 2 (.t 1)⟩,
     ⟨(some 25), (some (21, true)), .no, .no, [], [], .ld false 1 (.t 24)⟩,
     ⟨(some 26), (some (21, true)), .no, .no, [], [], .bin .add (.t 23) (.t 25)⟩,
     ⟨(some 27), (some (21, true)), .no, .no, [], [], .fa 3 (.t 1)⟩,
     ⟨(some 28), (some (21, true)), .no, .no, [], [], .ld false 1 (.t 27)⟩,
     ⟨(some 29), (some (21, true)), .no, .no, [], [], .bin .add (.t 26) (.t 28)⟩,
     ⟨(some 30), (some (21, true)), .no, .no, [], [], .bin .leq (.t 29) (.k (.s (.c (.val (.int .i64 4)))))⟩,
     o 31 (.pick (.t 21) (.t 30) (.k (.s (.c (.val (.bool false)))))),
     o 2 (.mv (.t 31))] [2])
   (.ret))
def c_spec_poTerm : PFunc := ⟨1, 32, b_spec_poTerm, [.t 2]⟩
def b_spec_poOrder : PC :=
  .seq (.ops [o 2 (.box (.t 0)),
    o 3 (.box (.t 1)),
    o 4 (.mv (.k (.s (.c (.val (.int .i64 0))))))] [2, 3])
  (.seq (.block 0
    (.seq (.ops [o 6 (.fa 1 (.t 2)),
       o 7 (.ld false 1 (.t 6)),
       o 8 (.fa 1 (.t 3)),
       o 9 (.ld false 1 (.t 8)),
       o 10 (.bin .neq (.t 7) (.t 9)),
       o 5 (.mv (.t 10))] [2, 3, 5])
     (.cond (.t 5) (.seq (.ops [o 11 (.fa 1 (.t 2)),
         o 12 (.ld false 1 (.t 11)),
         o 13 (.fa 1 (.t 3)),
         o 14 (.ld false 1 (.t 13)),
         o 15 (.bin .sub (.t 12) (.t 14)),
         o 16 (.call 86 [(false, (.t 15))]),
         o 4 (.mv (.t 16))] [4])
       (.ret))
      (.seq (.ops [o 18 (.fa 2 (.t 2)),
         o 19 (.ld false 1 (.t 18)),
         o 20 (.fa 2 (.t 3)),
         o 21 (.ld false 1 (.t 20)),
         o 22 (.bin .neq (.t 19) (.t 21)),
         o 17 (.mv (.t 22))] [2, 3, 17])
       (.cond (.t 17) (.seq (.ops [o 23 (.fa 2 (.t 2)),
           o 24 (.ld false 1 (.t 23)),
           o 25 (.fa 2 (.t 3)),
           o 26 (.ld false 1 (.t 25)),
           o 27 (.bin .sub (.t 24) (.t 26)),
           o 28 (.call 86 [(false, (.t 27))]),
           o 4 (.mv (.t 28))] [4])
         (.ret))
        (.skip))))))
   (.seq (.ops [o 29 (.fa 3 (.t 2)),
      o 30 (.ld false 1 (.t 29)),
      o 31 (.fa 3 (.t 3)),
      o 32 (.ld false 1 (.t 31)),
      o 33 (.bin .sub (.t 30) (.t 32)),
      o 34 (.call 86 [(false, (.t 33))]),
      o 4 (.mv (.t 34))] [4])
    (.ret)))
def c_spec_poOrder : PFunc := ⟨2, 35, b_spec_poOrder, [.t 4]⟩
def b_spec_poPower : PC :=
  .seq (.ops [o 2 (.box (.t 0)),
    o 4 (.mv (.k (.s (.c (.val (.int .i64 0))))))] [1, 2])
  (.seq (.seq (.ops [o 5 (.mv (.t 1))] [2, 5])
    (.block 0
     (.seq (.ops [o 7 (.bin .eql (.t 5) (.k (.s (.c (.val (.int .i64 0)))))),
        o 6 (.mv (.t 7))] [2, 5, 6])
      (.cond (.t 6) (.seq (.ops [o 8 (.fa 1 (.t 2)),
          o 9 (.ld false 1 (.t 8)),
          o 4 (.mv (.t 9))] [4])
        (.ret))
       (.seq (.ops [o 11 (.bin .eql (.t 5) (.k (.s (.c (.val (.int .i64 1)))))),
          o 10 (.mv (.t 11))] [2, 10])
        (.cond (.t 10) (.seq (.ops [o 12 (.fa 2 (.t 2)),
            o 13 (.ld false 1 (.t 12)),
            o 4 (.mv (.t 13))] [4])
          (.ret))
         (.skip)))))))
   (.seq (.ops [o 14 (.fa 3 (.t 2)),
      o 15 (.ld false 1 (.t 14)),
      o 4 (.mv (.t 15))] [4])
    (.ret)))
def c_spec_poPower : PFunc := ⟨2, 16, b_spec_poPower, [.t 4]⟩
def b_impl_hasDegree : PC :=
  .seq (.ops [o 1 (.box (.t 0)),
    o 2 (.mv (.k (.s (.c (.val (.bool false))))))] [1])
  (.seq (.ops [o 3 (.fa 1 (.t 1)),
     o 4 (.ld false 1 (.t 3)),
     o 5 (.call 23 [(false, (.t 4)), (false, (.k (.s (.c (.val (.int .i64 0)))))), (false, (.k (.s (.c (.val (.int .i64 4))))))]),
     o 6 (.mv (.t 5)),
     ⟨(some 7), (some (6, true)), .no, .no, [], [], .fa 2 (.t 1)⟩,
     ⟨(some 8), (some (6, true)), .no, .no, [], [], .ld false 1 (.t 7)⟩,
     ⟨(some 9), (some (6, true)), .no, .no, [], [], .call 23 [(false, (.t 8)), (false, (.k (.s (.c (.val (.int .i64 0)))))), (false, (.k (.s (.c (.val (.int .i64 4))))))]⟩,
     o 10 (.pick (.t 6) (.t 9) (.k (.s (.c (.val (.bool false)))))),
     o 11 (.mv (.t 10)),
     ⟨(some 12), (some (11, true)), .no, .no, [], [], .fa 3 (.t 1)⟩,
     ⟨(some 13), (some (11, true)), .no, .no, [], [], .ld false 1 (.t 12)⟩,
     ⟨(some 14), (some (11, true)), .no, .no, [], [], .call 23 [(false, (.t 13)), (false, (.k (.s (.c (.val (.int .i64 0)))))), (false, (.k (.s (.c (.val (.int .i64 4))))))]⟩,
     o 15 (.pick (.t 11) (.t 14) (.k (.s (.c (.val (.bool false)))))),
     o 16 (.mv (.t 15)),
     ⟨(some 17), (some (16, true)), .no, .no, [], [], .ld true 4 (.t 1)⟩,
     ⟨(some 18), (some (16, true)), .no, .no, [], [], .call 90 [(false, (.t 17))]⟩,
     ⟨(some 19), (some (16, true)), .no, .no, [], [], .bin .leq (.t 18) (.k (.s (.c (.val (.int .i64 4)))))⟩,
     o 20 (.pick (.t 16) (.t 19) (.k (.s (.c (.val (.bool false)))))),
     o 2 (.mv (.t 20))] [2])
   (.ret))
def c_impl_hasDegree : PFunc := ⟨1, 21, b_impl_hasDegree, [.t 2]⟩
def b_impl_compareTerms : PC :=
  .seq (.ops [o 2 (.box (.t 0)),
    o 3 (.box (.t 1)),
    o 4 (.mv (.k (.s (.c (.val (.int .i64 0))))))] [2, 3])
  (.seq (.dops [(0, ⟨(some 5), none, .no, .no, [], [7, 8, 10, 11, 12, 13, 15, 16, 17, 18], .fa 1 (.t 2)⟩),
     (1, ⟨(some 6), none, .no, .no, [0], [7, 8, 10, 11, 12, 13, 15, 16, 17, 18], .ld false 1 (.t 5)⟩),
     (2, ⟨(some 7), none, .no, .no, [], [5, 6, 10, 11, 12, 13, 15, 16, 17, 18], .fa 1 (.t 3)⟩),
     (3, ⟨(some 8), none, .no, .no, [2], [5, 6, 10, 11, 12, 13, 15, 16, 17, 18], .ld false 1 (.t 7)⟩),
     (5, ⟨(some 10), none, .no, .no, [], [5, 6, 7, 8, 9, 12, 13, 15, 16, 17, 18], .fa 2 (.t 2)⟩),
     (6, ⟨(some 11), none, .no, .no, [4], [5, 6, 7, 8, 9, 12, 13, 15, 16, 17, 18], .ld false 1 (.t 10)⟩),
     (7, ⟨(some 12), none, .no, .no, [], [5, 6, 7, 8, 9, 10, 11, 15, 16, 17, 18], .fa 2 (.t 3)⟩),
     (8, ⟨(some 13), none, .no, .no, [6], [5, 6, 7, 8, 9, 10, 11, 15, 16, 17, 18], .ld false 1 (.t 12)⟩),
     (10, ⟨(some 15), none, .no, .no, [], [5, 6, 7, 8, 9, 10, 11, 12, 13, 14, 17, 18], .fa 3 (.t 2)⟩),
     (11, ⟨(some 16), none, .no, .no, [8], [5, 6, 7, 8, 9, 10, 11, 12, 13, 14, 17, 18], .ld false 1 (.t 15)⟩),
     (12, ⟨(some 17), none, .no, .no, [], [5, 6, 7, 8, 9, 10, 11, 12, 13, 14, 15, 16], .fa 3 (.t 3)⟩),
     (13, ⟨(some 18), none, .no, .no, [10], [5, 6, 7, 8, 9, 10, 11, 12, 13, 14, 15, 16], .ld false 1 (.t 17)⟩),
     (4, ⟨(some 9), none, .no, .no, [0, 1, 2, 3], [10, 11, 12, 13, 15, 16, 17, 18], .call 91 [(false, (.t 6)), (false, (.t 8))]⟩),
     (9, ⟨(some 14), none, .no, .no, [0, 1, 2, 3, 4, 5, 6, 7, 12], [15, 16, 17, 18], .call 91 [(false, (.t 11)), (false, (.t 13))]⟩),
     (14, ⟨(some 19), none, .no, .all, [0, 1, 2, 3, 4, 5, 6, 7, 8, 9, 10, 11, 12, 13], [], .call 91 [(false, (.t 16)), (false, (.t 18))]⟩),
     (15, ⟨(some 20), none, .no, .all, [0, 1, 2, 3, 4, 5, 6, 7, 8, 9, 10, 11, 12, 13, 14], [], .bs (.fl 1) [(.t 9), (.t 14), (.t 19)]⟩),
     (16, ⟨(some 21), none, .no, .all, [0, 1, 2, 3, 4, 5, 6, 7, 8, 9, 10, 11, 12, 13, 14, 15], [], .call 92 [(false, (.t 20))]⟩),
     (17, ⟨(some 4), none, .no, .no, [0, 1, 2, 3, 4, 5, 6, 7, 8, 9, 10, 11, 12, 13, 14, 15, 16], [], .mv (.t 21)⟩)] [4])
   (.ret))
def c_impl_compareTerms : PFunc := ⟨2, 22, b_impl_compareTerms, [.t 4]⟩
def b_impl_Term_exponents : PC :=
  .seq (.ops [o 1 (.box (.t 0)),
    o 2 (.alloc [.c (.val (.int .i64 0)), .c (.val (.int .i64 0)), .c (.val (.int .i64 0))])] [1, 2])
  (.seq (.ops [o 3 (.fa 1 (.t 1)),
     o 4 (.ld false 1 (.t 3)),
     o 5 (.fa 2 (.t 1)),
     o 6 (.ld false 1 (.t 5)),
     o 7 (.fa 3 (.t 1)),
     o 8 (.ld false 1 (.t 7)),
     o 9 (.build [.c (.val (.int .i64 0)), .c (.val (.int .i64 0)), .c (.val (.int .i64 0))] [(0, 1, (.t 4)), (1, 1, (.t 6)), (2, 1, (.t 8))]),
     u (.st 3 (.t 2) (.t 9))] [2])
   (.ret))
def c_impl_Term_exponents : PFunc := ⟨1, 10, b_impl_Term_exponents, [.cell 2 true 3]⟩
def b_cmp_isNaN_int : PC :=
  .seq (.ops [o 2 (.mv (.k (.s (.c (.val (.bool false))))))] [0])
  (.seq (.ops [o 3 (.mv (.t 0)),
     o 4 (.mv (.t 0)),
     o 5 (.bin .neq (.t 3) (.t 4)),
     o 2 (.mv (.t 5))] [2])
   (.ret))
def c_cmp_isNaN_int : PFunc := ⟨1, 6, b_cmp_isNaN_int, [.t 2]⟩
def b_spec_l1Sign : PC :=
  .seq (.ops [o 2 (.mv (.k (.s (.c (.val (.int .i64 0))))))] [0])
  (.seq (.block 0
    (.seq (.ops [o 4 (.mv (.t 0)),
       o 5 (.bin .gtr (.t 4) (.k (.s (.c (.val (.int .i64 0)))))),
       o 3 (.mv (.t 5))] [0, 3])
     (.cond (.t 3) (.seq (.ops [o 2 (.mv (.k (.s (.c (.val (.int .i64 1))))))] [2])
       (.ret))
      (.seq (.ops [o 7 (.mv (.t 0)),
         o 8 (.bin .lss (.t 7) (.k (.s (.c (.val (.int .i64 0)))))),
         o 6 (.mv (.t 8))] [6])
       (.cond (.t 6) (.seq (.ops [o 2 (.mv (.k (.s (.c (.val (.int .i64 (-1)))))))] [2])
         (.ret))
        (.skip))))))
   (.seq (.ops [o 2 (.mv (.k (.s (.c (.val (.int .i64 0))))))] [2])
    (.ret)))
def c_spec_l1Sign : PFunc := ⟨1, 9, b_spec_l1Sign, [.t 2]⟩
def b_impl_Term_degree : PC :=
  .seq (.ops [o 1 (.box (.t 0)),
    o 2 (.mv (.k (.s (.c (.val (.int .i64 0))))))] [1])
  (.seq (.ops [o 3 (.fa 1 (.t 1)),
     o 4 (.ld false 1 (.t 3)),
     o 5 (.fa 2 (.t 1)),
     o 6 (.ld false 1 (.t 5)),
     o 7 (.bin .add (.t 4) (.t 6)),
     o 8 (.fa 3 (.t 1)),
     o 9 (.ld false 1 (.t 8)),
     o 10 (.bin .add (.t 7) (.t 9)),
     o 2 (.mv (.t 10))] [2])
   (.ret))
def c_impl_Term_degree : PFunc := ⟨1, 11, b_impl_Term_degree, [.t 2]⟩
abbrev n_laws_FnExactJoinCatalogues : Nat := 95
abbrev n_laws_FnExactChangedSystems : Nat := 96
abbrev n_laws_szEntryS : Nat := 2
abbrev n_laws_toEntryS : Nat := 3
abbrev n_laws_eqEntryS : Nat := 6
abbrev n_laws_intactEntryS : Nat := 7
abbrev n_laws_markEntryS : Nat := 8
abbrev n_laws_heldEntryS : Nat := 9
abbrev n_spec_JoinCatalogues : Nat := 101
abbrev n_impl_JoinCatalogues : Nat := 102
abbrev n_spec_ChangedSystems : Nat := 103
abbrev n_impl_ChangedSystems : Nat := 104
abbrev n_laws_eqStringS : Nat := 105
abbrev n_laws_markStringS : Nat := 106
abbrev n_laws_heldStringS : Nat := 107
abbrev n_laws_szEntry : Nat := 10
abbrev n_laws_roomBehind : Nat := 19
abbrev n_laws_toEntry : Nat := 20
abbrev n_laws_fillerEntry : Nat := 21
abbrev n_laws_eqEntry : Nat := 27
abbrev n_laws_intactEntry : Nat := 28
abbrev n_laws_markTermSS : Nat := 30
abbrev n_laws_markText : Nat := 29
abbrev n_laws_markIntS : Nat := 31
abbrev n_laws_heldTermSS : Nat := 32
abbrev n_laws_heldIntS : Nat := 33
abbrev n_spec_caGood : Nat := 12
abbrev n_spec_caPlace : Nat := 11
abbrev n_spec_caAt : Nat := 13
abbrev n_spec_caOwnAll : Nat := 38
abbrev n_spec_caPut : Nat := 18
abbrev n_spec_caMeet : Nat := 124
abbrev n_impl_isCatalogue : Nat := 22
abbrev n_impl_copyEntries : Nat := 25
abbrev n_impl_entryPlace : Nat := 24
abbrev n_impl_catalogueResult : Nat := 26
abbrev n_slices_Insert_SimplEntryimplEntry : Nat := 121
abbrev n_impl_copyEntry : Nat := 47
abbrev n_impl_sameSystem : Nat := 122
abbrev n_spec_caEqual : Nat := 125
abbrev n_spec_jrPut : Nat := 126
abbrev n_impl_changedIn : Nat := 127
abbrev n_slices_Sort_Sstringstring : Nat := 128
abbrev n_slices_Compact_Sstringstring : Nat := 129
abbrev n_laws_szTermSS : Nat := 34
abbrev n_laws_szBox : Nat := 35
abbrev n_laws_toTermSS : Nat := 40
abbrev n_laws_toBox : Nat := 41
abbrev n_laws_fillerTerm : Nat := 42
abbrev n_laws_fillerBox : Nat := 43
abbrev n_laws_eqTermSS : Nat := 48
abbrev n_laws_eqBox : Nat := 49
abbrev n_laws_intactTermSS : Nat := 50
abbrev n_laws_intactBox : Nat := 51
abbrev n_laws_markTermS : Nat := 52
abbrev n_laws_heldTermS : Nat := 53
abbrev n_spec_caEntry : Nat := 17
abbrev n_spec_caOwn : Nat := 39
abbrev n_spec_caSame : Nat := 123
abbrev n_spec_l1Most : Nat := 15
abbrev n_spec_l1Least : Nat := 16
abbrev n_impl_isEntry : Nat := 44
abbrev n_slices_BinarySearchFunc_SimplEntryimplEntrystring : Nat := 45
abbrev n_impl_entryPlace_in1 : Nat := 46
abbrev n_impl_copySystem : Nat := 64
abbrev n_impl_copyBoxes : Nat := 65
abbrev n_slices_EqualFunc_SSimplTermSSimplTermSimplTermSimplTerm : Nat := 140
abbrev n_slices_Equal_SimplTermimplTerm : Nat := 141
abbrev n_impl_sameBox : Nat := 142
abbrev n_laws_szTermS : Nat := 54
abbrev n_laws_szIntS : Nat := 55
abbrev n_laws_toTermS : Nat := 60
abbrev n_laws_toIntS : Nat := 61
abbrev n_laws_eqTermS : Nat := 66
abbrev n_laws_eqIntS : Nat := 67
abbrev n_laws_intactTermS : Nat := 68
abbrev n_laws_intactIntS : Nat := 69
abbrev n_spec_l1In : Nat := 14
abbrev n_spec_caName : Nat := 36
abbrev n_spec_vaBoth : Nat := 37
abbrev n_spec_caSystem : Nat := 58
abbrev n_spec_l1Own : Nat := 59
abbrev n_spec_l1Same : Nat := 143
abbrev n_spec_txSame : Nat := 144
abbrev n_impl_inside : Nat := 23
abbrev n_impl_systemOver : Nat := 62
abbrev n_strings_Compare : Nat := 63
abbrev n_slices_Clone_SimplTermimplTerm : Nat := 77
abbrev n_slices_Clone_Sintint : Nat := 78
abbrev n_impl_compareBoxes : Nat := 153
abbrev n_laws_toTerm : Nat := 73
abbrev n_laws_eqTerm : Nat := 79
abbrev n_spec_poSystem : Nat := 56
abbrev n_spec_bxGood : Nat := 57
abbrev n_impl_isSystem : Nat := 74
abbrev n_impl_isBox : Nat := 75
abbrev n_bytealg_CompareString : Nat := 76
abbrev n_impl_align : Nat := 167
abbrev n_cmp_Or_int : Nat := 92
abbrev n_slices_Compare_Sintint : Nat := 168
abbrev n_spec_poGood : Nat := 70
abbrev n_spec_poDegreeIn : Nat := 71
abbrev n_spec_dyPower : Nat := 72
abbrev n_impl_isPoly : Nat := 83
abbrev n_impl_needsAtMost : Nat := 84
abbrev n_bytealg_abigen_runtime_cmpstring : Nat := 85
abbrev n_impl_scaled : Nat := 178
abbrev n_cmp_Compare_int : Nat := 91
abbrev n_spec_poTerm : Nat := 80
abbrev n_spec_poOrder : Nat := 81
abbrev n_spec_poPower : Nat := 82
abbrev n_impl_hasDegree : Nat := 87
abbrev n_impl_compareTerms : Nat := 88
abbrev n_impl_Term_exponents : Nat := 89
abbrev n_cmp_isNaN_int : Nat := 93
abbrev n_spec_l1Sign : Nat := 86
abbrev n_impl_Term_degree : Nat := 90
def ids : Nat → FuncId := fun i => ([(95, 5), (96, 6), (2, 26), (3, 29), (6, 32), (7, 33), (8, 36), (9, 39), (101, 40), (102, 41), (103, 42), (104, 43), (105, 44), (106, 45), (107, 46), (10, 76), (19, 79), (20, 80), (21, 81), (27, 85), (28, 86), (30, 37), (29, 90), (31, 91), (32, 93), (33, 94), (12, 60), (11, 62), (13, 63), (38, 65), (18, 66), (124, 95), (22, 52), (25, 54), (24, 55), (26, 56), (121, 57), (47, 58), (122, 59), (125, 96), (126, 97), (127, 98), (128, 99), (129, 100), (34, 27), (35, 28), (40, 30), (41, 31), (42, 83), (43, 123), (48, 88), (49, 125), (50, 34), (51, 35), (52, 92), (53, 128), (17, 61), (39, 122), (123, 64), (15, 70), (16, 71), (44, 53), (45, 108), (46, 109), (64, 113), (65, 114), (140, 115), (141, 116), (142, 117), (54, 77), (55, 78), (60, 82), (61, 84), (66, 126), (67, 127), (68, 87), (69, 89), (14, 69), (36, 118), (37, 119), (58, 143), (59, 144), (143, 120), (144, 121), (23, 68), (62, 107), (63, 110), (77, 138), (78, 139), (153, 140), (73, 124), (79, 145), (56, 141), (57, 142), (74, 134), (75, 135), (76, 136), (167, 164), (92, 165), (168, 166), (70, 167), (71, 168), (72, 132), (83, 160), (84, 161), (85, 162), (178, 180), (91, 181), (80, 182), (81, 183), (82, 184), (87, 177), (88, 178), (89, 179), (93, 188), (86, 189), (90, 187)].lookup i).getD 0
def tabL : List (Nat × PFunc) := [(95, c_laws_FnExactJoinCatalogues), (96, c_laws_FnExactChangedSystems), (2, c_laws_szEntryS), (3, c_laws_toEntryS), (6, c_laws_eqEntryS), (7, c_laws_intactEntryS), (8, c_laws_markEntryS), (9, c_laws_heldEntryS), (101, c_spec_JoinCatalogues), (102, c_impl_JoinCatalogues), (103, c_spec_ChangedSystems), (104, c_impl_ChangedSystems), (105, c_laws_eqStringS), (106, c_laws_markStringS), (107, c_laws_heldStringS), (10, c_laws_szEntry), (19, c_laws_roomBehind), (20, c_laws_toEntry), (21, c_laws_fillerEntry), (27, c_laws_eqEntry), (28, c_laws_intactEntry), (30, c_laws_markTermSS), (29, c_laws_markText), (31, c_laws_markIntS), (32, c_laws_heldTermSS), (33, c_laws_heldIntS), (12, c_spec_caGood), (11, c_spec_caPlace), (13, c_spec_caAt), (38, c_spec_caOwnAll), (18, c_spec_caPut), (124, c_spec_caMeet), (22, c_impl_isCatalogue), (25, c_impl_copyEntries), (24, c_impl_entryPlace), (26, c_impl_catalogueResult), (47, c_impl_copyEntry), (122, c_impl_sameSystem), (125, c_spec_caEqual), (126, c_spec_jrPut), (127, c_impl_changedIn), (34, c_laws_szTermSS), (35, c_laws_szBox), (40, c_laws_toTermSS), (41, c_laws_toBox), (42, c_laws_fillerTerm), (43, c_laws_fillerBox), (48, c_laws_eqTermSS), (49, c_laws_eqBox), (50, c_laws_intactTermSS), (51, c_laws_intactBox), (52, c_laws_markTermS), (53, c_laws_heldTermS), (17, c_spec_caEntry), (39, c_spec_caOwn), (123, c_spec_caSame), (15, c_spec_l1Most), (16, c_spec_l1Least), (44, c_impl_isEntry), (45, c_slices_BinarySearchFunc_SimplEntryimplEntrystring), (46, c_impl_entryPlace_in1), (64, c_impl_copySystem), (65, c_impl_copyBoxes), (140, c_slices_EqualFunc_SSimplTermSSimplTermSimplTermSimplTerm), (141, c_slices_Equal_SimplTermimplTerm), (142, c_impl_sameBox), (54, c_laws_szTermS), (55, c_laws_szIntS), (60, c_laws_toTermS), (61, c_laws_toIntS), (66, c_laws_eqTermS), (67, c_laws_eqIntS), (68, c_laws_intactTermS), (69, c_laws_intactIntS), (14, c_spec_l1In), (36, c_spec_caName), (37, c_spec_vaBoth), (58, c_spec_caSystem), (59, c_spec_l1Own), (143, c_spec_l1Same), (144, c_spec_txSame), (23, c_impl_inside), (62, c_impl_systemOver), (63, c_strings_Compare), (153, c_impl_compareBoxes), (73, c_laws_toTerm), (79, c_laws_eqTerm), (56, c_spec_poSystem), (57, c_spec_bxGood), (74, c_impl_isSystem), (75, c_impl_isBox), (76, c_bytealg_CompareString), (167, c_impl_align), (92, c_cmp_Or_int), (168, c_slices_Compare_Sintint), (70, c_spec_poGood), (71, c_spec_poDegreeIn), (72, c_spec_dyPower), (83, c_impl_isPoly), (84, c_impl_needsAtMost), (178, c_impl_scaled), (91, c_cmp_Compare_int), (80, c_spec_poTerm), (81, c_spec_poOrder), (82, c_spec_poPower), (87, c_impl_hasDegree), (88, c_impl_compareTerms), (89, c_impl_Term_exponents), (93, c_cmp_isNaN_int), (86, c_spec_l1Sign), (90, c_impl_Term_degree)]
def tab : Nat → Option PFunc := fun i => tabL.lookup i
end Go.Proofs.YtecmolmlojehgaaGreat.T
