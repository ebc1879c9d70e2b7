/-
  Plans of open-order regions in which calls with effects stand.
-/
import Derived.Test.YtnlheljpagpiiaaGreatTab
namespace Go.Proofs.YtnlheljpagpiiaaGreat
def pm23_11 : Plan := .q 0 (.q 1 (.q 2 (.q 3 (.q 4 (.q 5 (.q 6 (.q 7 (.q 8 (.q 9 (.one 10 false (.one 11 true (.q 12 (.q 13 (.q 14 (.q 15 (.done))))))))))))))))
def pm24_8 : Plan := .q 0 (.q 1 (.q 2 (.q 3 (.one 4 false (.q 5 (.q 6 (.q 7 (.done))))))))
def pm31_1 : Plan := .q 0 (.one 1 false (.one 2 true (.q 3 (.q 4 (.q 5 (.q 6 (.q 7 (.done))))))))
def pm35_8 : Plan := .q 0 (.q 1 (.q 2 (.q 3 (.q 4 (.q 5 (.q 6 (.q 7 (.q 8 (.one 9 true (.q 10 (.q 11 (.q 12 (.q 13 (.q 14 (.done)))))))))))))))
def pm36_6 : Plan := .q 0 (.q 1 (.q 2 (.q 3 (.q 4 (.q 5 (.q 6 (.q 7 (.q 8 (.q 9 (.one 10 true (.q 11 (.q 12 (.q 13 (.q 14 (.q 15 (.done))))))))))))))))
def pm37_3 : Plan := .q 0 (.q 1 (.q 2 (.q 3 (.q 4 (.q 5 (.q 6 (.q 7 (.q 8 (.q 9 (.one 10 true (.q 11 (.q 12 (.q 13 (.q 14 (.q 15 (.done))))))))))))))))
def pm37_4 : Plan := .q 0 (.q 1 (.q 2 (.q 3 (.q 4 (.q 5 (.q 6 (.q 7 (.q 8 (.q 9 (.q 10 (.q 11 (.q 12 (.q 13 (.q 14 (.one 15 true (.q 16 (.q 17 (.q 18 (.q 19 (.done))))))))))))))))))))
def pm54_12 : Plan := .q 0 (.q 1 (.q 2 (.q 3 (.q 4 (.q 5 (.q 6 (.q 7 (.one 8 true (.done)))))))))
def pm60_1 : Plan := .q 0 (.q 1 (.q 2 (.q 3 (.q 4 (.q 5 (.q 6 (.q 7 (.q 8 (.one 9 true (.q 10 (.q 11 (.q 12 (.q 13 (.q 14 (.done)))))))))))))))
def pm62_1 : Plan := .q 0 (.q 1 (.q 2 (.q 3 (.one 4 false (.one 5 true (.q 6 (.q 7 (.q 8 (.q 9 (.done))))))))))
def pm83_1 : Plan := .q 0 (.q 1 (.q 2 (.q 3 (.q 4 (.q 5 (.q 6 (.q 7 (.q 8 (.q 11 (.q 12 (.one 9 false (.q 10 (.q 13 (.q 14 (.q 15 (.done))))))))))))))))
def pm129_12 : Plan := .q 0 (.q 1 (.q 2 (.q 3 (.q 4 (.q 5 (.q 6 (.one 7 true (.done))))))))
end Go.Proofs.YtnlheljpagpiiaaGreat
