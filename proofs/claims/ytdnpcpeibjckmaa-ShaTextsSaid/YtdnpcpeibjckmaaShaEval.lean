/- The digests of the document's two examples; no statement of the seat is proved here. -/
import Derived.Test.YtdnpcpeibjckmaaShaSum
namespace Go.Proofs.Ytdnpcpeibjckmaa
open Go.RowKit
def msg_one : List UInt8 := [97, 98, 99]
def sum_one : List UInt8 := [186, 120, 22, 191, 143, 1, 207, 234, 65, 65, 64, 222, 93, 174, 34, 35, 176, 3, 97, 163, 150, 23, 122, 156, 180, 16, 255, 97, 242, 0, 21, 173]
set_option maxRecDepth 100000 in
theorem sum_one_is : sumM msg_one = sum_one := by decide +kernel
def msg_two : List UInt8 := [97, 98, 99, 100, 98, 99, 100, 101, 99, 100, 101, 102, 100, 101, 102, 103, 101, 102, 103, 104, 102, 103, 104, 105, 103, 104, 105, 106, 104, 105, 106, 107, 105, 106, 107, 108, 106, 107, 108, 109, 107, 108, 109, 110, 108, 109, 110, 111, 109, 110, 111, 112, 110, 111, 112, 113]
def sum_two : List UInt8 := [36, 141, 106, 97, 210, 6, 56, 184, 229, 192, 38, 147, 12, 62, 96, 57, 163, 60, 228, 89, 100, 255, 33, 103, 246, 236, 237, 212, 25, 219, 6, 193]
set_option maxRecDepth 100000 in
theorem sum_two_is : sumM msg_two = sum_two := by decide +kernel
end Go.Proofs.Ytdnpcpeibjckmaa
