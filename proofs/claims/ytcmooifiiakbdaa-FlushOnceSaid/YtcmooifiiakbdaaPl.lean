/-
  The plans of this seat's regions of open order. Written by a program of ours (plans.py).
-/
import Derived.Test.YtcmooifiiakbdaaSxK
namespace Go.Proofs.Ytcmooifiiakbdaa
open Go Go.Sx
def pP3_5 : List (Nat × PS) := [(0, .quiet), (2, .quiet), (1, .keep), (3, .keep), (4, .pure), (5, .pure), (6, .pure), (7, .keep), (8, .last), (9, .last)]
def pP3_9 : List (Nat × PS) := [(0, .quiet), (2, .quiet), (1, .keep), (3, .keep), (4, .pure), (5, .pure), (6, .pure), (7, .pure), (8, .pure), (9, .pure), (10, .quiet), (11, .quiet), (12, .pure), (13, .pure), (14, .pure), (15, .pure), (16, .pure), (17, .pure), (18, .pure), (19, .pure), (20, .quiet), (22, .quiet), (24, .quiet), (25, .quiet), (21, .keep), (23, .keep), (26, .keep), (27, .pure), (28, .pure), (29, .pure), (30, .quiet), (32, .quiet), (34, .pure), (31, .keep), (33, .keep), (35, .pure), (36, .pure), (37, .pure)]
def pP4_8 : List (Nat × PS) := [(0, .quiet), (1, .pure), (2, .pure), (3, .pure), (4, .quiet), (5, .keep), (6, .pure), (7, .pure), (8, .pure), (9, .keep), (10, .last), (11, .last)]
def pP4_9 : List (Nat × PS) := [(0, .quiet), (1, .pure), (2, .pure), (3, .pure), (4, .quiet), (5, .keep), (6, .pure), (7, .pure), (8, .pure), (9, .keep), (10, .last), (11, .last)]
def pP4_14 : List (Nat × PS) := [(0, .pure), (1, .pure), (2, .pure), (3, .pure), (4, .quiet), (6, .quiet), (5, .keep), (7, .keep), (8, .pure), (9, .pure), (10, .pure), (11, .quiet), (12, .quiet), (13, .pure), (14, .pure), (15, .pure), (16, .pure), (17, .pure), (18, .pure), (19, .pure)]
def pP5_18 : List (Nat × PS) := [(0, .quiet), (1, .pure), (2, .pure), (3, .pure), (4, .pure), (5, .pure), (6, .pure), (7, .pure), (8, .pure), (9, .pure), (10, .quiet), (11, .keep), (12, .pure), (13, .pure), (14, .pure), (15, .keep), (16, .last), (17, .last)]
def pP5_25 : List (Nat × PS) := [(0, .pure), (1, .pure), (2, .pure), (3, .pure), (4, .quiet), (5, .quiet), (6, .pure), (7, .pure), (8, .pure), (9, .quiet), (11, .quiet), (10, .keep), (12, .keep), (13, .keep), (14, .pure), (15, .pure)]
def pP5_30 : List (Nat × PS) := [(0, .pure), (1, .pure), (2, .pure), (3, .quiet), (4, .quiet), (5, .keep), (6, .pure), (7, .pure), (8, .pure), (9, .quiet), (10, .pure), (11, .pure), (12, .quiet), (13, .pure), (14, .quiet), (15, .pure), (16, .pure), (17, .pure), (18, .quiet), (19, .pure), (20, .pure), (21, .pure)]
def pP6_8 : List (Nat × PS) := [(0, .quiet), (1, .pure), (2, .pure), (3, .pure), (4, .quiet), (5, .keep), (6, .pure), (7, .pure), (8, .pure), (9, .keep), (10, .last), (11, .last)]
def pP7_11 : List (Nat × PS) := [(0, .pure), (1, .quiet), (2, .pure), (3, .pure), (4, .pure), (5, .pure), (6, .quiet), (7, .pure), (8, .pure), (9, .pure), (10, .pure), (11, .pure), (12, .pure), (13, .pure), (14, .pure), (15, .pure), (16, .pure), (17, .pure), (18, .pure), (19, .quiet), (21, .quiet), (20, .keep), (22, .keep), (23, .keep), (24, .pure), (25, .pure), (26, .pure)]
def pP7_20 : List (Nat × PS) := [(0, .quiet), (1, .pure), (2, .quiet), (3, .pure), (4, .pure), (5, .quiet), (6, .pure)]
def pP11_10 : List (Nat × PS) := [(0, .pure), (1, .quiet), (2, .pure), (3, .pure), (4, .pure), (5, .quiet), (6, .pure), (7, .quiet), (8, .pure)]
def pP11_12 : List (Nat × PS) := [(0, .pure), (1, .pure), (2, .pure), (3, .pure), (4, .quiet), (5, .pure), (6, .quiet), (7, .pure), (8, .pure), (9, .pure), (10, .quiet), (11, .pure), (12, .pure)]
def pP12_1 : List (Nat × PS) := [(0, .quiet), (1, .keep), (2, .pure), (3, .pure), (4, .pure), (5, .quiet), (6, .pure), (7, .pure), (8, .quiet), (9, .keep), (10, .pure), (11, .pure)]
def pP13_1 : List (Nat × PS) := [(0, .quiet), (1, .keep), (2, .pure), (3, .pure), (4, .pure), (5, .quiet), (6, .pure), (7, .pure), (8, .quiet), (9, .keep), (10, .pure), (11, .pure)]
def pP14_6 : List (Nat × PS) := [(0, .pure), (1, .quiet), (2, .pure), (3, .pure), (4, .quiet), (5, .pure), (6, .quiet), (7, .pure), (8, .pure), (9, .quiet), (10, .pure)]
def pP18_4 : List (Nat × PS) := [(0, .pure), (1, .pure), (2, .quiet), (3, .pure), (4, .pure), (5, .quiet), (6, .pure)]
def pP20_4 : List (Nat × PS) := [(0, .pure), (1, .quiet), (2, .pure), (3, .quiet), (4, .keep), (5, .pure), (6, .pure), (7, .quiet), (8, .pure), (9, .quiet), (10, .keep), (11, .pure), (12, .pure), (13, .pure), (14, .pure), (15, .pure), (16, .pure), (17, .pure), (18, .quiet), (19, .pure), (20, .pure), (21, .pure), (22, .quiet), (23, .quiet), (24, .keep), (25, .pure), (26, .pure), (27, .pure)]
def pP21_5 : List (Nat × PS) := [(0, .pure), (1, .pure), (2, .pure), (3, .pure), (4, .quiet), (5, .quiet), (6, .keep), (7, .pure)]
def pP21_8 : List (Nat × PS) := [(0, .pure), (1, .pure), (2, .pure), (3, .pure), (4, .pure), (5, .pure), (6, .pure), (7, .pure), (8, .pure), (9, .quiet), (10, .quiet), (11, .keep), (12, .pure), (13, .pure), (14, .pure), (15, .pure)]
def pP25_11 : List (Nat × PS) := [(0, .pure), (1, .pure), (2, .pure), (3, .pure), (4, .pure), (5, .pure), (6, .pure), (7, .pure), (8, .last)]
def pP25_15 : List (Nat × PS) := [(0, .pure), (1, .pure), (2, .pure), (3, .pure), (4, .pure), (5, .pure), (6, .pure), (7, .pure), (8, .last)]
def pP26_5 : List (Nat × PS) := [(0, .pure), (1, .quiet), (2, .pure), (3, .quiet), (4, .keep), (5, .pure), (6, .pure), (7, .pure), (8, .quiet), (9, .pure), (10, .quiet), (11, .keep), (12, .pure), (13, .pure), (14, .pure), (15, .pure), (16, .pure), (17, .pure), (18, .pure), (19, .quiet), (20, .pure), (21, .pure), (22, .pure), (23, .pure), (24, .quiet), (25, .pure), (26, .quiet), (27, .pure), (28, .pure), (29, .pure)]
def pP32_4 : List (Nat × PS) := [(0, .pure), (1, .pure), (2, .pure), (3, .quiet), (4, .pure), (5, .pure), (6, .quiet), (7, .pure), (8, .pure), (9, .last)]
def pP38_1 : List (Nat × PS) := [(0, .pure), (1, .pure), (2, .pure), (3, .pure), (4, .pure), (5, .pure), (6, .pure), (7, .pure), (8, .pure)]
def pP42_3 : List (Nat × PS) := [(0, .pure), (1, .pure), (2, .pure), (3, .pure), (4, .pure), (5, .pure), (6, .pure), (7, .quiet), (8, .pure), (9, .pure), (10, .pure), (11, .quiet), (12, .pure), (13, .last), (14, .last), (15, .last)]
end Go.Proofs.Ytcmooifiiakbdaa
