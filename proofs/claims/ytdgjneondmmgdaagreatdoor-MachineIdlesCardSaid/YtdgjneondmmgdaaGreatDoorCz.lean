/- The closure of the law. -/
import Derived.Test.YtdgjneondmmgdaaGreatDoorCb
namespace Go.Proofs.YtdgjneondmmgdaaGreatDoor
open Go
set_option maxRecDepth 100000
theorem funcs_size : Tryz.prog.funcs.size = 658 := by kernel_rfl
theorem lead_eq (g : Nat) : (Tryz.prog.funcs[g]?).elim [] Tryz.prog.leadsTo = leadT g := by
  by_cases hg : g < 658
  · rcases (show (0 ≤ g ∧ g < 60) ∨ (60 ≤ g ∧ g < 120) ∨ (120 ≤ g ∧ g < 180) ∨ (180 ≤ g ∧ g < 240) ∨ (240 ≤ g ∧ g < 300) ∨ (300 ≤ g ∧ g < 360) ∨ (360 ≤ g ∧ g < 420) ∨ (420 ≤ g ∧ g < 480) ∨ (480 ≤ g ∧ g < 540) ∨ (540 ≤ g ∧ g < 600) ∨ (600 ≤ g ∧ g < 658) by omega) with h | h | h | h | h | h | h | h | h | h | h
    · have := List.all_eq_true.1 lead_0 (g - 0) (List.mem_range.2 (by omega))
      rw [show 0 + (g - 0) = g by omega] at this
      exact eq_of_beq this
    · have := List.all_eq_true.1 lead_60 (g - 60) (List.mem_range.2 (by omega))
      rw [show 60 + (g - 60) = g by omega] at this
      exact eq_of_beq this
    · have := List.all_eq_true.1 lead_120 (g - 120) (List.mem_range.2 (by omega))
      rw [show 120 + (g - 120) = g by omega] at this
      exact eq_of_beq this
    · have := List.all_eq_true.1 lead_180 (g - 180) (List.mem_range.2 (by omega))
      rw [show 180 + (g - 180) = g by omega] at this
      exact eq_of_beq this
    · have := List.all_eq_true.1 lead_240 (g - 240) (List.mem_range.2 (by omega))
      rw [show 240 + (g - 240) = g by omega] at this
      exact eq_of_beq this
    · have := List.all_eq_true.1 lead_300 (g - 300) (List.mem_range.2 (by omega))
      rw [show 300 + (g - 300) = g by omega] at this
      exact eq_of_beq this
    · have := List.all_eq_true.1 lead_360 (g - 360) (List.mem_range.2 (by omega))
      rw [show 360 + (g - 360) = g by omega] at this
      exact eq_of_beq this
    · have := List.all_eq_true.1 lead_420 (g - 420) (List.mem_range.2 (by omega))
      rw [show 420 + (g - 420) = g by omega] at this
      exact eq_of_beq this
    · have := List.all_eq_true.1 lead_480 (g - 480) (List.mem_range.2 (by omega))
      rw [show 480 + (g - 480) = g by omega] at this
      exact eq_of_beq this
    · have := List.all_eq_true.1 lead_540 (g - 540) (List.mem_range.2 (by omega))
      rw [show 540 + (g - 540) = g by omega] at this
      exact eq_of_beq this
    · have := List.all_eq_true.1 lead_600 (g - 600) (List.mem_range.2 (by omega))
      rw [show 600 + (g - 600) = g by omega] at this
      exact eq_of_beq this
  · rw [Array.getElem?_eq_none (by rw [funcs_size]; omega)]
    show [] = (leadTT.getD (g / 26) []).getD (g % 26) []
    by_cases h2 : g / 26 < 26
    · have h3 : g / 26 = 25 := by omega
      rw [h3, List.getD_eq_getElem?_getD, List.getElem?_eq_none (by show 8 ≤ g % 26; omega)]
      rfl
    · rw [List.getD_eq_getElem?_getD (l := leadTT), List.getElem?_eq_none (by show 26 ≤ g / 26; omega)]
      rfl
theorem fuel_ok : Nat.ble 1146 (1 + (Tryz.prog.funcs.toList.map fun g => (Tryz.prog.leadsTo g).length + 1).sum) = true := by kernel_rfl
def cloL : List Nat := [3, 4, 5, 7, 6, 9, 14, 23, 40, 85, 41, 24, 42, 25, 43, 44, 45, 46, 47, 48, 49, 50, 51, 52, 53, 54, 15, 19, 26, 27, 39, 20, 28, 10, 12, 18, 21, 33, 63, 125, 64, 126, 127, 249, 128, 129, 250, 130, 131, 132, 252, 247, 374, 251, 133, 253, 65, 134, 66, 135, 136, 254, 375, 376, 67, 137, 153, 138, 255, 139, 256, 257, 141, 140, 258, 377, 475, 474, 378, 34, 68, 69, 142, 261, 379, 260, 259, 159, 143, 70, 145, 144, 146, 72, 73, 148, 262, 285, 393, 392, 149, 71, 147, 35, 75, 76, 77, 150, 263, 74, 36, 22, 78, 151, 264, 381, 477, 478, 380, 476, 152, 265, 37, 79, 80, 154, 81, 156, 155, 266, 38, 82, 157, 83, 158, 84, 16, 29, 55, 86, 160, 174, 269, 383, 382, 178, 175, 176, 177, 87, 161, 162, 163, 171, 173, 164, 172, 268, 90, 89, 165, 166, 267, 167, 168, 169, 170, 88, 56, 91, 92, 93, 57, 94, 17, 30, 59, 96, 179, 271, 272, 384, 385, 479, 548, 270, 180, 273, 387, 386, 480, 181, 183, 182, 184, 274, 275, 388, 481, 97, 185, 276, 277, 186, 187, 98, 188, 278, 279, 389, 390, 482, 549, 189, 280, 190, 191, 281, 192, 193, 282, 283, 391, 483, 99, 194, 284, 286, 13, 195, 287, 395, 346, 436, 394, 196, 197, 199, 198, 288, 100, 200, 289, 396, 397, 484, 550, 601, 329, 414, 492, 229, 551, 602, 325, 409, 489, 556, 557, 608, 630, 485, 358, 455, 533, 239, 360, 359, 552, 603, 530, 531, 580, 581, 604, 450, 528, 579, 619, 529, 553, 605, 606, 417, 494, 559, 609, 610, 611, 612, 454, 628, 583, 532, 540, 595, 521, 459, 535, 536, 584, 534, 582, 607, 629, 560, 613, 458, 614, 631, 632, 636, 637, 498, 304, 435, 506, 564, 565, 486, 554, 363, 344, 302, 201, 290, 291, 292, 398, 101, 202, 293, 102, 203, 294, 103, 204, 205, 295, 104, 206, 298, 299, 297, 399, 296, 207, 208, 300, 105, 209, 210, 211, 301, 106, 212, 303, 107, 214, 306, 307, 400, 401, 487, 555, 305, 213, 108, 215, 308, 109, 216, 309, 311, 310, 402, 110, 217, 219, 313, 314, 319, 407, 405, 312, 403, 404, 488, 315, 218, 111, 220, 316, 317, 406, 318, 112, 221, 320, 113, 222, 321, 322, 408, 323, 114, 224, 324, 326, 410, 411, 490, 558, 223, 115, 225, 327, 328, 413, 412, 491, 116, 58, 95, 118, 124, 244, 236, 357, 368, 457, 237, 243, 366, 367, 370, 342, 369, 460, 537, 586, 585, 538, 461, 462, 353, 448, 449, 539, 587, 588, 620, 589, 524, 525, 590, 621, 622, 635, 591, 592, 593, 594, 463, 372, 371, 464, 541, 596, 465, 542, 544, 543, 598, 625, 627, 597, 623, 518, 568, 624, 599, 626, 245, 373, 466, 467, 545, 468, 469, 546, 547, 600, 470, 471, 472, 473, 246, 238, 248, 234, 352, 439, 445, 440, 523, 441, 442, 526, 527, 578, 443, 444, 446, 447, 241, 364, 61, 31, 60, 117, 226, 330, 416, 418, 495, 415, 493, 331, 419, 420, 421, 362, 332, 422, 423, 427, 500, 496, 497, 561, 333, 424, 499, 334, 425, 426, 428, 502, 503, 504, 562, 563, 615, 633, 501, 335, 429, 505, 507, 336, 430, 508, 510, 509, 337, 431, 512, 513, 511, 338, 432, 514, 515, 339, 433, 516, 517, 567, 566, 227, 340, 341, 228, 343, 434, 519, 345, 347, 32, 62, 119, 230, 231, 348, 349, 437, 520, 569, 570, 616, 571, 572, 617, 618, 634, 573, 574, 575, 576, 438, 522, 577, 233, 350, 351, 232, 120, 235, 355, 356, 453, 354, 451, 452, 121, 240, 361, 122, 242, 365, 456, 123, 11, 8]
theorem cloT_eq : cloT leadT 1146 [3] [] 0 = some cloL := by kernel_rfl
theorem closure_eq : Tryz.prog.closure 3 = cloL := cloT_ok lead_eq 1146 [3] [] 0 cloL (fun x => by simp) cloT_eq _ (Nat.le_of_ble_eq_true fuel_ok)
end Go.Proofs.YtdgjneondmmgdaaGreatDoor
