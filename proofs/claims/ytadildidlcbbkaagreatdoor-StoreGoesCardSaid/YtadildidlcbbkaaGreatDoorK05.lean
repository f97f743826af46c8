/- A part of the proof of StoreGoesCardSaid. -/
import Derived.Test.YtadildidlcbbkaaGreatDoorProg
import Derived.KernelRfl
import Derived.Test.YtadildidlcbbkaaGreatDoorK04
import Derived.Shelf.Strings.OnBuilder
import Derived.Shelf.Strings.Trim
import Derived.Shelf.Small.Strs
import Derived.Shelf.LaysM
import Derived.Shelf.LaysC
import Derived.Shelf.Strings.SlTrimAscii
import Derived.Shelf.Strings.Prefix
import Derived.Test.YtadildidlcbbkaaGreatDoorChecked
import Derived.Shelf.Spec.SlicesInsertGrow
import Derived.Deep.RegionLaw
set_option linter.all false
namespace Go.Proofs.YtadildidlcbbkaaGreatDoor
open Go Go.GK Go.PL Go.RowKit IntKind Go.Proofs.Tryz
set_option maxRecDepth 100000
def Kj:TT:=[
 (1,⟨1,8,false,[.nilFunc],.other,none⟩),
 (2,⟨1,8,false,[.int .i64 0],.int .i64,none⟩),
 (3,⟨1,8,false,[.int .i64 0],.int .i64,none⟩),
 (4,⟨1,1,false,[.bool false],.bool,none⟩),
 (5,⟨1,1,false,[.int .u8 0],.int .u8,none⟩),
 (6,⟨1,1,false,[.int .u8 0],.int .u8,none⟩),
 (9,⟨1,16,false,[.string .empty],.str,none⟩),
 (12,⟨1,8,false,[.int .u64 0],.int .u64,none⟩),
 (13,⟨2,24,true,[.string .empty,.int .u64 0],.struct [(0,1,false),(1,1,false)],none⟩),
 (20,⟨1,16,false,[.nilIface],.iface false,none⟩),
 (21,⟨1,4,false,[.int .i32 0],.int .i32,none⟩),
 (22,⟨1,24,false,[.slice none 0 0],.slice 42,none⟩),
 (23,⟨1,24,false,[.slice none 0 0],.slice 68,none⟩),
 (24,⟨3,40,true,[.slice none 0 0,.int .i64 0,.int .i64 0],.struct [(0,1,false),(1,1,false),(2,1,false)],none⟩),
 (25,⟨3,40,true,[.slice none 0 0,.int .i64 0,.int .i64 0],.struct [(0,1,false),(1,1,false),(2,1,false)],none⟩),
 (26,⟨1,8,false,[.nilFunc],.other,none⟩),
 (27,⟨1,8,false,[.nilFunc],.other,none⟩),
 (28,⟨1,8,false,[.nilFunc],.other,none⟩),
 (29,⟨1,8,false,[.pointer none],.ptr,none⟩),
 (30,⟨1,8,false,[.map none],.map 9 9,none⟩),
 (31,⟨1,8,false,[.map none],.map 9 3,none⟩),
 (32,⟨4,32,true,[.map none,.map none,.int .i64 0,.bool false],.struct [(0,1,false),(1,1,false),(2,1,false),(3,1,false)],none⟩),
 (33,⟨4,32,true,[.map none,.map none,.int .i64 0,.bool false],.struct [(0,1,false),(1,1,false),(2,1,false),(3,1,false)],none⟩),
 (34,⟨1,8,false,[.pointer none],.ptr,none⟩),
 (35,⟨1,16,false,[.nilIface],.iface true,none⟩),
 (36,⟨1,16,false,[.nilIface],.iface true,none⟩),
 (38,⟨1,8,false,[.nilFunc],.other,none⟩),
 (39,⟨1,8,false,[.nilFunc],.other,none⟩),
 (40,⟨1,24,false,[.slice none 0 0],.slice 105,none⟩),
 (41,⟨6,80,true,[.int .i64 0,.slice none 0 0,.int .i64 0,.slice none 0 0,.int .i64 0,.int .i64 0],.struct [(0,1,false),(1,1,false),(2,1,false),(3,3,true)],none⟩),
 (42,⟨6,80,true,[.int .i64 0,.slice none 0 0,.int .i64 0,.slice none 0 0,.int .i64 0,.int .i64 0],.struct [(0,1,false),(1,1,false),(2,1,false),(3,3,true)],none⟩),
 (43,⟨1,8,false,[.nilFunc],.other,none⟩),
 (44,⟨1,8,false,[.nilFunc],.other,none⟩),
 (45,⟨1,8,false,[.nilFunc],.other,none⟩),
 (46,⟨1,8,false,[.nilFunc],.other,none⟩),
 (47,⟨1,24,false,[.slice none 0 0],.slice 25,none⟩),
 (48,⟨1,8,false,[.nilFunc],.other,none⟩),
 (49,⟨1,8,false,[.nilFunc],.other,none⟩),
 (50,⟨1,8,false,[.nilFunc],.other,none⟩),
 (51,⟨1,8,false,[.nilFunc],.other,none⟩),
 (52,⟨1,24,false,[.slice none 0 0],.slice 61,none⟩),
 (53,⟨1,8,false,[.nilFunc],.other,none⟩),
 (54,⟨1,8,false,[.int .i64 0],.int .i64,none⟩),
 (55,⟨2,32,true,[.int .i64 0,.slice none 0 0],.struct [(0,1,false),(1,1,false)],none⟩),
 (56,⟨2,32,true,[.int .i64 0,.slice none 0 0],.struct [(0,1,false),(1,1,false)],none⟩),
 (57,⟨1,24,false,[.slice none 0 0],.slice 133,none⟩),
 (58,⟨5,72,true,[.int .i64 0,.slice none 0 0,.slice none 0 0,.int .i64 0,.int .i64 0],.struct [(0,2,true),(2,1,false),(3,1,false),(4,1,false)],none⟩),
 (59,⟨5,72,true,[.int .i64 0,.slice none 0 0,.slice none 0 0,.int .i64 0,.int .i64 0],.struct [(0,2,true),(2,1,false),(3,1,false),(4,1,false)],none⟩),
 (60,⟨1,8,false,[.nilFunc],.other,none⟩),
 (61,⟨6,80,true,[.int .i64 0,.slice none 0 0,.int .i64 0,.slice none 0 0,.int .i64 0,.int .i64 0],.struct [(0,1,false),(1,1,false),(2,1,false),(3,3,true)],none⟩),
 (62,⟨1,8,false,[.nilFunc],.other,none⟩),
 (63,⟨1,8,false,[.nilFunc],.other,none⟩),
 (64,⟨1,8,false,[.pointer none],.ptr,none⟩),
 (65,⟨1,8,false,[.nilFunc],.other,none⟩),
 (66,⟨1,8,false,[.nilFunc],.other,none⟩),
 (67,⟨3,40,true,[.string .empty,.int .i64 0,.string .empty],.struct [(0,1,false),(1,1,false),(2,1,false)],none⟩),
 (68,⟨3,40,true,[.string .empty,.int .i64 0,.string .empty],.struct [(0,1,false),(1,1,false),(2,1,false)],some [.str,.int,.str]⟩),
 (69,⟨1,8,false,[.nilFunc],.other,none⟩),
 (70,⟨1,8,false,[.nilFunc],.other,none⟩),
 (71,⟨1,8,false,[.nilFunc],.other,none⟩),
 (72,⟨1,24,false,[.slice none 0 0],.slice 2,none⟩),
 (74,⟨1,8,false,[.nilFunc],.other,none⟩),
 (76,⟨1,8,false,[.nilFunc],.other,none⟩),
 (77,⟨1,8,false,[.nilFunc],.other,none⟩),
 (78,⟨1,8,false,[.pointer none],.ptr,none⟩),
 (79,⟨1,24,false,[.slice none 0 0],.slice 9,none⟩),
 (81,⟨1,8,false,[.nilFunc],.other,none⟩),
 (82,⟨1,8,false,[.pointer none],.ptr,none⟩),
 (83,⟨1,8,false,[.nilFunc],.other,none⟩),
 (84,⟨1,8,false,[.map none],.map 2 91,none⟩),
 (85,⟨1,24,false,[.slice none 0 0],.slice 97,none⟩),
 (86,⟨7,72,true,[.pointer none,.pointer none,.pointer none,.map none,.slice none 0 0,.int .i64 0,.bool false],.struct [(0,1,false),(1,1,false),(2,1,false),(3,1,false),(4,1,false),(5,1,false),(6,1,false)],none⟩),
 (87,⟨7,72,true,[.pointer none,.pointer none,.pointer none,.map none,.slice none 0 0,.int .i64 0,.bool false],.struct [(0,1,false),(1,1,false),(2,1,false),(3,1,false),(4,1,false),(5,1,false),(6,1,false)],none⟩),
 (88,⟨1,8,false,[.nilFunc],.other,none⟩),
 (89,⟨1,8,false,[.nilFunc],.other,none⟩),
 (90,⟨3,40,true,[.int .i64 0,.int .i64 0,.slice none 0 0],.struct [(0,1,false),(1,1,false),(2,1,false)],none⟩),
 (91,⟨3,40,true,[.int .i64 0,.int .i64 0,.slice none 0 0],.struct [(0,1,false),(1,1,false),(2,1,false)],none⟩),
 (92,⟨1,8,false,[.nilFunc],.other,none⟩),
 (94,⟨1,8,false,[.nilFunc],.other,none⟩),
 (95,⟨1,8,false,[.nilFunc],.other,none⟩),
 (96,⟨4,48,true,[.int .i64 0,.slice none 0 0,.int .i64 0,.int .i64 0],.struct [(0,1,false),(1,3,true)],none⟩),
 (97,⟨4,48,true,[.int .i64 0,.slice none 0 0,.int .i64 0,.int .i64 0],.struct [(0,1,false),(1,3,true)],none⟩),
 (98,⟨1,8,false,[.nilFunc],.other,none⟩),
 (99,⟨1,8,false,[.nilFunc],.other,none⟩),
 (100,⟨1,8,false,[.nilFunc],.other,none⟩),
 (101,⟨1,8,false,[.nilFunc],.other,none⟩),
 (102,⟨1,24,false,[.slice none 0 0],.slice 117,none⟩),
 (103,⟨1,24,false,[.slice none 0 0],.slice 109,none⟩),
 (104,⟨2,48,true,[.slice none 0 0,.slice none 0 0],.struct [(0,1,false),(1,1,false)],none⟩),
 (105,⟨2,48,true,[.slice none 0 0,.slice none 0 0],.struct [(0,1,false),(1,1,false)],none⟩),
 (106,⟨1,8,false,[.nilFunc],.other,none⟩),
 (107,⟨1,8,false,[.nilFunc],.other,none⟩),
 (108,⟨2,16,true,[.int .i64 0,.int .i64 0],.struct [(0,1,false),(1,1,false)],none⟩),
 (109,⟨2,16,true,[.int .i64 0,.int .i64 0],.struct [(0,1,false),(1,1,false)],some [.int,.int]⟩),
 (110,⟨1,8,false,[.nilFunc],.other,none⟩),
 (111,⟨1,8,false,[.nilFunc],.other,none⟩),
 (112,⟨1,8,false,[.nilFunc],.other,none⟩),
 (113,⟨1,8,false,[.nilFunc],.other,none⟩),
 (114,⟨1,8,false,[.nilFunc],.other,none⟩),
 (115,⟨1,8,false,[.nilFunc],.other,none⟩),
 (116,⟨2,32,true,[.string .empty,.string .empty],.struct [(0,1,false),(1,1,false)],none⟩),
 (117,⟨2,32,true,[.string .empty,.string .empty],.struct [(0,1,false),(1,1,false)],some [.str,.str]⟩),
 (118,⟨1,8,false,[.nilFunc],.other,none⟩),
 (119,⟨1,8,false,[.nilFunc],.other,none⟩),
 (120,⟨2,16,true,[.int .i64 0,.int .i64 0],.struct [(0,1,false),(1,1,false)],none⟩),
 (121,⟨2,16,true,[.int .i64 0,.int .i64 0],.struct [(0,1,false),(1,1,false)],some [.int,.int]⟩),
 (122,⟨1,8,false,[.nilFunc],.other,none⟩),
 (123,⟨1,8,false,[.nilFunc],.other,none⟩),
 (125,⟨1,8,false,[.nilFunc],.other,none⟩),
 (127,⟨1,8,false,[.nilFunc],.other,none⟩),
 (128,⟨1,8,false,[.nilFunc],.other,none⟩),
 (129,⟨1,8,false,[.nilFunc],.other,none⟩),
 (131,⟨1,8,false,[.nilFunc],.other,none⟩),
 (132,⟨3,40,true,[.int .i64 0,.int .i64 0,.slice none 0 0],.struct [(0,1,false),(1,1,false),(2,1,false)],none⟩),
 (133,⟨3,40,true,[.int .i64 0,.int .i64 0,.slice none 0 0],.struct [(0,1,false),(1,1,false),(2,1,false)],none⟩),
 (134,⟨1,8,false,[.nilFunc],.other,none⟩),
 (135,⟨1,8,false,[.nilFunc],.other,none⟩),
 (136,⟨1,8,false,[.nilFunc],.other,none⟩),
 (137,⟨1,8,false,[.pointer none],.ptr,none⟩),
 (138,⟨2,16,true,[.int .i64 0,.int .i64 0],.struct [(0,1,false),(1,1,false)],some [.int,.int]⟩),
 (139,⟨1,8,false,[.nilFunc],.other,none⟩),
 (140,⟨1,8,false,[.nilFunc],.other,none⟩),
 (141,⟨1,8,false,[.nilFunc],.other,none⟩),
 (142,⟨1,8,false,[.nilFunc],.other,none⟩),
 (143,⟨1,24,false,[.slice none 0 0],.slice 102,none⟩),
 (144,⟨1,8,false,[.pointer none],.ptr,none⟩),
 (146,⟨1,8,false,[.nilFunc],.other,none⟩),
 (147,⟨1,24,false,[.slice none 0 0],.slice 3,none⟩),
 (149,⟨1,8,false,[.nilFunc],.other,none⟩),
 (150,⟨1,8,false,[.nilFunc],.other,none⟩),
 (151,⟨2,16,true,[.pointer none,.bool false],.struct [(0,1,false),(1,1,false)],none⟩),
 (152,⟨2,16,true,[.pointer none,.bool false],.struct [(0,1,false),(1,1,false)],none⟩),
 (154,⟨1,8,false,[.nilFunc],.other,none⟩),
 (156,⟨1,8,false,[.nilFunc],.other,none⟩),
 (157,⟨1,8,false,[.nilFunc],.other,none⟩),
 (158,⟨2,32,true,[.int .i64 0,.slice none 0 0],.struct [(0,1,false),(1,1,false)],none⟩),
 (159,⟨2,32,true,[.int .i64 0,.slice none 0 0],.struct [(0,1,false),(1,1,false)],none⟩),
 (160,⟨1,8,false,[.nilFunc],.other,none⟩),
 (162,⟨1,8,false,[.nilFunc],.other,none⟩),
 (164,⟨1,8,false,[.nilFunc],.other,none⟩),
 (166,⟨1,8,false,[.nilFunc],.other,none⟩),
 (167,⟨1,8,false,[.nilFunc],.other,none⟩),
 (168,⟨1,8,false,[.pointer none],.ptr,none⟩),
 (169,⟨1,8,false,[.nilFunc],.other,none⟩),
 (170,⟨1,8,false,[.nilFunc],.other,none⟩),
 (172,⟨1,8,false,[.nilFunc],.other,none⟩),
 (173,⟨1,8,false,[.nilFunc],.other,none⟩),
 (174,⟨1,8,false,[.nilFunc],.other,none⟩),
 (175,⟨1,8,false,[.nilFunc],.other,none⟩),
 (176,⟨1,8,false,[.nilFunc],.other,none⟩),
 (177,⟨1,8,false,[.nilFunc],.other,none⟩),
 (178,⟨1,8,false,[.nilFunc],.other,none⟩),
 (179,⟨1,8,false,[.nilFunc],.other,none⟩),
 (180,⟨1,8,false,[.nilFunc],.other,none⟩),
 (181,⟨1,8,false,[.pointer none],.ptr,none⟩),
 (182,⟨1,24,false,[.slice none 0 0],.slice 5,none⟩),
 (183,⟨1,24,true,[.slice none 0 0],.struct [(0,1,false)],none⟩),
 (184,⟨1,24,true,[.slice none 0 0],.struct [(0,1,false)],none⟩),
 (185,⟨1,8,false,[.nilFunc],.other,none⟩),
 (186,⟨1,8,false,[.nilFunc],.other,none⟩),
 (187,⟨1,8,false,[.nilFunc],.other,none⟩),
 (188,⟨1,8,false,[.nilFunc],.other,none⟩),
 (189,⟨1,8,false,[.nilFunc],.other,none⟩),
 (190,⟨1,8,false,[.nilFunc],.other,none⟩),
 (191,⟨1,8,false,[.nilFunc],.other,none⟩),
 (192,⟨1,8,false,[.nilFunc],.other,none⟩),
 (194,⟨1,8,false,[.nilFunc],.other,none⟩),
 (196,⟨1,8,false,[.nilFunc],.other,none⟩),
 (197,⟨1,8,false,[.nilFunc],.other,none⟩),
 (198,⟨1,8,false,[.nilFunc],.other,none⟩),
 (200,⟨1,8,false,[.nilFunc],.other,none⟩),
 (201,⟨1,8,false,[.nilFunc],.other,none⟩),
 (202,⟨1,8,false,[.nilFunc],.other,none⟩),
 (203,⟨1,8,false,[.nilFunc],.other,none⟩),
 (204,⟨1,8,false,[.nilFunc],.other,none⟩),
 (205,⟨1,8,false,[.nilFunc],.other,none⟩),
 (207,⟨1,8,false,[.nilFunc],.other,none⟩),
 (208,⟨1,8,false,[.nilFunc],.other,none⟩),
 (209,⟨1,8,false,[.nilFunc],.other,none⟩),
 (210,⟨1,8,false,[.nilFunc],.other,none⟩),
 (211,⟨1,8,false,[.nilFunc],.other,none⟩),
 (212,⟨1,8,false,[.map none],.map 9 215,none⟩),
 (213,⟨2,16,true,[.int .i64 0,.map none],.struct [(0,1,false),(1,1,false)],none⟩),
 (214,⟨2,16,true,[.int .i64 0,.map none],.struct [(0,1,false),(1,1,false)],none⟩),
 (215,⟨1,8,false,[.map none],.map 9 147,none⟩),
 (216,⟨1,8,false,[.nilFunc],.other,none⟩),
 (217,⟨1,8,false,[.nilFunc],.other,none⟩),
 (218,⟨1,8,false,[.nilFunc],.other,none⟩),
 (219,⟨1,8,false,[.int .u64 0],.int .u64,none⟩),
 (220,⟨1,8,false,[.pointer none],.ptr,none⟩),
 (221,⟨2,32,true,[.pointer none,.slice none 0 0],.struct [(0,1,false),(1,1,false)],none⟩),
 (222,⟨2,32,true,[.pointer none,.slice none 0 0],.struct [(0,1,false),(1,1,false)],none⟩),
 (223,⟨1,8,false,[.nilFunc],.other,none⟩),
 (224,⟨1,8,false,[.nilFunc],.other,none⟩),
 (225,⟨1,8,false,[.nilFunc],.other,none⟩),
 (226,⟨1,8,false,[.nilFunc],.other,none⟩),
 (227,⟨1,8,false,[.nilFunc],.other,none⟩),
 (228,⟨1,8,false,[.nilFunc],.other,none⟩),
 (229,⟨1,8,false,[.nilFunc],.other,none⟩),
 (230,⟨1,8,false,[.nilFunc],.other,none⟩),
 (231,⟨2,24,true,[.string .empty,.bool false],.struct [(0,1,false),(1,1,false)],none⟩),
 (232,⟨2,24,true,[.string .empty,.bool false],.struct [(0,1,false),(1,1,false)],some [.str,.bool]⟩),
 (233,⟨1,8,false,[.int .u64 0],.int .u64,none⟩),
 (234,⟨1,24,false,[.slice none 0 0],.slice 243,none⟩),
 (236,⟨1,8,false,[.nilFunc],.other,none⟩),
 (237,⟨1,8,false,[.nilFunc],.other,none⟩),
 (238,⟨1,8,false,[.pointer none],.ptr,none⟩),
 (239,⟨1,24,true,[.slice none 0 0],.struct [(0,1,false)],none⟩),
 (240,⟨1,24,true,[.slice none 0 0],.struct [(0,1,false)],none⟩),
 (241,⟨1,8,false,[.nilFunc],.other,none⟩),
 (242,⟨3,32,true,[.int .i64 0,.string .empty,.int .i64 0],.struct [(0,1,false),(1,1,false),(2,1,false)],none⟩),
 (243,⟨3,32,true,[.int .i64 0,.string .empty,.int .i64 0],.struct [(0,1,false),(1,1,false),(2,1,false)],some [.int,.str,.int]⟩),
 (244,⟨1,8,false,[.nilFunc],.other,none⟩),
 (245,⟨1,8,false,[.nilFunc],.other,none⟩),
 (246,⟨1,8,false,[.nilFunc],.other,none⟩),
 (247,⟨1,8,false,[.nilFunc],.other,none⟩),
 (248,⟨1,8,false,[.nilFunc],.other,none⟩),
 (249,⟨1,8,false,[.nilFunc],.other,none⟩),
 (250,⟨1,8,false,[.nilFunc],.other,none⟩),
 (251,⟨4,64,true,[.string .empty,.string .empty,.string .empty,.string .empty],.array 4 9,none⟩),
 (252,⟨1,8,false,[.nilFunc],.other,none⟩),
 (253,⟨1,8,false,[.nilFunc],.other,none⟩),
 (254,⟨1,8,false,[.nilFunc],.other,none⟩),
 (255,⟨1,8,false,[.nilFunc],.other,none⟩),
 (256,⟨1,8,false,[.nilFunc],.other,none⟩),
 (258,⟨1,16,false,[.nilIface],.iface true,none⟩),
 (260,⟨1,8,false,[.nilFunc],.other,none⟩),
 (261,⟨1,8,false,[.nilFunc],.other,none⟩),
 (262,⟨1,8,false,[.nilFunc],.other,none⟩),
 (263,⟨1,8,false,[.nilFunc],.other,none⟩),
 (264,⟨1,24,false,[.slice none 0 0],.slice 103,none⟩),
 (265,⟨1,8,false,[.nilFunc],.other,none⟩),
 (266,⟨1,8,false,[.nilFunc],.other,none⟩),
 (267,⟨1,8,false,[.nilFunc],.other,none⟩),
 (268,⟨1,8,false,[.nilFunc],.other,none⟩),
 (269,⟨1,8,false,[.nilFunc],.other,none⟩),
 (270,⟨1,8,false,[.nilFunc],.other,none⟩),
 (271,⟨1,8,false,[.pointer none],.ptr,none⟩),
 (272,⟨1,8,false,[.nilFunc],.other,none⟩),
 (273,⟨1,8,false,[.int .i64 0],.int .i64,none⟩),
 (275,⟨1,8,false,[.nilFunc],.other,none⟩),
 (276,⟨1,8,false,[.pointer none],.ptr,none⟩),
 (277,⟨1,8,false,[.nilFunc],.other,none⟩),
 (278,⟨1,8,false,[.nilFunc],.other,none⟩),
 (279,⟨1,8,false,[.nilFunc],.other,none⟩),
 (281,⟨1,8,false,[.nilFunc],.other,none⟩),
 (282,⟨15,240,true,[.string .empty,.string .empty,.string .empty,.string .empty,.string .empty,.string .empty,.string .empty,.string .empty,.string .empty,.string .empty,.string .empty,.string .empty,.string .empty,.string .empty,.string .empty],.array 15 9,none⟩),
 (283,⟨1,16,true,[.nilIface],.struct [(0,1,false)],none⟩),
 (284,⟨1,16,true,[.nilIface],.struct [(0,1,false)],none⟩),
 (286,⟨1,8,false,[.nilFunc],.other,none⟩),
 (287,⟨1,8,false,[.nilFunc],.other,none⟩),
 (288,⟨1,8,false,[.nilFunc],.other,none⟩),
 (292,⟨1,8,false,[.nilFunc],.other,none⟩),
 (293,⟨1,8,false,[.nilFunc],.other,none⟩),
 (294,⟨1,8,false,[.pointer none],.ptr,none⟩),
 (295,⟨1,8,false,[.nilFunc],.other,none⟩),
 (296,⟨1,8,false,[.pointer none],.ptr,none⟩),
 (297,⟨1,8,false,[.nilFunc],.other,none⟩),
 (298,⟨1,8,false,[.nilFunc],.other,none⟩),
 (299,⟨1,8,false,[.nilFunc],.other,none⟩),
 (300,⟨4,4,true,[.bool false,.bool false,.bool false,.bool false],.array 4 4,none⟩),
 (301,⟨1,8,false,[.map none],.map 2 2,none⟩),
 (302,⟨1,8,false,[.pointer none],.ptr,none⟩),
 (303,⟨2,32,true,[.slice none 0 0,.int .i64 0],.struct [(0,1,false),(1,1,false)],none⟩),
 (304,⟨2,32,true,[.slice none 0 0,.int .i64 0],.struct [(0,1,false),(1,1,false)],none⟩),
 (305,⟨1,8,false,[.nilFunc],.other,none⟩),
 (306,⟨1,8,false,[.nilFunc],.other,none⟩),
 (307,⟨1,8,false,[.int .i64 0],.int .i64,none⟩),
 (309,⟨1,8,false,[.nilFunc],.other,none⟩),
 (310,⟨1,8,false,[.nilFunc],.other,none⟩),
 (311,⟨1,8,false,[.nilFunc],.other,none⟩),
 (312,⟨1,8,false,[.nilFunc],.other,none⟩),
 (313,⟨1,8,false,[.nilFunc],.other,none⟩),
 (314,⟨1,8,false,[.nilFunc],.other,none⟩),
 (315,⟨1,4,false,[.int .u32 0],.int .u32,none⟩),
 (316,⟨1,8,false,[.nilFunc],.other,none⟩),
 (317,⟨1,8,false,[.nilFunc],.other,none⟩),
 (318,⟨1,8,false,[.nilFunc],.other,none⟩),
 (319,⟨1,8,false,[.nilFunc],.other,none⟩),
 (320,⟨1,8,false,[.nilFunc],.other,none⟩),
 (323,⟨1,8,false,[.nilFunc],.other,none⟩),
 (324,⟨1,8,false,[.nilFunc],.other,none⟩),
 (325,⟨1,8,false,[.nilFunc],.other,none⟩),
 (326,⟨3,48,true,[.string .empty,.string .empty,.nilIface],.struct [(0,1,false),(1,1,false),(2,1,false)],none⟩),
 (327,⟨3,48,true,[.string .empty,.string .empty,.nilIface],.struct [(0,1,false),(1,1,false),(2,1,false)],none⟩),
 (328,⟨1,8,false,[.pointer none],.ptr,none⟩),
 (329,⟨1,8,false,[.nilFunc],.other,none⟩),
 (330,⟨1,8,false,[.nilFunc],.other,none⟩),
 (331,⟨24,24,true,[.int .u8 0,.int .u8 0,.int .u8 0,.int .u8 0,.int .u8 0,.int .u8 0,.int .u8 0,.int .u8 0,.int .u8 0,.int .u8 0,.int .u8 0,.int .u8 0,.int .u8 0,.int .u8 0,.int .u8 0,.int .u8 0,.int .u8 0,.int .u8 0,.int .u8 0,.int .u8 0,.int .u8 0,.int .u8 0,.int .u8 0,.int .u8 0],.array 24 5,none⟩),
 (332,⟨1,8,false,[.nilFunc],.other,none⟩),
 (334,⟨1,8,false,[.nilFunc],.other,none⟩),
 (336,⟨1,8,false,[.nilFunc],.other,none⟩),
 (337,⟨1,8,false,[.nilFunc],.other,none⟩),
 (338,⟨1,8,false,[.int .u64 0],.int .u64,none⟩),
 (345,⟨1,1,false,[.int .u8 0],.int .u8,none⟩),
 (349,⟨1,8,false,[.nilFunc],.other,none⟩),
 (350,⟨1,8,false,[.nilFunc],.other,none⟩),
 (351,⟨1,8,false,[.nilFunc],.other,none⟩),
 (352,⟨2,16,true,[.nilFunc,.nilFunc],.struct [(0,1,false),(1,1,false)],none⟩),
 (353,⟨2,16,true,[.nilFunc,.nilFunc],.struct [(0,1,false),(1,1,false)],none⟩),
 (354,⟨1,8,false,[.nilFunc],.other,none⟩),
 (355,⟨1,8,false,[.nilFunc],.other,none⟩),
 (356,⟨1,8,false,[.nilFunc],.other,none⟩),
 (357,⟨7,56,true,[.int .i64 0,.int .i64 0,.int .i64 0,.int .i64 0,.int .i64 0,.int .i64 0,.int .i64 0],.array 7 3,none⟩),
 (358,⟨1,8,false,[.nilFunc],.other,none⟩),
 (359,⟨1,8,false,[.nilFunc],.other,none⟩),
 (360,⟨1,8,false,[.int .u64 0],.int .u64,none⟩),
 (361,⟨1,8,false,[.nilFunc],.other,none⟩),
 (362,⟨1,8,false,[.nilFunc],.other,none⟩),
 (363,⟨1,8,false,[.nilFunc],.other,none⟩),
 (364,⟨1,8,false,[.pointer none],.ptr,none⟩),
 (365,⟨1,8,false,[.nilFunc],.other,none⟩),
 (366,⟨1,8,false,[.nilFunc],.other,none⟩),
 (367,⟨1,24,false,[.slice none 0 0],.slice 147,none⟩),
 (368,⟨1,8,false,[.nilFunc],.other,none⟩),
 (369,⟨1,8,false,[.nilFunc],.other,none⟩),
 (370,⟨1,8,false,[.nilFunc],.other,none⟩),
 (371,⟨1,8,false,[.nilFunc],.other,none⟩),
 (372,⟨1,8,false,[.nilFunc],.other,none⟩),
 (373,⟨1,8,false,[.nilFunc],.other,none⟩),
 (374,⟨1,8,false,[.nilFunc],.other,none⟩),
 (375,⟨1,8,false,[.pointer none],.ptr,none⟩),
 (376,⟨1,16,true,[.string .empty],.struct [(0,1,false)],none⟩),
 (377,⟨1,16,true,[.string .empty],.struct [(0,1,false)],some [.str]⟩),
 (378,⟨2,24,true,[.string .empty,.int .i64 0],.struct [(0,1,false),(1,1,false)],none⟩),
 (379,⟨2,24,true,[.string .empty,.int .i64 0],.struct [(0,1,false),(1,1,false)],some [.str,.int]⟩),
 (380,⟨1,8,false,[.nilFunc],.other,none⟩),
 (381,⟨1,8,false,[.nilFunc],.other,none⟩),
 (382,⟨1,8,false,[.nilFunc],.other,none⟩),
 (383,⟨20,160,true,[.int .u64 0,.int .u64 0,.int .u64 0,.int .u64 0,.int .u64 0,.int .u64 0,.int .u64 0,.int .u64 0,.int .u64 0,.int .u64 0,.int .u64 0,.int .u64 0,.int .u64 0,.int .u64 0,.int .u64 0,.int .u64 0,.int .u64 0,.int .u64 0,.int .u64 0,.int .u64 0],.array 20 233,none⟩),
 (385,⟨1,8,false,[.nilFunc],.other,none⟩),
 (386,⟨1,8,false,[.nilFunc],.other,none⟩),
 (393,⟨1,16,false,[.nilIface],.iface true,none⟩),
 (395,⟨1,8,false,[.nilFunc],.other,none⟩),
 (396,⟨1,16,false,[.nilIface],.iface true,none⟩),
 (397,⟨1,24,false,[.slice none 0 0],.slice 36,none⟩),
 (398,⟨1,8,false,[.nilFunc],.other,none⟩),
 (399,⟨1,8,false,[.nilFunc],.other,none⟩),
 (400,⟨1,8,false,[.int .i64 0],.int .i64,none⟩),
 (402,⟨1,8,false,[.nilFunc],.other,none⟩),
 (403,⟨1,8,false,[.nilFunc],.other,none⟩),
 (404,⟨1,8,false,[.nilFunc],.other,none⟩),
 (405,⟨1,8,false,[.nilFunc],.other,none⟩),
 (406,⟨1,8,false,[.pointer none],.ptr,none⟩),
 (408,⟨1,8,false,[.nilFunc],.other,none⟩),
 (409,⟨1,8,false,[.nilFunc],.other,none⟩),
 (410,⟨1,8,false,[.nilFunc],.other,none⟩),
 (411,⟨1,8,false,[.nilFunc],.other,none⟩),
 (412,⟨1,8,false,[.nilFunc],.other,none⟩),
 (413,⟨1,8,false,[.nilFunc],.other,none⟩),
 (414,⟨1,8,false,[.nilFunc],.other,none⟩),
 (415,⟨1,8,false,[.nilFunc],.other,none⟩),
 (417,⟨2,2,true,[.int .u8 0,.int .u8 0],.struct [(0,1,false),(1,1,false)],none⟩),
 (418,⟨2,2,true,[.int .u8 0,.int .u8 0],.struct [(0,1,false),(1,1,false)],some [.int,.int]⟩),
 (419,⟨32,32,true,[.int .u8 0,.int .u8 0,.int .u8 0,.int .u8 0,.int .u8 0,.int .u8 0,.int .u8 0,.int .u8 0,.int .u8 0,.int .u8 0,.int .u8 0,.int .u8 0,.int .u8 0,.int .u8 0,.int .u8 0,.int .u8 0,.int .u8 0,.int .u8 0,.int .u8 0,.int .u8 0,.int .u8 0,.int .u8 0,.int .u8 0,.int .u8 0,.int .u8 0,.int .u8 0,.int .u8 0,.int .u8 0,.int .u8 0,.int .u8 0,.int .u8 0,.int .u8 0],.array 16 418,none⟩),
 (420,⟨1,8,false,[.nilFunc],.other,none⟩),
 (421,⟨1,8,false,[.int .u64 0],.int .u64,none⟩),
 (422,⟨1,8,false,[.nilFunc],.other,none⟩),
 (423,⟨1,8,false,[.nilFunc],.other,none⟩),
 (424,⟨1,8,false,[.nilFunc],.other,none⟩),
 (425,⟨1,8,false,[.nilFunc],.other,none⟩),
 (426,⟨1,8,false,[.nilFunc],.other,none⟩),
 (427,⟨32,32,true,[.int .u8 0,.int .u8 0,.int .u8 0,.int .u8 0,.int .u8 0,.int .u8 0,.int .u8 0,.int .u8 0,.int .u8 0,.int .u8 0,.int .u8 0,.int .u8 0,.int .u8 0,.int .u8 0,.int .u8 0,.int .u8 0,.int .u8 0,.int .u8 0,.int .u8 0,.int .u8 0,.int .u8 0,.int .u8 0,.int .u8 0,.int .u8 0,.int .u8 0,.int .u8 0,.int .u8 0,.int .u8 0,.int .u8 0,.int .u8 0,.int .u8 0,.int .u8 0],.array 32 5,none⟩),
 (429,⟨1,8,false,[.pointer none],.ptr,none⟩),
 (430,⟨1,8,false,[.nilFunc],.other,none⟩),
 (431,⟨1,8,false,[.nilFunc],.other,none⟩),
 (438,⟨1,1,false,[.int .u8 0],.int .u8,none⟩),
 (440,⟨1,4,false,[.int .i32 0],.int .i32,none⟩),
 (441,⟨1,4,false,[.int .i32 0],.int .i32,none⟩),
 (444,⟨1,8,false,[.nilFunc],.other,none⟩),
 (450,⟨1,2,false,[.int .u16 0],.int .u16,none⟩),
 (454,⟨1,4,false,[.int .i32 0],.int .i32,none⟩),
 (457,⟨1,8,false,[.pointer none],.ptr,none⟩)]
def gl:Env:=[(7,.r ([0,4,7,12,20,32,64].map fun x=>.v (.int .i64 x))),(2,.r [.v (.string ⟨#[33,61]⟩),.v (.string ⟨#[94,61]⟩),.v (.string ⟨#[33,94]⟩),.v (.string ⟨#[61]⟩),.v (.string ⟨#[123]⟩),.v (.string ⟨#[125]⟩),.v (.string ⟨#[91]⟩),.v (.string ⟨#[93]⟩),.v (.string ⟨#[40]⟩),.v (.string ⟨#[41]⟩),.v (.string ⟨#[44]⟩),.v (.string ⟨#[43]⟩),.v (.string ⟨#[45]⟩),.v (.string ⟨#[42]⟩),.v (.string ⟨#[47]⟩)]),(1,.r [.v (.string ⟨#[61]⟩),.v (.string ⟨#[33,61]⟩),.v (.string ⟨#[94,61]⟩),.v (.string ⟨#[33,94]⟩)]),(5,.r [.ifc 375 (.r [.v (.string ⟨#[118,97,108,117,101,32,111,117,116,32,111,102,32,114,97,110,103,101]⟩)])]),(4,.r [.ifc 375 (.r [.v (.string ⟨#[105,110,118,97,108,105,100,32,115,121,110,116,97,120]⟩)])]),(8,.r [.v (.int .u64 1),.v (.int .u64 10),.v (.int .u64 100),.v (.int .u64 1000),.v (.int .u64 10000),.v (.int .u64 100000),.v (.int .u64 1000000),.v (.int .u64 10000000),.v (.int .u64 100000000),.v (.int .u64 1000000000),.v (.int .u64 10000000000),.v (.int .u64 100000000000),.v (.int .u64 1000000000000),.v (.int .u64 10000000000000),.v (.int .u64 100000000000000),.v (.int .u64 1000000000000000),.v (.int .u64 10000000000000000),.v (.int .u64 100000000000000000),.v (.int .u64 1000000000000000000),.v (.int .u64 10000000000000000000)])]
noncomputable def pg:Pg:=⟨prog,Kj,gl⟩
theorem gV:pg.Ok:=Pg.UC au au
abbrev gi(x:Int):GV:=.v (.int .i64 x)
theorem ic{x:Int}(h: -9223372036854775808≤x)(h':x≤9223372036854775807):i64.wrap x=x:=by rw[IntKind.wrap_i64];omega
theorem h_{i:Nat}(h:i<9223372036854775807):some (gi (i64.wrap (i+1:Int)))=some (gi ((i+1:Nat):Int)):=by
 rw[ic az az];rfl
theorem qu{α:Type}(z:Nat)(f:α→List GV)(y:α)(l:List α):some (GV.sl z ((((y::l).map f).take (((y::l).map f).length:Int).toNat).drop (1:Int).toNat))=some (GV.sl z (l.map f)):=by
 simp only[bj,aT];rfl
theorem idx{α:Type}{f:α→List GV}{l:List α}{i:Int}{K:List GV→Prop}(k:Nat)(hi:i=k)(hk:k<l.length)(h:K (f l[k])):∃row,0≤i∧(l.map f)[i.toNat]? =some row∧K row:=by
 subst hi;exact⟨f l[k],az,by simp[hk],h⟩
theorem tL{x:Option GV}{g:GV}{K:GV→Prop}(h:x=some g)(k:K g):vN x K:=by subst h;exact k
abbrev gs(s:ByteArray):GV:=.v (.string s)
def rr(a b:Nat):Nat→Nat:=fun i=>bif Nat.beq i 0 then a else b
theorem UI{a b n:Nat}(ha:Nat.blt a n=true)(hb:Nat.blt b n=true):∀i,i<2→rr a b i<n:=fun i _=>by
 rw[dx]at ha hb;unfold rr;cases Nat.beq i 0<;>assumption
def r1(a b:Nat):Nat→Nat:=fun i=>bif Nat.beq i a then b else i
theorem pos{c:Bool}{A B:Prop}(h:c=true)(k:A):(c=true→A)∧(c=false→B):=⟨fun _=>k,fun e=>absurd (h.symm.trans e) ax⟩
theorem neg{c:Bool}{A B:Prop}(h:c=false)(k:B):(c=true→A)∧(c=false→B):=⟨fun e=>absurd (h.symm.trans e) ax,fun _=>k⟩
theorem pos'{c:Bool}{A B:Prop}(h:c=true)(k:B):(c=false→A)∧(c=true→B):=⟨fun e=>absurd (h.symm.trans e) ax,fun _=>k⟩
theorem wE{c:Bool}{A B:Prop}(h:c=false)(k:A):(c=false→A)∧(c=true→B):=⟨fun _=>k,fun e=>absurd (h.symm.trans e) ax⟩
theorem tf(c:Bool):c=true∨c=false:=by cases c<;>simp
theorem p1{c:Bool}{A B:Prop}(k:A)(h:c=true:=by first|with_reducible rfl|with_reducible assumption|rfl|exact decide_eq_true az| (simp;omega)):(c=true→A)∧(c=false→B):=pos h k
theorem p2{c:Bool}{A B:Prop}(k:B)(h:c=false:=by first|with_reducible rfl|with_reducible assumption|rfl|exact decide_eq_false az| (simp;omega)):(c=true→A)∧(c=false→B):=neg h k
theorem p3{c:Bool}{A B:Prop}(k:B)(h:c=true:=by first|with_reducible rfl|with_reducible assumption|rfl|exact decide_eq_true az| (simp;omega)):(c=false→A)∧(c=true→B):=pos' h k
theorem p4{c:Bool}{A B:Prop}(k:A)(h:c=false:=by first|with_reducible rfl|with_reducible assumption|rfl|exact decide_eq_false az| (simp;omega)):(c=false→A)∧(c=true→B):=wE h k
theorem ix{α:Type}{f:α→List GV}{l:List α}{i:Nat}{K:List GV→Prop}(hk:i<l.length:=by omega)(h:K (f (l[i]'hk))):∃row,0≤(i:Int)∧(l.map f)[((i:Nat):Int).toNat]? =some row∧K row:=⟨f l[i],by omega,by simp[hk],h⟩
theorem sx{s:ByteArray}{i:Nat}{K:UInt8→Prop}(hk:i<s.size:=by omega)(h:K (s[i]'hk)):∃b,0≤(i:Int)∧s[((i:Nat):Int).toNat]? =some b∧K b:=⟨s[i],by omega,by rw[bj];exact getElem?_pos s i hk,h⟩
section
variable {N n0:Nat}{H0:Hid}{S0:List Nat}{w0:World}{h0:H0.n=n0}{g0:iX pg H0}{T:jz}{k:List It}{s:St}
theorem V(h:vc ⟨pg,N,n0,H0,S0,w0,h0,g0⟩ T 400 k s):JK ⟨pg,N,n0,H0,S0,w0,h0,g0⟩ T k s:=ia gV 400 k s h
theorem GO {all:List Oper} {o:Oper} {rest:List Oper} {f:FuncId} {cargs:List GV} {G:GV} (hr:Rt pg f cargs G) (hk:mQ pg all s.ρ o=some (f,cargs))
  (h:lB N s.ρ o.dst G fun ρ'=>vc ⟨pg,N,n0,H0,S0,w0,h0,g0⟩ T 400 (.ops false all rest::k) ⟨ρ',s.σ,s.n⟩) (hb:im 0 cargs=true:=by rfl):JK ⟨pg,N,n0,H0,S0,w0,h0,g0⟩ T (.ops false all (o::rest)::k) s:=JK.go gV hr hk hb h
theorem US {all:List Oper} {o:Oper} {rest:List Oper} {f:FuncId} {cargs:List GV} {Q:GV→Prop} (hr:Rq pg f cargs Q) (hk:mQ pg all s.ρ o=some (f,cargs))
  (h:∀g,Q g→lB N s.ρ o.dst g fun ρ'=>vc ⟨pg,N,n0,H0,S0,w0,h0,g0⟩ T 400 (.ops false all rest::k) ⟨ρ',s.σ,s.n⟩) (hb:im 0 cargs=true:=by rfl):JK ⟨pg,N,n0,H0,S0,w0,h0,g0⟩ T (.ops false all (o::rest)::k) s:=JK.UR gV hr hk hb h
theorem Ma {all:List Oper} {o:Oper} {rest:List Oper} {f:FuncId} {cargs gs:List GV} {G:GV} (hr:Rt pg f cargs G) (hk:mQ pg all s.ρ o=some (f,gs)) (hl:uJ s.σ gs cargs)
  (h:lB N s.ρ o.dst G fun ρ'=>vc ⟨pg,N,n0,H0,S0,w0,h0,g0⟩ T 400 (.ops false all rest::k) ⟨ρ',s.σ,s.n⟩) (hf:mq G=true:=by rfl):JK ⟨pg,N,n0,H0,S0,w0,h0,g0⟩ T (.ops false all (o::rest)::k) s:=JK.kN gV hr hk hl hf h
theorem ig {all:List Oper} {o:Oper} {rest:List Oper} {f:FuncId} {m:Nat} {cargs gs:List GV} {σc:Heap} {Q:GV→Heap→Nat→Prop} (hr:Hf pg f m cargs σc Q) (r:Nat→Nat) (hk:mQ pg all s.ρ o=some (f,gs)) (hargs:gs=j4 r cargs) (hσ:o7 r σc s.σ)
  (chk:(im m cargs&&iL m σc&&iu (iv r σc))=true) (hrn:∀i,i<m→r i<s.n)
  (h:∀g σ' n',Q g σ' n'→nf (jW (sh r m s.n) g) fun g=>kG (mm (sh r m s.n) σ'++jr (iv r σc) s.σ) fun σ=>kW (s.n+(n'-m)) fun n=>iO N s.ρ o.dst g fun ρ'=>vc ⟨pg,N,n0,H0,S0,w0,h0,g0⟩ T 400 (.ops false all rest::k) ⟨ρ',σ,n⟩):
  JK ⟨pg,N,n0,H0,S0,w0,h0,g0⟩ T (.ops false all (o::rest)::k) s:=JK.TW gV hr r hk hargs hσ chk hrn h
theorem sI(id:Nat){ty:Nat}{cs0:List GV}(hl:gW s.σ id=some (.hZ ty cs0))(hb0:im 0 cs0=true)(h:kG (xy id cs0 (jQ s.σ id)) fun σ=>p9 (HF id cs0 s.ρ) fun ρ=>vc ⟨pg,N,n0,H0,S0,w0,h0,g0⟩ T 400 k ⟨ρ,σ,s.n⟩):JK ⟨pg,N,n0,H0,S0,w0,h0,g0⟩ T k s:=by
 rw[jy,oE]at h;refine JK.qF id hl hb0 ?_;rw[jy];exact V h
theorem ot(id:Nat){ty sz:Nat}{rows:List (List GV)}(hl:gW s.σ id=some (.row ty sz rows))(h:kG (tY id sz rows (jQ s.σ id)) fun σ=>p9 (zJ id sz rows s.ρ) fun ρ=>vc ⟨pg,N,n0,H0,S0,w0,h0,g0⟩ T 400 k ⟨ρ,σ,s.n⟩):JK ⟨pg,N,n0,H0,S0,w0,h0,g0⟩ T k s:=by
 rw[jy,oE]at h;refine JK.freeze id hl ?_;rw[jy];exact V h
theorem iU {id:Nat} {ops:Array Oper} (M:List Nat) (e:Bool) (order:List (Nat×Bool)) (hB:(Region.noSelect ops&&sW ops.toList e order (List.replicate ops.toList.length false))=true)
  (h:r4 ⟨pg,N,n0,H0,S0,w0,h0,g0⟩ T ops.toList k (jr M s.σ++mF (kM M s.σ)) e order ops.toList.length (List.replicate ops.toList.length false) s.ρ ⟨s.ρ,kM M s.σ,s.n⟩) (hT:∀ch s,¬T (.panic ch) s:=by intro _ _ h;exact h):JK ⟨pg,N,n0,H0,S0,w0,h0,g0⟩ T (.code (.region id ops true)::k) s:=by
 simp only[aG]at hB;exact JK.draw M gV (RA.run gV hB.1 hT order hB.2 h)
theorem kE {ops:List Oper} {σs:Heap} {ρq:Env} {fuel:Nat} {listed:List Bool} (i:Nat) (e:Bool) (order:List (Nat×Bool)) {o:Oper} {f:FuncId} {cargs:List GV} {G:GV} (hr:Rt pg f cargs G) (hi:ops[i]? =some o) (hk:mQ pg ops s.ρ o=some (f,cargs))
  (hB:(Region.noSelect ops.toArray&&vC (Region.ready .any ops.toArray listed.toArray) [i] &&sW ops e order (listed.set i true))=true)
  (h:lB N s.ρ o.dst G fun ρ'=>p9 (oS ρq o.dst G) fun ρq=>r4 ⟨pg,N,n0,H0,S0,w0,h0,g0⟩ T ops k σs e order fuel (listed.set i true) ρq ⟨ρ',s.σ,s.n⟩) (hb:im 0 cargs=true:=by rfl) (hT:∀ch s,¬T (.panic ch) s:=by intro _ _ h;exact h):RA ⟨pg,N,n0,H0,S0,w0,h0,g0⟩ T ops k σs ρq (fuel+1) listed s:=by
 simp only[aG]at hB;exact RA.Vj i order e gV hB.1.1 hT hr hi hk hb (by simp only[hB.1.2,hB.2,dI]) h
theorem Vc {ops:List Oper} {σs:Heap} {ρq:Env} {fuel:Nat} {listed:List Bool} (i:Nat) (e:Bool) (order:List (Nat×Bool)) {o:Oper} {f:FuncId} {cargs gs:List GV} {G:GV} (hr:Rt pg f cargs G) (hi:ops[i]? =some o) (hk:mQ pg ops s.ρ o=some (f,gs)) (hl:uJ (s.σ++σs) gs cargs)
  (hB:(Region.noSelect ops.toArray&&vC (Region.ready .any ops.toArray listed.toArray) [i] &&sW ops e order (listed.set i true))=true)
  (h:lB N s.ρ o.dst G fun ρ'=>p9 (oS ρq o.dst G) fun ρq=>r4 ⟨pg,N,n0,H0,S0,w0,h0,g0⟩ T ops k σs e order fuel (listed.set i true) ρq ⟨ρ',s.σ,s.n⟩) (hfree:mq G=true:=by rfl) (hT:∀ch s,¬T (.panic ch) s:=by intro _ _ h;exact h):RA ⟨pg,N,n0,H0,S0,w0,h0,g0⟩ T ops k σs ρq (fuel+1) listed s:=by
 simp only[aG]at hB;exact RA.kN i order e gV hB.1.1 hT hr hi hk hl hfree (by simp only[hB.1.2,hB.2,dI]) h
theorem pN {ops:List Oper} {σs:Heap} {ρq:Env} {fuel:Nat} {listed:List Bool} (i:Nat) (e:Bool) (order:List (Nat×Bool)) {o:Oper} (hi:ops[i]? =some o) (hgd:B8 ops s.ρ o.guard=true)
  (hB:(Region.noSelect ops.toArray&&vC (Region.ready .any ops.toArray listed.toArray) [i] &&sW ops e order (listed.set i true))=true)
  (h:lB N s.ρ o.dst (.v undef) fun ρ'=>p9 (vp ρq o.dst (.v undef)) fun ρq=>r4 ⟨pg,N,n0,H0,S0,w0,h0,g0⟩ T ops k σs e order fuel (listed.set i true) ρq ⟨ρ',s.σ,s.n⟩) (hT:∀ch s,¬T (.panic ch) s:=by intro _ _ h;exact h):RA ⟨pg,N,n0,H0,S0,w0,h0,g0⟩ T ops k σs ρq (fuel+1) listed s:=by
 simp only[aG]at hB;exact RA.Ur i order e gV hB.1.1 hT hi hgd (by simp only[hB.1.2,hB.2,dI]) h
end
theorem _root_.Go.GK.Rq.bt{f:FuncId}{args:List GV}{c:Bool}(h:Rt pg f args (.b c)){d:Bool}(e:c=d):Rt pg f args (.v (.bool d)):=
 ⟨h.call,fun H us w hn hg hcs hs=>(h.ct H us w hn hg hcs hs).mono fun _ _ ⟨u,g,H',σ',e',hi,hs',hfr,⟨hv,_⟩,r⟩=>⟨u,.v (.bool d),H',σ',e',by subst hv;subst e;have:=hi.nF;subst this;exact .ro (.v _),hs',hfr,⟨rfl,rfl⟩,r⟩⟩
theorem _root_.Go.GK.Rq.iN{f:FuncId}{args:List GV}{G:GV}(hc:∀a w,(callFunc f a).run pg.P w=.ok (.enter f a) w)(h:Ct pg f 0 args [] (uj fun g=>g=G))(hi:iy 0 G=true:=by rfl):Rt pg f args G:=
 ⟨hc,fun H us w hn hg hcs hs=>(h H us w hn hg hcs hs).mono fun _ _ ⟨u,g,H',σ',e',hi',hs',hfr,hv,r⟩=>⟨u,g,H',σ',e',hi',hs',hfr,⟨hv,by rw[hv];exact hi⟩,r⟩⟩
theorem _root_.Go.GK.Rq.nl{f:FuncId}{pre suf:List GV}{z:Nat}{Q:GV→Prop}(h:Rq pg f (pre++.sl z [] ::suf) Q):Rq pg f (pre++.v (.slice none 0 0)::suf) Q:=
 ⟨h.call,fun H us w hn hg hcs hs=>h.ct H us w hn hg ⟨by rw[←hcs.1];simp,fun j g hj=>by
  by_cases hjp:j=pre.length
  ·subst hjp;rw[aU (aL _),dh]at hj;cases hj;have:=(hcs.2 pre.length (.v (.slice none 0 0)) (by rw[aU (aL _),dh];rfl)).iH;rw[this];exact .ro .slnil
  ·refine hcs.2 j g ?_;by_cases hlt:j<pre.length
   ·rw[bc hlt]at hj⊢;exact hj
   ·rw[aU az]at hj⊢;obtain⟨k,hk⟩:∃k,j-pre.length=k+1:=⟨j-pre.length-1,az⟩;rw[hk]at hj⊢;exact hj⟩ hs⟩
theorem av{p:Prop}(h:p:=by exact UI rfl rfl):p:=h
section
variable {N n0:Nat}{H0:Hid}{S0:List Nat}{w0:World}{h0:H0.n=n0}{g0:iX pg H0}{T:jz}{k:List It}{s:St}
def sw {all:List Oper} {o:Oper} {rest:List Oper} {f:FuncId} {m:Nat} {cargs gs:List GV} {σc:Heap} {Q:GV->Heap->Nat->Prop} (hr:Hf pg f m cargs σc Q) (r:Nat->Nat) (hk:mQ pg all s.ρ o=some (f,gs)) (hargs:gs=j4 r cargs) (hσ:o7 r σc s.σ)
  (chk:(im m cargs&&iL m σc&&iu (iv r σc))=true) (hrn:∀i,i<m->r i<s.n)
  (h:∀g σ' n',Q g σ' n'->nf (jW (sh r m s.n) g) λg=>kG (mm (sh r m s.n) σ'++jr (iv r σc) s.σ) λσ=>kW (s.n+(n'-m)) λn=>lB N s.ρ o.dst g λρ'=>JK ⟨pg,N,n0,H0,S0,w0,h0,g0⟩ T (.ops false all rest::k) ⟨ρ',σ,n⟩):
  JK ⟨pg,N,n0,H0,S0,w0,h0,g0⟩ T (.ops false all (o::rest)::k) s:=by
 obtain⟨fo,args,ts,first,caps,gs',ho,hgd,hf,he,hargs'⟩:=mu hk;refine JK.call hr.ct hr.call r ho hgd hf he (hargs'.trans hargs) hσ chk hrn (λg σ' n' hq=>?_);have:=h g σ' n' hq;simp only[oh]at this;exact this
def VM(n:Nat)(h:vc ⟨pg,N,n0,H0,S0,w0,h0,g0⟩ T n k s):JK ⟨pg,N,n0,H0,S0,w0,h0,g0⟩ T k s:=ia gV n k s h
end
def ka {N n0:Nat} {H0:Hid} {S0:List Nat} {w0:World} {h0:H0.n=n0} {g0:iX pg H0} {T:jz} {k:List It} {s:St} {ops:List Oper} {σs:Heap} {ρq:Env} {fuel:Nat} {listed:List Bool} (i:Nat) (e:Bool) (order:List (Nat×Bool)) {o:Oper} {f:FuncId} {m:Nat} {cargs gs:List GV} {σc:Heap} {Q:GV->Heap->Nat->Prop} (hr:Hf pg f m cargs σc Q) (r:Nat->Nat) (hi:ops[i]? =some o) (hk:mQ pg ops s.ρ o=some (f,gs)) (hargs:gs=j4 r cargs) (hσ:o7 r σc s.σ)
  (chk:(im m cargs&&iL m σc&&iu (iv r σc))=true) (hrn:∀i,i<m->r i<s.n)
  (hB:(Region.noSelect ops.toArray&&vC (Region.ready .any ops.toArray listed.toArray) [i] &&sW ops e order (listed.set i true))=true)
  (h:∀g σ' n',Q g σ' n'->nf (jW (sh r m s.n) g) λg=>kG (mm (sh r m s.n) σ'++jr (iv r σc) s.σ) λσ=>kW (s.n+(n'-m)) λn=>p9 (oS ρq o.dst g) λρq=>lB N s.ρ o.dst g λρ'=>r4 ⟨pg,N,n0,H0,S0,w0,h0,g0⟩ T ops k σs e order fuel (listed.set i true) ρq ⟨ρ',σ,n⟩) (hT:∀ch s,¬T (.panic ch) s:=by intro _ _ h;exact h):RA ⟨pg,N,n0,H0,S0,w0,h0,g0⟩ T ops k σs ρq (fuel+1) listed s:=by
 simp only[aG]at hB;exact RA.TW i order e gV hB.1.1 hT hr r hi hk hargs hσ chk hrn (by simp only[hB.1.2,hB.2,dI]) h
def _root_.Go.GK.Rq.hf{f:FuncId}{args:List GV}{G:GV}(h:Rt pg f args G):Hf pg f 0 args [] (λg σ n=>g=G/\σ=[]/\n=0):=
 ⟨h.call,λH us w hn hg hcs hs=>(h.ct H us w hn hg hcs hs).mono λ_ _ ⟨u,g,H',σ',e,hi,hs',hfr,⟨hq,_⟩,h1,h2⟩=>⟨u,g,H',σ',e,hi,hs',hfr,hq,h1,h2⟩⟩
def oK{K1:GV->Prop}{K2:Prop}{es:List (Value×GV)}{k:Value}{x:GV}(h:jl k es=some x)(h1:K1 x):(∀g,jl k es=some g->K1 g)/\(jl k es=none->K2):=⟨λg hg=>by rw[h]at hg;cases hg;exact h1,λhg=>by rw[h]at hg;cases hg⟩
def vm{K1:GV->Prop}{K2:Prop}{es:List (Value×GV)}{k:Value}(h:jl k es=none)(h2:K2):(∀g,jl k es=some g->K1 g)/\(jl k es=none->K2):=⟨λg hg=>(by rw[h]at hg;cases hg),λ_=>h2⟩
def tw{b n:Nat}(h:Nat.blt b n=true):∀i,i<1->r1 0 b i<n:=λi hi=>by
 obtain rfl:i=0:=az
 rw[dx]at h;exact h
def K9{a n:Nat}(h:Nat.ble a n=true):∀i,i<a->id i<n:=λ_ hi=>a_ hi (bA h)
def ay{p:Prop}(h:p:=by exact K9 rfl):p:=h
def qi:Option Int->GV
 |none=>.v .nilIface
 |some m=>.ifc 54 (gi m)
abbrev ef(x:Fl):GV:=gs x.1
abbrev en(x:Fl):GV:=gi x.2
def o8(d:Dk):Heap:=match d.nil with
 |true=>[(0,.hZ 33 [.v (.map none),.v (.map none),gi d.left,.b d.cut])]
 |false=>[(0,.hZ 33 [.o 1,.o 2,gi d.left,.b d.cut]),(1,.mp none (iG ef d.L)),(2,.mp none (iG en d.L))]
def dk(d:Dk)(fp:List Nat):wk:=pack 3 (o8 d) fp
def r3(a b c:Nat):Nat->Nat:=λi=>bif Nat.beq i 0 then a else bif Nat.beq i 1 then b else c
def wv(L:List (Value×Fl))(n:Nat):mM n (iG ef L)=true:=vv ef n (λ_=>rfl) L
def Ap(L:List (Value×Fl))(n:Nat):mM n (iG en L)=true:=vv en n (λ_=>rfl) L
def qm(f:Nat->Nat)(L:List (Value×Fl)):jS f (iG ef L)=iG ef L:=ym ef (λ_=>rfl) f L
def vE(f:Nat->Nat)(L:List (Value×Fl)):jS f (iG en L)=iG en L:=ym en (λ_=>rfl) f L
section
variable {N n0:Nat}{H0:Hid}{S0:List Nat}{w0:World}{h0:H0.n=n0}{g0:iX pg H0}{T:jz}{k:List It}{s:St}
def yo(id:Nat){fp:List Nat}(d:Dk)(hd:d.nil=true)(hl:gW s.σ id=some (.ab (dk d fp)))(h:kG ((id,.hZ 33 [.v (.map none),.v (.map none),gi d.left,.b d.cut])::jQ s.σ id) λσ=>kW (s.n+3) λm=>vc ⟨pg,N,n0,H0,S0,w0,h0,g0⟩ T 400 k ⟨s.ρ,σ,m⟩):JK ⟨pg,N,n0,H0,S0,w0,h0,g0⟩ T k s:=by
 rw[jy,j9]at h;refine JK.unpack id hl ?_;rw[jy,j9];have e:mm (yW id s.n) (o8 d)=[(id,.hZ 33 [.v (.map none),.v (.map none),gi d.left,.b d.cut])]:=by
  unfold o8;rw[hd];rfl
 rw[e];exact V h
def qU(id:Nat){fp:List Nat}(d:Dk)(hd:d.nil=false)(hl:gW s.σ id=some (.ab (dk d fp)))(h:kW (s.n+1) λa=>kW (s.n+2) λb=>kG ((id,.hZ 33 [.o a,.o b,gi d.left,.b d.cut])::(a,.mp none (iG ef d.L))::(b,.mp none (iG en d.L))::jQ s.σ id) λσ=>kW (s.n+3) λm=>vc ⟨pg,N,n0,H0,S0,w0,h0,g0⟩ T 400 k ⟨s.ρ,σ,m⟩):JK ⟨pg,N,n0,H0,S0,w0,h0,g0⟩ T k s:=by
 rw[j9,j9,jy,j9]at h;refine JK.unpack id hl ?_;rw[jy,j9];have e:mm (yW id s.n) (o8 d)=[(id,.hZ 33 [.o (s.n+1),.o (s.n+2),gi d.left,.b d.cut]),(s.n+1,.mp none (iG ef d.L)),(s.n+2,.mp none (iG en d.L))]:=by
  unfold o8;rw[hd];show [(id,hY.hZ 33 [.o (s.n+1),.o (s.n+2),gi d.left,.b d.cut]),(s.n+1,.mp none (jS _ (iG ef d.L))),(s.n+2,.mp none (jS _ (iG en d.L)))]=_;rw[qm,vE]
 rw[e];exact V h
def OA (id a b:Nat) (d:Dk) (hd:d.nil=false) (h1:gW s.σ id=some (.hZ 33 [.o a,.o b,gi d.left,.b d.cut])) (h2:gW s.σ a=some (.mp none (iG ef d.L))) (h3:gW s.σ b=some (.mp none (iG en d.L))) (chk:(iu [id,a,b] &&Nat.blt id s.n)=true)
  (h:∀fp,kG ((id,.ab (dk d fp))::jr [id,a,b] s.σ) λσ=>vc ⟨pg,N,n0,H0,S0,w0,h0,g0⟩ T 400 k ⟨s.ρ,σ,s.n⟩):JK ⟨pg,N,n0,H0,S0,w0,h0,g0⟩ T k s:=by
 have e:o8 d=[(0,.hZ 33 [.o 1,.o 2,gi d.left,.b d.cut]),(1,.mp none (iG ef d.L)),(2,.mp none (iG en d.L))]:=by unfold o8;rw[hd]
 simp only[aG]at chk;refine JK.pack (r3 id a b) 3 id (o8 d) ?_ ?_ (λfp=>?_)
 ·rw[e];refine⟨h1,?_,?_,trivial⟩
  ·show gW s.σ a=some (.mp none (jS _ (iG ef d.L)));rw[qm];exact h2
  show gW s.σ b=some (.mp none (jS _ (iG en d.L)));rw[vE];exact h3
 ·rw[e];simp only[aG];refine⟨⟨⟨?_,chk.1⟩,by unfold r3;exact gB id⟩,chk.2⟩;simp[iL,jm,im,iy,wv,Ap]
 have:=h fp;rw[jy]at this|-;have e2:iv (r3 id a b) (o8 d)=[id,a,b]:=by rw[e];rfl
 rw[e2];exact V this
end
def kP(d:Dk)(σ:Heap)(n:Nat):Prop:=
 (d.nil=true/\gW σ 0=some (.hZ 33 [.v (.map none),.v (.map none),gi d.left,.b d.cut])/\Nat.ble 1 n=true)\/
 ∃a b,d.nil=false/\gW σ 0=some (.hZ 33 [.o a,.o b,gi d.left,.b d.cut])/\gW σ a=some (.mp none (iG ef d.L))/\gW σ b=some (.mp none (iG en d.L))/\iu [0,a,b]=true/\Nat.ble 1 n=true
def kP.own{d:Dk}{σ:Heap}{n:Nat}(a b:Nat)(hd:d.nil=false)(h1:gW σ 0=some (.hZ 33 [.o a,.o b,gi d.left,.b d.cut]))(h2:gW σ a=some (.mp none (iG ef d.L)))(h3:gW σ b=some (.mp none (iG en d.L)))(h4:iu [0,a,b]=true)(h5:Nat.ble 1 n=true):kP d σ n:=.inr ⟨a,b,hd,h1,h2,h3,h4,h5⟩
def kP.none{d:Dk}{σ:Heap}{n:Nat}(hd:d.nil=true)(h1:gW σ 0=some (.hZ 33 [.v (.map none),.v (.map none),gi d.left,.b d.cut]))(h5:Nat.ble 1 n=true):kP d σ n:=.inl ⟨hd,h1,h5⟩
def mH(g:GV)(d:Dk):GV->Heap->Nat->Prop:=λg' σ n=>g'=g/\(∃fp,σ=[(0,.ab (dk d fp))])/\n=1
def mH.of{f:FuncId}{args:List GV}{σ:Heap}{g:GV}{d:Dk}(hg:iy 1 g=true)(h:Hf pg f 1 args σ λg' σ' n'=>lL g g'/\(kP d σ' n'\/(∃fp,gW σ' 0=some (.ab (dk d fp)))/\Nat.ble 1 n'=true)):Hf pg f 1 args σ (mH g d):=by
 refine h.lL.pack λg' σ' n' ⟨hgg,hq⟩=>?_;subst hgg;have hn:Nat.ble 1 n'=true:=by
  rcases hq with (h|⟨_,_,h⟩)|h
  ·exact h.2.2
  ·exact h.2.2.2.2.2
  exact h.2
 refine⟨[],by rw[hn,hg];rfl,?_⟩;rcases hq with (⟨hd,h1,_⟩|⟨a,b,hd,h1,h2,h3,h4,_⟩)|⟨⟨fp,h1⟩,_⟩
 ·have e:o8 d=[(0,.hZ 33 [.v (.map none),.v (.map none),gi d.left,.b d.cut])]:=by unfold o8;rw[hd]
  refine .inl ⟨id,3,o8 d,?_,trivial,?_,λfp=>⟨rfl,⟨fp,rfl⟩,rfl⟩⟩
  ·rw[e];exact⟨h1,trivial⟩
  rw[e];rfl
 ·have e:o8 d=[(0,.hZ 33 [.o 1,.o 2,gi d.left,.b d.cut]),(1,.mp none (iG ef d.L)),(2,.mp none (iG en d.L))]:=by unfold o8;rw[hd]
  refine .inl ⟨r3 0 a b,3,o8 d,?_,trivial,?_,λfp=>⟨rfl,⟨fp,rfl⟩,rfl⟩⟩
  ·rw[e];refine⟨h1,?_,?_,trivial⟩
   ·show gW σ' a=some (.mp none (jS _ (iG ef d.L)));rw[qm];exact h2
   show gW σ' b=some (.mp none (jS _ (iG en d.L)));rw[vE];exact h3
  rw[e];simp only[aG];refine⟨⟨?_,h4⟩,rfl⟩;simp[iL,jm,im,iy,wv,Ap]
 exact .inr ⟨_,h1,trivial,rfl,⟨fp,rfl⟩,rfl⟩
def UP{c d:Bool}(h:d=c):lL (.b c) (.b d):=h
def eqv{c d:Bool}(h:d=c):lL (.b c) (.v (.bool d)):=h
def Qu(d:Dk)(fp:List Nat):Hf pg 205 1 [.p 0 0] [(0,.ab (dk d fp))] (mH (.b (sF d)) d):=by
 refine mH.of rfl ⟨call205,Ct.j7 gV func205 rfl ntmps205 rfl results205 λH0 S0 w0 h0 g0=>?_⟩;rcases tf d.nil with hd|hd
 ·refine yo 0 d hd rfl ⟨λhc=>?_,λhc=>?_⟩
  ·exact⟨UP (by simp only[sF,hc,Bool.false_or]),.inl (kP.none hd rfl rfl)⟩
  exact⟨eqv (by simp only[sF];rw[show (!d.cut)=true from hc];rfl),.inl (kP.none hd rfl rfl)⟩
 refine qU 0 d hd rfl ⟨λhc=>?_,λhc=>?_⟩
 ·exact⟨UP (by simp only[sF,hc,Bool.false_or]),.inl (kP.own 2 3 hd rfl rfl rfl rfl rfl)⟩
 exact⟨eqv (by simp only[sF];rw[show (!d.cut)=true from hc];rfl),.inl (kP.own 2 3 hd rfl rfl rfl rfl rfl)⟩
def Am(d:Dk)(fp:List Nat)(B:Nat)(hok:d.ok B):Hf pg 151 1 [.p 0 0] [(0,.ab (dk d fp))] (if sF d=true then mH (qi none) (kc d) else mH (qi (some 14)) d):=by
 have h1:=hok.lo;have h2:=hok.hi;rcases tf (sF d) with hon|hon
 ·rw[if_pos hon];refine mH.of rfl ⟨call151,Ct.j7 gV func151 rfl ntmps151 rfl results151 λH0 S0 w0 h0 g0=>(V (sw (Qu d fp) id rfl rfl ⟨rfl,trivial⟩ rfl aA ?_))⟩;rintro _ _ _ ⟨rfl,⟨fp1,rfl⟩,rfl⟩;have hcut:∀hc:d.cut=true,(kc d).left=d.left-1:=λhc=>if_pos hc;have hcut':∀hc:d.cut=false,(kc d).left=d.left:=λhc=>if_neg (by rw[hc];decide);have ew:d.cut=true->i64.wrap (d.left-1)=d.left-1:=λhc=>ic az az;rcases tf d.nil with hd|hd
  ·have hL:(kc d).L=[]:=hok.nl hd;refine yo 0 d hd rfl (p2 ⟨λhc=>?_,λhc=>?_⟩ (by rw[hon];rfl))
   ·refine p1 ⟨rfl,.inl (kP.own 4 5 rfl ?_ ?_ ?_ rfl rfl)⟩
    ·rw[hcut hc];exact congrArg (λx=>some (hY.hZ 33 [.o 4,.o 5,gi x,.b d.cut])) (ew hc)
    ·rw[hL];rfl
    rw[hL];rfl
   refine p1 ⟨rfl,.inl (kP.own 4 5 rfl ?_ ?_ ?_ rfl rfl)⟩
   ·rw[hcut' hc];rfl
   ·rw[hL];rfl
   rw[hL];rfl
  refine qU 0 d hd rfl (p2 ⟨λhc=>?_,λhc=>?_⟩ (by rw[hon];rfl))
  ·refine p2 ⟨rfl,.inl (kP.own 2 3 rfl ?_ rfl rfl rfl rfl)⟩;rw[hcut hc];exact congrArg (λx=>some (hY.hZ 33 [.o 2,.o 3,gi x,.b d.cut])) (ew hc)
  refine p2 ⟨rfl,.inl (kP.own 2 3 rfl ?_ rfl rfl rfl rfl)⟩;rw[hcut' hc];rfl
 rw[if_neg (by rw[hon];decide)];refine mH.of rfl ⟨call151,Ct.j7 gV func151 rfl ntmps151 rfl results151 λH0 S0 w0 h0 g0=>(V (ig (Qu d fp) id rfl rfl ⟨rfl,trivial⟩ rfl aA ?_))⟩;rintro _ _ _ ⟨rfl,⟨fp1,rfl⟩,rfl⟩;exact p1 ⟨rfl,.inr ⟨⟨_,rfl⟩,rfl⟩⟩ (by rw[hon];rfl)
def Ux:Option Fl->GV
 |some x=>.tup [gs x.1,qi none]
 |none=>.tup [gs ⟨#[]⟩,qi (some 7)]
def Dl{d:Dk}(f:ByteArray):jl (ks f) (iG ef d.L)=(jg f d).map ef:=pC ef _ d.L
def Jp{d:Dk}(f:ByteArray):jl (ks f) (iG en d.L)=(jg f d).map en:=pC en _ d.L
def Ay{d:Dk}{B:Nat}(hok:d.ok B)(hd:d.nil=true)(f:ByteArray):jg f d=none:=by unfold jg;rw[hok.nl hd];rfl
def rZ{d:Dk}{f:ByteArray}{x:Fl}(h:jg f d=some x):jl (ks f) (iG ef d.L)=some (ef x):=by rw[Dl,h];rfl
def sO{d:Dk}{f:ByteArray}(h:jg f d=none):jl (ks f) (iG ef d.L)=none:=by rw[Dl,h];rfl
def RW{d:Dk}{f:ByteArray}{x:Fl}(h:jg f d=some x):jl (ks f) (iG en d.L)=some (en x):=by rw[Jp,h];rfl
theorem xe(d:Dk)(fp:List Nat)(B:Nat)(hok:d.ok B)(f:ByteArray):Hf pg 78 1 [.p 0 0,gs f] [(0,.ab (dk d fp))] (mH (Ux (jg f d)) d):=by
 refine mH.of (by cases jg f d<;>rfl) ⟨call78,Ct.j7 gV func78 rfl ntmps78 rfl results78 fun H0 S0 w0 h0 g0=>?_⟩;rcases tf d.nil with hd|hd
 ·rw[Ay hok hd];exact yo 0 d hd rfl ⟨⟨rfl,rfl,trivial⟩,.inl (kP.none hd rfl rfl)⟩
 ·refine qU 0 d hd rfl ?_;cases hf:jg f d with
  |none=>
   exact vm (sO hf) ⟨⟨rfl,rfl,trivial⟩,.inl (kP.own 2 3 hd rfl rfl rfl rfl rfl)⟩
  |some x=>
   exact oK (rZ hf) ⟨⟨rfl,rfl,trivial⟩,.inl (kP.own 2 3 hd rfl rfl rfl rfl rfl)⟩
def vY(d:Dk)(fp:List Nat)(B:Nat)(hok:d.ok B)(f s:ByteArray)(hs:B+s.size<=4611686018427387904):Hf pg 105 1 [.p 0 0,gs f,gs s] [(0,.ab (dk d fp))] (mH (qi (lM f s d).1) (lM f s d).2):=by
 unfold lM;rcases tf (pH f) with hb|hb
 ·rw[if_pos hb];refine mH.of rfl ⟨call105,Ct.j7 gV func105 rfl ntmps105 rfl results105 λH0 S0 w0 h0 g0=>?_⟩;refine V ?_;refine⟨λhc=>?_,λhc=>?_⟩
  ·refine p1 ?_ (by rw[pH,hc]at hb;exact hb);exact⟨rfl,.inr ⟨⟨_,rfl⟩,rfl⟩⟩
  exact⟨rfl,.inr ⟨⟨_,rfl⟩,rfl⟩⟩
 rw[if_neg (by rw[hb];decide)];refine mH.of ?_ ⟨call105,Ct.j7 gV func105 rfl ntmps105 rfl results105 λH0 S0 w0 h0 g0=>?_⟩
 ·split<;>rfl
 refine V ?_;unfold pH at hb;refine⟨λhc=>?_,λhc=>absurd hb (by rw[show (f.toList==(⟨#[]⟩:ByteArray).toList)=true from hc];simp)⟩;refine p2 ?_ (by rw[show (f.toList==(⟨#[]⟩:ByteArray).toList)=false from hc]at hb;exact hb);refine sw (Am d fp B hok) id rfl rfl ⟨rfl,trivial⟩ rfl aA ?_;rcases tf (sF d) with hon|hon
 ·rw[if_pos hon,if_pos hon];rintro _ _ _ ⟨rfl,⟨fp1,rfl⟩,rfl⟩;refine qU 0 (kc d) rfl rfl ?_;cases hf:jg f d with
  |none=>
   refine p2 ?_;refine vm (sO (d:=kc d) hf) ?_;refine vm (sO (d:=kc d) hf) ?_;refine⟨by show 0+s.size<=_;omega,?_⟩;refine⟨rfl,.inl (kP.own 2 3 rfl rfl ?_ ?_ rfl rfl)⟩
   ·refine congrArg (λl=>some (hY.mp none l)) ?_;rw[show (ByteArray.empty++s:ByteArray)=s by simp];exact nP ef (ks f) (s, -1) d.L
   exact congrArg (λl=>some (hY.mp none l)) (nP en (ks f) (s, -1) d.L)
  |some x=>
   refine p2 ?_;refine oK (rZ (d:=kc d) hf) ?_;refine oK (rZ (d:=kc d) hf) ?_;have:=zn hok hf;refine⟨by show x.1.size+s.size<=_;omega,?_⟩;refine⟨rfl,.inl (kP.own 2 3 rfl rfl ?_ ?_ rfl rfl)⟩
   ·exact congrArg (λl=>some (hY.mp none l)) (nP ef (ks f) (x.1++s,x.2) d.L)
   exact congrArg (λl=>some (hY.mp none l)) (BQ en (x:=x) (y:=(x.1++s,x.2)) hok.keys rfl hf rfl).symm
 rw[if_neg (by rw[hon];decide),if_neg (by rw[hon];decide)];rintro _ _ _ ⟨rfl,⟨fp1,rfl⟩,rfl⟩;refine V ?_;refine p1 ?_;exact⟨rfl,.inr ⟨⟨_,rfl⟩,rfl⟩⟩
def Ah(d:Dk)(fp:List Nat)(B:Nat)(hok:d.ok B)(f:ByteArray):Hf pg 107 1 [.p 0 0,gs f] [(0,.ab (dk d fp))] (mH (qi (nJ f d).1) (nJ f d).2):=by
 unfold nJ;rcases tf d.nil with hd|hd
 ·rw[Ay hok hd];exact mH.of rfl ⟨call107,Ct.j7 gV func107 rfl ntmps107 rfl results107 λH0 S0 w0 h0 g0=>(yo 0 d hd rfl ⟨rfl,.inl (kP.none hd rfl rfl)⟩)⟩
 cases hf:jg f d with
 |none=>
  exact mH.of rfl ⟨call107,Ct.j7 gV func107 rfl ntmps107 rfl results107 λH0 S0 w0 h0 g0=>(qU 0 d hd rfl (vm (sO hf) ⟨rfl,.inl (kP.own 2 3 hd rfl rfl rfl rfl rfl)⟩))⟩
 |some x=>
  simp only[];refine mH.of (by split<;>rfl) ⟨call107,Ct.j7 gV func107 rfl ntmps107 rfl results107 λH0 S0 w0 h0 g0=>(qU 0 d hd rfl (oK (rZ hf) ?_))⟩;refine OA 0 2 3 d hd rfl rfl rfl rfl λfp2=>?_;refine sw (Am d fp2 B hok) id rfl rfl ⟨rfl,trivial⟩ rfl aA ?_;rcases tf (sF d) with hon|hon
  ·rw[if_pos hon,if_pos hon];rintro _ _ _ ⟨rfl,⟨fp1,rfl⟩,rfl⟩;refine qU 0 (kc d) rfl rfl (p2 (iU [6] true (tk (List.range 12)++al [12]) au (oK (rZ (d:=kc d) hf) (V ⟨rfl,.inl (kP.own 5 6 rfl rfl ?_ ?_ rfl rfl)⟩))))
   ·exact congrArg (λl=>some (hY.mp none l)) (BQ ef (x:=x) (y:=(x.1,x.1.size)) hok.keys rfl hf rfl).symm
   exact congrArg (λl=>some (hY.mp none l)) (nP en (ks f) (x.1,x.1.size) d.L)
  rw[if_neg (by rw[hon];decide),if_neg (by rw[hon];decide)];rintro _ _ _ ⟨rfl,⟨fp1,rfl⟩,rfl⟩;exact V (p1 ⟨rfl,.inr ⟨⟨_,rfl⟩,rfl⟩⟩)
def vM(d:Dk)(fp:List Nat)(B:Nat)(hok:d.ok B)(f:ByteArray):Hf pg 85 1 [.p 0 0,gs f] [(0,.ab (dk d fp))] (mH (qi (lQ f d).1) (lQ f d).2):=by
 unfold lQ;rcases tf d.nil with hd|hd
 ·rw[Ay hok hd];exact mH.of rfl ⟨call85,Ct.j7 gV func85 rfl ntmps85 rfl results85 λH0 S0 w0 h0 g0=>(yo 0 d hd rfl ⟨rfl,.inl (kP.none hd rfl rfl)⟩)⟩
 cases hf:jg f d with
 |none=>
  exact mH.of rfl ⟨call85,Ct.j7 gV func85 rfl ntmps85 rfl results85 λH0 S0 w0 h0 g0=>(qU 0 d hd rfl (vm (sO hf) ⟨rfl,.inl (kP.own 2 3 hd rfl rfl rfl rfl rfl)⟩))⟩
 |some x=>
  simp only[];refine mH.of (by split<;>rfl) ⟨call85,Ct.j7 gV func85 rfl ntmps85 rfl results85 λH0 S0 w0 h0 g0=>(qU 0 d hd rfl (oK (rZ hf) ?_))⟩;refine OA 0 2 3 d hd rfl rfl rfl rfl λfp2=>?_;refine sw (Am d fp2 B hok) id rfl rfl ⟨rfl,trivial⟩ rfl aA ?_;rcases tf (sF d) with hon|hon
  ·rw[if_pos hon,if_pos hon];rintro _ _ _ ⟨rfl,⟨fp1,rfl⟩,rfl⟩;refine qU 0 (kc d) rfl rfl (p2 ⟨rfl,.inl (kP.own 5 6 rfl rfl ?_ ?_ rfl rfl)⟩)
   ·exact congrArg (λl=>some (hY.mp none l)) (oV ef (ks f) d.L)
   exact congrArg (λl=>some (hY.mp none l)) (oV en (ks f) d.L)
  rw[if_neg (by rw[hon];decide),if_neg (by rw[hon];decide)];rintro _ _ _ ⟨rfl,⟨fp1,rfl⟩,rfl⟩;exact V (p1 ⟨rfl,.inr ⟨⟨_,rfl⟩,rfl⟩⟩)
def tO{k:Value}(hk:iq none k=true)(x y:GV):∀l:List (Value×GV),jB k y (jB k x l)=jB k y l
 | []=>by
  show (if iA k k=true then [(k,y)] else _)=_;rw[if_pos (lj hk)];rfl
 | (q,z)::r=>by
  show jB k y (if iA k q=true then (k,x)::r else (q,z)::jB k x r)=(if iA k q=true then (k,y)::r else (q,z)::jB k y r);by_cases hv:iA k q=true
  ·rw[if_pos hv,if_pos hv];show (if iA k k=true then (k,y)::r else _)=_;rw[if_pos (lj hk)]
  rw[if_neg hv,if_neg hv];show (if iA k q=true then _ else (q,z)::jB k y (jB k x r))=_;rw[if_neg hv,tO hk x y r]
def DN(d:Dk)(fp:List Nat)(B:Nat)(hok:d.ok B)(f t:ByteArray):Hf pg 143 1 [.p 0 0,gs f,gs t] [(0,.ab (dk d fp))] (mH (qi (rl f t d).1) (rl f t d).2):=by
 unfold rl;rcases tf (pH t) with hb|hb
 ·rw[if_pos hb];refine mH.of rfl ⟨call143,Ct.j7 gV func143 rfl ntmps143 rfl results143 λH0 S0 w0 h0 g0=>?_⟩;rcases tf d.nil with hd|hd
  ·refine yo 0 d hd rfl ⟨λhc=>?_,λhc=>?_⟩
   ·exact p1 ⟨rfl,.inl (kP.none hd rfl rfl)⟩ (by rw[pH,hc]at hb;exact hb)
   exact⟨rfl,.inl (kP.none hd rfl rfl)⟩
  refine qU 0 d hd rfl ?_;cases hf:jg f d with
  |none=>
   refine vm (sO hf) ⟨λhc=>?_,λhc=>?_⟩
   ·exact p1 ⟨rfl,.inl (kP.own 2 3 hd rfl rfl rfl rfl rfl)⟩ (by rw[pH,hc]at hb;exact hb)
   exact⟨rfl,.inl (kP.own 2 3 hd rfl rfl rfl rfl rfl)⟩
  |some x=>
   refine oK (rZ hf) ⟨λhc=>?_,λhc=>?_⟩
   ·exact p1 ⟨rfl,.inl (kP.own 2 3 hd rfl rfl rfl rfl rfl)⟩ (by rw[pH,hc]at hb;exact hb)
   exact⟨rfl,.inl (kP.own 2 3 hd rfl rfl rfl rfl rfl)⟩
 rw[if_neg (by rw[hb];decide)];have hb1:(t.toList==(⟨#[]⟩:ByteArray).toList)=false:=by
  unfold pH at hb;cases h:(t.toList==(⟨#[]⟩:ByteArray).toList) with
  |false=>rfl
  |true=>rw[h]at hb;simp at hb
 have hb2:decide ((t.size:Int) >60)=false:=by rw[pH,hb1]at hb;exact hb
 rcases tf d.nil with hd|hd
 ·rw[Ay hok hd];exact mH.of rfl ⟨call143,Ct.j7 gV func143 rfl ntmps143 rfl results143 λH0 S0 w0 h0 g0=>(yo 0 d hd rfl ⟨λhc=>(p2 ⟨rfl,.inl (kP.none hd rfl rfl)⟩),λhc=>absurd hb1 (by rw[show (t.toList==(⟨#[]⟩:ByteArray).toList)=true from hc];decide)⟩)⟩
 cases hf:jg f d with
 |none=>
  exact mH.of rfl ⟨call143,Ct.j7 gV func143 rfl ntmps143 rfl results143 λH0 S0 w0 h0 g0=>(qU 0 d hd rfl (vm (sO hf) ⟨λhc=>(p2 ⟨rfl,.inl (kP.own 2 3 hd rfl rfl rfl rfl rfl)⟩),λhc=>absurd hb1 (by rw[show (t.toList==(⟨#[]⟩:ByteArray).toList)=true from hc];decide)⟩))⟩
 |some x=>
  simp only[];refine mH.of (by split<;>rfl) ⟨call143,Ct.j7 gV func143 rfl ntmps143 rfl results143 λH0 S0 w0 h0 g0=>(qU 0 d hd rfl (oK (rZ hf) ⟨λhc=>(p2 ?_),λhc=>absurd hb1 (by rw[show (t.toList==(⟨#[]⟩:ByteArray).toList)=true from hc];decide)⟩))⟩;refine OA 0 2 3 d hd rfl rfl rfl rfl λfp2=>?_;refine sw (Am d fp2 B hok) id rfl rfl ⟨rfl,trivial⟩ rfl aA ?_;rcases tf (sF d) with hon|hon
  ·rw[if_pos hon,if_pos hon];rintro _ _ _ ⟨rfl,⟨fp1,rfl⟩,rfl⟩;refine qU 0 (kc d) rfl rfl (p2 (oK (RW (d:=kc d) hf) ?_));have e1:∀g,jB (ks t) (ef x) (jB (ks t) g (nM (ks f) (iG ef d.L)))=iG ef (jE (ks t) x (kA (ks f) d.L)):=λg=>by rw[tO rfl,oV,nP]
   have e2:∀g,jB (ks t) (en x) (jB (ks t) g (nM (ks f) (iG en d.L)))=iG en (jE (ks t) x (kA (ks f) d.L)):=λg=>by rw[tO rfl,oV,nP]
   refine iU [5,6] true (tk (List.range 12)++al [12]++tk [13]++al [14,15]++tk [16]++al [17]) au ?_;have m1:jl (ks t) (nM (ks f) (iG ef d.L))=(jg t (s8 f d)).map ef:=by rw[oV];exact Dl (d:=s8 f d) t
   have m2:jl (ks t) (nM (ks f) (iG en d.L))=(jg t (s8 f d)).map en:=by rw[oV];exact Jp (d:=s8 f d) t
   cases hft:jg t (s8 f d) with
   |none=>
    rw[hft]at m1 m2;exact vm m1 (vm m2 (V ⟨rfl,.inl (kP.own 5 6 rfl rfl (congrArg (λl=>some (hY.mp none l)) (e1 _)) (congrArg (λl=>some (hY.mp none l)) (e2 _)) rfl rfl)⟩))
   |some y=>
    rw[hft]at m1 m2;exact oK m1 (oK m2 (V ⟨rfl,.inl (kP.own 5 6 rfl rfl (congrArg (λl=>some (hY.mp none l)) (e1 _)) (congrArg (λl=>some (hY.mp none l)) (e2 _)) rfl rfl)⟩))
  rw[if_neg (by rw[hon];decide),if_neg (by rw[hon];decide)];rintro _ _ _ ⟨rfl,⟨fp1,rfl⟩,rfl⟩;exact V (p1 ⟨rfl,.inr ⟨⟨_,rfl⟩,rfl⟩⟩)
theorem MO(d:Dk)(hd:d.nil=true)(fp:List Nat)(keeps:Int):Hf pg 15 1 [.p 0 0,gi keeps] [(0,.ab (dk d fp))] (fun g σ' n'=>g=.tup []∧gW σ' 0=some (.hZ 33 [.v (.map none),.v (.map none),gi d.left,.v (.bool false)])∧Nat.ble 1 n'=true):=by
 refine⟨call15,Ct.j7 gV func15 rfl ntmps15 rfl results15 fun H0 S0 w0 h0 g0=>?_⟩;refine yo 0 d hd rfl ?_;refine JK.iT (α:=Unit) (β:=Unit) (fun _=>⟨[(0,.p 0 0),(1,gi keeps),(11,.p 4 0)],[(0,.hZ 33 [.v (.map none),.v (.map none),gi d.left,.b d.cut]),(4,.ob (.mapIter none 0 #[] 0))],5⟩) (fun _=>True) (fun _=>0)
  (fun _=>⟨[(0,.p 0 0)],[(0,.hZ 33 [.v (.map none),.v (.map none),gi d.left,.b d.cut])],1⟩) (fun _=>True) () id ?_ trivial ?_ ?_
 ·exact⟨⟨rfl,rfl,rfl,trivial⟩,⟨rfl,rfl,trivial⟩,rfl⟩
 ·intro _ _;refine V ?_;exact⟨(),id,⟨⟨rfl,trivial⟩,⟨rfl,trivial⟩,rfl⟩,trivial⟩
 ·rintro _ _;refine V ?_;exact⟨rfl,rfl,rfl⟩
def UE{B:Nat}(hB:B<=4611686018427387904)(keeps:Int)(x:Fl)(h:x.1.size<=B/\ -1<=x.2/\x.2<=x.1.size):
  i64.wrap ((if 0>x.2 then 0 else x.2)+(if i64.wrap ((x.1.size:Int) - (if 0>x.2 then 0 else x.2))<(if 0>keeps then 0 else keeps) then i64.wrap ((x.1.size:Int) - (if 0>x.2 then 0 else x.2)) else (if 0>keeps then 0 else keeps)))=max x.2 0+min (max keeps 0) (x.1.size-max x.2 0):=by
 have e1:(if 0>x.2 then 0 else x.2)=max x.2 0:=by split<;>omega
 have e2:(if 0>keeps then 0 else keeps)=max keeps 0:=by split<;>omega
 have e3:i64.wrap ((x.1.size:Int) -max x.2 0)=x.1.size-max x.2 0:=ic az az;rw[e1,e2,e3];have e4:(if (x.1.size:Int) -max x.2 0<max keeps 0 then (x.1.size:Int) -max x.2 0 else max keeps 0)=min (max keeps 0) (x.1.size-max x.2 0):=by split<;>omega
 rw[e4];exact ic az az
theorem Nr(d:Dk)(hd:d.nil=false)(fp:List Nat)(B:Nat)(hok:d.ok B)(hB:B≤4611686018427387904)(keeps:Int):Hf pg 15 1 [.p 0 0,gi keeps] [(0,.ab (dk d fp))] (fun g σ' n'=>g=.tup []∧gW σ' 0=some (.hZ 33 [.o 2,.o 3,gi d.left,.v (.bool false)])∧gW σ' 2=some (.mp none (iG ef (pf keeps d).L))∧gW σ' 3=some (.mp none (iG en (pf keeps d).L))∧Nat.ble 1 n'=true):=by
 refine⟨call15,Ct.j7 gV func15 rfl ntmps15 rfl results15 fun H0 S0 w0 h0 g0=>?_⟩;refine qU 0 d hd rfl ?_;refine JK.iT (α:=List Value×Option Value) (β:=Option Value) (fun a=>⟨[(0,.p 0 0),(1,gi keeps),(11,.p 4 0)],[(0,.hZ 33 [.o 2,.o 3,gi d.left,.b d.cut]),(2,.itr 4),(3,.mp none (iG en (lp keeps a.1 d.L))),(4,.mr none (iG ef (lp keeps a.1 d.L)) a.1 a.2)],5⟩)
  (fun a=>a.1.Nodup∧∀k∈a.1,∃f x,k=ks f∧jg f d=some x) (fun a=>a.1.length)
  (fun c=>⟨[(0,.p 0 0)],[(0,.hZ 33 [.o 2,.o 3,gi d.left,.b d.cut]),(2,.itr 4),(3,.mp none (iG en (lp keeps [] d.L))),(4,.mr none (iG ef (lp keeps [] d.L)) [] c)],5⟩) (fun _=>True) (d.L.map (·.1),none) id ?_ ?_ ?_ ?_
 ·refine⟨⟨rfl,rfl,rfl,trivial⟩,⟨rfl,rfl,?_,?_,trivial⟩,?_⟩
  ·rw[show lp keeps (d.L.map (·.1),(none:Option Value)).1 d.L=d.L from Jy keeps hok.keys];show _=some (hY.mp none (jS id (iG en d.L)));rw[vE];rfl
  ·rw[show lp keeps (d.L.map (·.1),(none:Option Value)).1 d.L=d.L from Jy keeps hok.keys];show _=some (hY.mr none (jS id (iG ef d.L)) (d.L.map (·.1)) none);rw[qm];refine congrArg (fun l=>some (hY.mr none (iG ef d.L) l none)) ?_;show (iG ef d.L).map (·.1)=_;rw[bR];rfl
  ·simp[jt,iy,im,iL,jm,wv,Ap,iv,iu,jf,je];decide
 ·refine⟨hok.nd,fun k hk'=>?_⟩;obtain⟨⟨q,x⟩,hx,rfl⟩:=ba.1 hk';have hq:=hok.keys _ hx;cases q with
  |string f=>exact⟨f,x,rfl,(kF rfl hok.keys hok.nd).2 hx⟩
  |_=>cases hq
 ·rintro⟨left,cur⟩ ⟨hn,hl⟩;refine V ?_;refine⟨fun e=>?_,fun l1 k l2 g hlk hg=>?_⟩
  ·obtain rfl:left=[]:=e;refine⟨cur,id,⟨⟨rfl,trivial⟩,⟨rfl,rfl,?_,?_,trivial⟩,?_⟩,trivial⟩
   ·show _=some (hY.mp none (jS id _));rw[vE];rfl
   ·show _=some (hY.mr none (jS id _) _ _);rw[qm];rfl
   ·simp[jt,iy,im,iL,jm,wv,Ap,iv,iu,jf,je];decide
  ·obtain rfl:left=l1++k::l2:=hlk;obtain⟨f,x,rfl,hf⟩:=hl k aA;have hs:∀z∈l1++ks f::l2,iq none z=true:=fun z hz=>by
    obtain⟨f',_,rfl,_⟩:=hl z hz;rfl
   obtain⟨hfind,hstep⟩:=G8 (keeps:=keeps) (k:=ks f) (x:=x) (l:=l1++ks f::l2) (l':=l1++l2) rfl (SB rfl aA) (fun q hq=>Ny hn hs hq) hok.keys hok.nd hf;have hef:jl (ks f) (iG ef (lp keeps (l1++ks f::l2) d.L))=some (ef x):=by rw[pC,hfind];rfl
   have hen:jl (ks f) (iG en (lp keeps (l1++ks f::l2) d.L))=some (en x):=by rw[pC,hfind];rfl
   obtain rfl:ef x=g:=br (hef.symm.trans hg);have hsz:=zn hok hf;have hn':(l1++l2).Nodup:=by
    have:=dQ.nodup_iff.1 hn;exact (bJ.1 this).2
   have hni:ks f∉l1++l2:=by
    have:=dQ.nodup_iff.1 hn;exact (bJ.1 this).1
   have hl':∀k∈l1++l2,∃f x,k=ks f∧jg f d=some x:=fun k hk'=>hl k (by
    rcases aE.1 hk' with h|h<;>simp[h])
   have hlen:(l1++l2).length<(l1++ks f::l2).length:=by simp
   refine⟨_,hef,?_⟩;refine oK hen ?_;by_cases hgone:x.2<0∧keeps<1
   ·have hkf:mf keeps x=none:=if_pos hgone;replace hstep:kA (ks f) (lp keeps (l1++ks f::l2) d.L)=lp keeps (l1++l2) d.L:=by rw[hkf]at hstep;exact hstep
    refine⟨fun hc=>?_,fun hc=>absurd hc (by rw[decide_eq_true hgone.1];decide)⟩;refine p1 ?_ (decide_eq_true hgone.2);refine⟨(l1++l2,some (ks f)),id,⟨⟨rfl,rfl,rfl,trivial⟩,⟨rfl,rfl,?_,?_,trivial⟩,?_⟩,⟨hn',hl'⟩,hlen⟩
    ·exact congrArg (fun l=>some (hY.mp none l)) (by rw[vE,oV,hstep])
    ·have e1:nM (ks f) (iG ef (lp keeps (l1++ks f::l2) d.L))=iG ef (lp keeps (l1++l2) d.L):=by rw[oV,hstep]
     have e2:sS (ks f) (l1++l2)=l1++l2:=vT fun q hq=>by
      cases h:iA (ks f) q with
      |false=>rfl
      |true=>
       obtain⟨f',_,rfl,_⟩:=hl' q hq;exact absurd (by rw[kH (kd:=none) rfl rfl h];exact hq) hni
     show some (hY.mr none (nM (ks f) (iG ef (lp keeps (l1++ks f::l2) d.L))) (sS (ks f) (l1++l2)) (some (ks f)))=some (hY.mr none (jS id (iG ef (lp keeps (l1++l2) d.L))) (l1++l2) (some (ks f)));rw[e1,e2,qm]
    ·simp[jt,iy,im,iL,jm,wv,Ap,iv,iu,jf,je];decide
   ·have hkf:mf keeps x=some (x.1.extract 0 (max x.2 0+min (max keeps 0) (x.1.size-max x.2 0)).toNat,max x.2 0+min (max keeps 0) (x.1.size-max x.2 0)):=if_neg hgone;replace hstep:jE (ks f) (x.1.extract 0 (max x.2 0+min (max keeps 0) (x.1.size-max x.2 0)).toNat,max x.2 0+min (max keeps 0) (x.1.size-max x.2 0)) (lp keeps (l1++ks f::l2) d.L)=lp keeps (l1++l2) d.L:=by rw[hkf]at hstep;exact hstep
    have h2:=UE hB keeps x hsz;refine⟨fun hc=>p2 ?_ (decide_eq_false fun h=>hgone ⟨of_decide_eq_true hc,h⟩),fun hc=>?_⟩
    all_goals
     refine iU [2,3,4] true (tk (List.range 14)++al [14]++tk [15]++al [16,17]++tk [18]++al [19]) au ?_;refine⟨bY 0,?_,?_,?_⟩
     ·refine (show (0:Int)≤_ from ?_);refine Int.le_trans ?_ (Int.le_of_eq h2.symm);omega
     ·refine Int.le_trans (Int.le_of_eq h2) ?_;omega
     refine⟨_,hef,?_⟩;refine oK hen ?_;refine V ?_;refine⟨(l1++l2,some (ks f)),id,⟨⟨rfl,rfl,rfl,trivial⟩,⟨rfl,rfl,?_,?_,trivial⟩,?_⟩,⟨hn',hl'⟩,hlen⟩
     ·refine congrArg (fun l=>some (hY.mp none l)) ?_;rw[vE,tO rfl,←hstep,←nP];exact congrArg (fun n=>jB (ks f) (gi n) _) h2
     ·refine congrArg (fun l=>some (hY.mr none l (l1++l2) (some (ks f)))) ?_;rw[qm,tO rfl,←hstep,←nP];exact congrArg (fun n:Int=>jB (ks f) (gs (x.1.extract 0 n.toNat)) _) h2
     ·simp[jt,iy,im,iL,jm,wv,Ap,iv,iu,jf,je];decide
 ·rintro c _;refine JK.Ar 2 4 rfl rfl rfl ?_;refine V ?_;exact⟨rfl,rfl,rfl,rfl,rfl⟩
def Pq(d:Dk)(fp:List Nat)(B:Nat)(hok:d.ok B)(hB:B<=4611686018427387904)(keeps:Int):Hf pg 15 1 [.p 0 0,gi keeps] [(0,.ab (dk d fp))] (mH (.tup []) (pf keeps d)):=by
 rcases tf d.nil with hd|hd
 ·refine mH.of rfl ((MO d hd fp keeps).ri 0 λg σ' n' ⟨h1,h2,h3⟩=>⟨_,_,[.v (.map none),.v (.map none),gi d.left,.b false],h2,A0z,?_,.inl (kP.none hd (tJ h2 _) h3)⟩);rw[h1];trivial
 refine mH.of rfl ((Nr d hd fp B hok hB keeps).ri 0 λg σ' n' ⟨h1,h2,h3,h4,h5⟩=>⟨_,_,[.o 2,.o 3,gi d.left,.b false],h2,A0z,?_,.inl (kP.own 2 3 hd (tJ h2 _) ((xP rfl).trans h3) ((xP rfl).trans h4) rfl h5)⟩);rw[h1];trivial
end Go.Proofs.YtadildidlcbbkaaGreatDoor
namespace Go.Proofs.YtadildidlcbbkaaGreatDoor
open Go.Shelf Go.GK
open IntKind Go.Proofs.Tryz
set_option maxRecDepth 100000
def K7:Go.Shelf.Ren:=⟨fun|166=>141|169=>142|240=>193|276=>251|n=>n,fun|0=>0|3=>3|4=>4|5=>5|9=>9|20=>20|37=>182|70=>220|72=>222|75=>36|127=>271|164=>321|80=>173|n=>n,fun|n=>n⟩
def SP:Go.Proofs.Lays.n166 prog K7:={
 mixed:=au
 f166:=func141.trans ah
 f240:=func193.trans ah
 f276:=func251.trans ah
 t0:=underlying0
 a0:=Tryz.isAgg0
 z0:=Tryz.sizeOf0
 v0:=Tryz.zeroValue0
 t3:=underlying3
 a3:=Tryz.isAgg3
 z3:=Tryz.sizeOf3
 v3:=Tryz.zeroValue3
 t4:=underlying4
 a4:=Tryz.isAgg4
 z4:=Tryz.sizeOf4
 v4:=Tryz.zeroValue4
 t9:=underlying9
 a9:=Tryz.isAgg9
 z9:=Tryz.sizeOf9
 v9:=Tryz.zeroValue9
 t20:=underlying20
 a20:=Tryz.isAgg20
 z20:=Tryz.sizeOf20
 v20:=Tryz.zeroValue20
 t37:=underlying182
 a37:=Tryz.isAgg182
 z37:=Tryz.sizeOf182
 v37:=Tryz.zeroValue182
 t70:=underlying220
 a70:=Tryz.isAgg220
 z70:=Tryz.sizeOf220
 v70:=Tryz.zeroValue220
 t72:=underlying222
 a72:=Tryz.isAgg222
 z72:=Tryz.sizeOf222
 v72:=Tryz.zeroValue222
 t75:=underlying36
 a75:=Tryz.isAgg36
 z75:=Tryz.sizeOf36
 v75:=Tryz.zeroValue36
 t164:=underlying321
 a164:=Tryz.isAgg321
 z164:=Tryz.sizeOf321
 v164:=Tryz.zeroValue321}
def Tk:Go.Proofs.Lays.n169 prog K7:={
 mixed:=au
 f169:=func142.trans ah
 t0:=underlying0
 a0:=Tryz.isAgg0
 z0:=Tryz.sizeOf0
 v0:=Tryz.zeroValue0
 t3:=underlying3
 a3:=Tryz.isAgg3
 z3:=Tryz.sizeOf3
 v3:=Tryz.zeroValue3
 t9:=underlying9
 a9:=Tryz.isAgg9
 z9:=Tryz.sizeOf9
 v9:=Tryz.zeroValue9
 t37:=underlying182
 a37:=Tryz.isAgg182
 z37:=Tryz.sizeOf182
 v37:=Tryz.zeroValue182
 t70:=underlying220
 a70:=Tryz.isAgg220
 z70:=Tryz.sizeOf220
 v70:=Tryz.zeroValue220
 t72:=underlying222
 a72:=Tryz.isAgg222
 z72:=Tryz.sizeOf222
 v72:=Tryz.zeroValue222
 t127:=underlying271
 a127:=Tryz.isAgg271
 z127:=Tryz.sizeOf271
 v127:=Tryz.zeroValue271}
def I1:Builder.Extra prog K7:={
 sizeBuilder:=au
 liesBuilder:=au
 t5:=underlying5
 a5:=Tryz.isAgg5
 z5:=Tryz.sizeOf5
 v5:=Tryz.zeroValue5
 infoByte:=au
 cellsByte:=au
 sizeByte:=au
 neB5:=by decide}
abbrev bd(s:ByteArray)(fp:List Nat):wk:=yZ 222 5 (Lib.strCells s) fp
def Hv(a b:ByteArray):Lib.strCells (a++b)=Lib.strCells a++Lib.strCells b:=by
 unfold Lib.strCells;rw[<-aP]
 congr 1
def xi(b s:ByteArray)(fp:List Nat)(hlen:b.size+s.size<=140737488355328):Hf pg 141 1 [.p 0 0,.v (.string s)] [(0,.ab (bd b fp))] λg σ n=>g=.v (.tuple #[.int .i64 s.size,.nilIface])/\(∃fp',σ=[(0,.ab (bd (b++s) fp'))])/\n=1:=by
 have:=CO (p:=pg) SP I1 call141 (Lib.strCells b) fp s (by rw[Lib.strCells_length];exact hlen);rw[<-Hv]at this;exact this
def Eg(b:ByteArray)(fp:List Nat):Hf pg 142 1 [.p 0 0] [(0,.ab (bd b fp))] λg σ n=>g=.v (.string b)/\σ=[]/\n=1:=by
 have:=KL (p:=pg) Tk I1 call142 b.data.toList fp;exact this
end Go.Proofs.YtadildidlcbbkaaGreatDoor
namespace Go.Proofs.YtadildidlcbbkaaGreatDoor
open Go Go.GK Go.PL Go.RowKit IntKind Go.Proofs.Tryz
set_option maxRecDepth 100000
def Vh{n:Nat}:u8.wrap (Int.fdiv (n:Int) (2^8))=((UInt8.ofNat (n/256)).toNat:Int):=by
 have e:Int.fdiv (n:Int) (2^8)=((n/256:Nat):Int):=by
  rw[dJ _ ax];simp
 rw[e,cO];simp[IntKind.wrap,IntKind.signed,IntKind.bits]
def P5{n:Nat}:u8.wrap (n:Int)=((UInt8.ofNat n).toNat:Int):=by
 rw[cO];simp[IntKind.wrap,IntKind.signed,IntKind.bits]
def BG(s:ByteArray)(h:s.size<=4000000000):Rt pg 106 [gs s] (gs (jU s)):=by
 refine Rt.of gV func106 rfl ntmps106 rfl results106 call106 λH0 S0 w0 h0 g0=>?_;refine⟨ax,⟨[UInt8.ofNat (s.size/256),UInt8.ofNat s.size],?_,?_⟩⟩
 ·show [[GV.v (.int .u8 (u8.wrap (Int.fdiv (s.size:Int) (2^8))))],[.v (.int .u8 (u8.wrap (s.size:Int)))]]=_;rw[Vh,P5];rfl
 exact⟨by show 2+s.size<=_;omega,⟨rfl,rfl⟩⟩
def Vl(a b:UInt8):kh .or .i64 (i64.wrap ((a.toNat:Int)*2^8)) (b.toNat:Int)=((a.toNat*256+b.toNat:Nat):Int):=by
 have ha:=a.toNat_lt;have hb:=b.toNat_lt;have e1:i64.wrap ((a.toNat:Int)*2^8)=((a.toNat*256:Nat):Int):=by rw[ic az az];omega
 rw[e1];show i64.wrap (((BitVec.ofInt 64 ((a.toNat*256:Nat):Int))||| (BitVec.ofInt 64 (b.toNat:Int))).toNat:Int)=_;rw[cQ,cQ,fI,cV,cV,cI az,cI az];have:=eI (i:=8) (b:=b.toNat) az a.toNat;rw[show a.toNat*256=2^8*a.toNat by omega,<-this];exact ic az az
def Mh{n:Nat}(h:n<65536):(UInt8.ofNat (n/256)).toNat*256+(UInt8.ofNat n).toNat=n:=by
 rw[cO,cO];omega
def UL{a b:UInt8}:kh .or .i64 (i64.wrap (i64.wrap (a.toNat:Int)*2^min (Int.toNat 8) IntKind.i64.bits)) (i64.wrap (b.toNat:Int))=((a.toNat*256+b.toNat:Nat):Int):=by
 have ha:=a.toNat_lt;have hb:=b.toNat_lt;rw[ic (x:=(a.toNat:Int)) az az,ic (x:=(b.toNat:Int)) az az];exact Vl a b
theorem PS(l:List ByteArray)(p:ByteArray)(hl:∀x∈l,x.size<65536)(hp:NV p)(hsz:(jc l++p).size≤4000000000000):Rt pg 79 [gs (jc l++p)] (.tup [.sl 1 (l.map fun x=>[gs x]),gi ((jc l).size:Int)]):=by
 refine Rt.of gV func79 rfl ntmps79 rfl results79 call79 fun H0 S0 w0 h0 g0=>?_;have hsz':(jc l).size+p.size≤4000000000000:=by rw[aJ]at hsz;exact hsz
 have hlen:=AS l;refine JK.kx 4 9 1 rfl ?_;refine JK.iT (α:=Nat) (β:=Unit) (fun i=>⟨[(0,gs (jc l++p)),(5,gi ((jc (l.take i)).size:Int)),(4,.o 0)],[(0,.row 9 1 ((l.take i).map fun x=>[gs x]))],1⟩) (fun i=>i≤l.length) (fun i=>l.length-i)
  (fun _=>⟨[(5,gi ((jc l).size:Int)),(4,.o 0)],[(0,.row 9 1 (l.map fun x=>[gs x]))],1⟩) (fun _=>True) 0 id ?_ (aQ _) ?_ ?_
 ·exact⟨⟨rfl,rfl,rfl,trivial⟩,⟨rfl,trivial⟩,rfl⟩
 ·intro i hi;refine V ?_;by_cases hlt:i<l.length
  ·have hx:=hl l[i] (aR hlt);have hC:jc l++p=jc (l.take i)++(jU l[i]++(jc (l.drop (i+1))++p)):=by
    have e:jc l=jc (l.take i)++(jU l[i]++jc (l.drop (i+1))):=by
     conv=>lhs;rw[←cj i l,cn hlt]
     rw[u6];rfl
    rw[e];simp only[bB]
   have hs1:(jc l++p).size=(jc (l.take i)).size+(l[i].size+2+(jc (l.drop (i+1))++p).size):=by rw[hC,aJ,aJ,ml]
   have b0:=CR (jc (l.take i)) l[i] (jc (l.drop (i+1))++p);have b1:=CJ (jc (l.take i)) l[i] (jc (l.drop (i+1))++p);have b2:=IT (jc (l.take i)) l[i] (jc (l.drop (i+1))++p);rw[←hC]at b0 b1 b2;have hA:(jc (l.take (i+1))).size=(jc (l.take i)).size+(l[i].size+2):=by
    rw[bx,aC hlt,u6,aJ];show _+(jU l[i]++ByteArray.empty).size=_;rw[aJ,ml];rfl
   generalize hCC:jc l++p=C at*;generalize hAA:jc (l.take i)=A at*;refine p1 ?_ (decide_eq_true (by rw[ic az az];omega));have ew:i64.wrap ((A.size:Int)+1)=((A.size+1:Nat):Int):=by rw[ic az az];omega
   refine⟨by kernel_rfl,?_⟩;refine⟨UInt8.ofNat (l[i].size/256),aN _,b0,?_⟩;refine⟨by decide,?_⟩;refine⟨UInt8.ofNat l[i].size,by rw[ew];omega,by rw[ew];exact b1,?_⟩;have hn:=UL (a:=UInt8.ofNat (l[i].size/256)) (b:=UInt8.ofNat l[i].size);rw[Mh hx]at hn;have w1:i64.wrap (i64.wrap ((C.size:Int) -A.size) -2)=(C.size:Int) -A.size-2:=by rw[ic (x:=(C.size:Int) -A.size) az az,ic az az]
   have w2:i64.wrap ((A.size:Int)+2)=((A.size+2:Nat):Int):=by rw[ic az az];omega
   have w3:i64.wrap (((A.size+2:Nat):Int)+(l[i].size:Int))=((A.size+2+l[i].size:Nat):Int):=by rw[ic az az];omega
   have w4:i64.wrap ((A.size:Int)+i64.wrap (2+(l[i].size:Int)))=(((jc (l.take (i+1))).size:Nat):Int):=by rw[hA,ic (x:=2+(l[i].size:Int)) az az,ic az az];omega
   refine p2 ?_ (decide_eq_false (by rw[hn,w1];omega));refine⟨by rw[w2];omega,by rw[hn,w2,w3];omega,by rw[hn,w2,w3];omega,?_⟩;refine⟨by simp only[aD,aY,aB,aM];omega,?_⟩;refine⟨i+1,fun _=>2,⟨⟨rfl,?_,rfl,trivial⟩,⟨?_,trivial⟩,rfl⟩,hlt,by show l.length- (i+1)<l.length-i;omega⟩
   ·refine congrArg (fun n=>some (gi n)) ?_;rw[hn];exact w4
   ·refine congrArg (fun x=>some (hY.row 9 1 x)) ?_;rw[bx,aC hlt,aP];refine congrArg (fun x=>_++[[gs x]]) ?_;rw[hn,w2,w3];exact b2
  ·obtain rfl:i=l.length:=by omega
   rw[aT];have hC1:(jc l++p).size=(jc l).size+p.size:=aJ;rcases hp with hp|⟨a,b,ha,hb,hab⟩
   ·refine p2 ?_ (decide_eq_false (by rw[hC1,ic az az];omega));exact⟨(),id,⟨⟨rfl,rfl,trivial⟩,⟨rfl,trivial⟩,rfl⟩,trivial⟩
   ·have hp1:1<p.size:=by
     rcases Nat.lt_or_ge 1 p.size with h|h
     ·exact h
     ·rw[getElem?_neg p 1 az]at hb;cases hb
    have b0:=yD (jc l) p 0;have b1:=yD (jc l) p 1;rw[ha,b8]at b0;rw[hb]at b1;have ew:i64.wrap (((jc l).size:Int)+1)=(((jc l).size+1:Nat):Int):=by rw[ic az az];omega
    generalize hCC:jc l++p=C at*;generalize hAA:jc l=A at*;refine p1 ?_ (decide_eq_true (by rw[ic az az];omega));refine⟨by kernel_rfl,?_⟩;refine⟨a,aN _,b0,?_⟩;refine⟨by decide,?_⟩;refine⟨b,by rw[ew];omega,by rw[ew];exact b1,?_⟩;have w1:i64.wrap (i64.wrap ((C.size:Int) -A.size) -2)=(C.size:Int) -A.size-2:=by rw[ic (x:=(C.size:Int) -A.size) az az,ic az az]
    refine p1 ?_ (decide_eq_true (by rw[UL,w1];omega));exact⟨(),id,⟨⟨rfl,rfl,trivial⟩,⟨rfl,trivial⟩,rfl⟩,trivial⟩
 ·rintro _ _;refine ot 0 rfl ?_;exact⟨⟨rfl,rfl,trivial⟩,rfl⟩
abbrev wl(w d:Nat)(down:Bool):Nat×hY:=(w,.hZ 152 [.p d 0,.b down])
def oC(g:GV)(down:Bool)(d:Dk):GV->Heap->Nat->Prop:=λg' σ n=>g'=g/\(∃fp,σ=[(0,.ab (dk d fp)),wl 1 0 down])/\n=2
def oC.of{f:FuncId}{args:List GV}{σ:Heap}{g:GV}{down:Bool}{d:Dk}(hg:iy 2 g=true)(h:Hf pg f 2 args σ λg' σ' n'=>lL g g'/\(∃fp,gW σ' 0=some (.ab (dk d fp)))/\gW σ' 1=some (.hZ 152 [.p 0 0,.b down])/\Nat.ble 2 n'=true):Hf pg f 2 args σ (oC g down d):=by
 refine h.lL.jK λg' σ' n' ⟨hgg,⟨fp,h1⟩,h2,h3⟩=>⟨id,g,_,2,⟨rfl,⟨fp,rfl⟩,rfl⟩,by rw[hgg,mR],⟨h1,h2,trivial⟩,?_⟩;rw[hg];rfl
def Sw(d:Dk)(fp:List Nat)(down:Bool):Hf pg 99 2 [.p 1 0] [(0,.ab (dk d fp)),wl 1 0 down] (oC (.b down) down d):=by
 exact oC.of rfl (Hf.of gV func99 rfl ntmps99 rfl results99 call99 λH0 S0 w0 h0 g0=>⟨rfl,⟨fp,rfl⟩,rfl,rfl⟩)
def Cz(d:Dk)(fp:List Nat)(B:Nat)(hok:d.ok B)(hB:B<=1000000000000)(s:ByteArray)(down:Bool):Hf pg 41 2 [.p 1 0,gs s] [(0,.ab (dk d fp)),wl 1 0 down] (oC (qi (sa s down d).1) (sa s down d).2.1 (sa s down d).2.2):=by
 unfold sa;by_cases hs:(s.size:Int) >60000
 ·rw[if_pos hs];exact oC.of rfl (Hf.of gV func41 rfl ntmps41 rfl results41 call41 λH0 S0 w0 h0 g0=>(p1 ⟨rfl,⟨fp,rfl⟩,rfl,rfl⟩ (decide_eq_true hs)))
 rw[if_neg hs];cases down with
 |true=>
  rw[if_pos rfl];exact oC.of rfl (Hf.of gV func41 rfl ntmps41 rfl results41 call41 λH0 S0 w0 h0 g0=>(p2 (p1 ⟨rfl,⟨fp,rfl⟩,rfl,rfl⟩) (decide_eq_false hs)))
 |false=>
  rw[if_neg ax];have hf:=BG s az;have hfs:=ml s;have hap:=vY d fp B hok nN (jU s) az;have hok1:=qJ hok nN (jU s);generalize lM nN (jU s) d=A at*;obtain⟨e1,d1⟩:=A;cases e1 with
  |some m=>
   refine oC.of rfl (Hf.of gV func41 rfl ntmps41 rfl results41 call41 λH0 S0 w0 h0 g0=>(p2 (p2 (iU [0] false (tk [0,1,2,3,4]) au (kE 5 false [] hf rfl rfl au (ka 6 true (tk [7]) hap id rfl rfl rfl ⟨rfl,trivial⟩ rfl aA au ?_)))) (decide_eq_false hs)));rintro _ _ _ ⟨rfl,⟨fp1,rfl⟩,rfl⟩;exact V (p2 ⟨rfl,⟨fp1,rfl⟩,rfl,rfl⟩)
  |none=>
   have hsy:=λfp1=>Ah d1 fp1 (B+(jU s).size) hok1 nN;show Hf pg _ 2 _ _ (oC (qi (nJ nN d1).1) (nJ nN d1).1.isSome (nJ nN d1).2);generalize nJ nN d1=A at*;obtain⟨e2,d2⟩:=A;refine oC.of (by cases e2<;>rfl) (Hf.of gV func41 rfl ntmps41 rfl results41 call41 λH0 S0 w0 h0 g0=>(p2 (p2 (iU [0] false (tk [0,1,2,3,4]) au (kE 5 false [] hf rfl rfl au (ka 6 true (tk [7]) hap id rfl rfl rfl ⟨rfl,trivial⟩ rfl aA au ?_)))) (decide_eq_false hs)));rintro _ _ _ ⟨rfl,⟨fp1,rfl⟩,rfl⟩;refine V (p1 (ig (hsy fp1) id rfl rfl ⟨rfl,trivial⟩ rfl aA ?_));rintro _ _ _ ⟨rfl,⟨fp2,rfl⟩,rfl⟩;cases e2 with
   |none=>exact⟨rfl,⟨fp2,rfl⟩,rfl,rfl⟩
   |some m=>exact⟨rfl,⟨fp2,rfl⟩,rfl,rfl⟩
def GJ(s:ByteArray):Rt pg 161 [gs s] (.b (decide ((s.size:Int) >60000))):=by
 refine Rt.of gV func161 rfl ntmps161 rfl results161 call161 λH0 S0 w0 h0 g0=>?_;exact⟨rfl,rfl⟩
def PV(l:List ByteArray)(hl:l.length<=1000000):Rq pg 212 [.sl 1 (l.map λx=>[gs x]),.fn (.func 161) [] []] (λg=>∃n:Int,g=gi n/\decide (n>=0)=yk l):=by
 refine Rq.of gV func212 rfl ntmps212 rfl results212 call212 λH0 S0 w0 h0 g0=>?_;refine JK.iT (α:=Nat) (β:=Unit) (λi=>⟨[(0,.sl 1 (l.map λx=>[gs x])),(1,.fn (.func 161) [] []),(7,gi l.length),(8,gi i)],[],0⟩) (λi=>i<=l.length/\∀x∈l.take i,¬(x.size:Int) >60000) (λi=>l.length-i) (λ_=>⟨[],[],0⟩) (λ_=>yk l=false) 0 id ?_ ?_ ?_ ?_
 ·exact⟨⟨rfl,rfl,by simp;rfl,rfl,trivial⟩,trivial,rfl⟩
 ·exact⟨aQ _,aA⟩
 ·rintro i ⟨hi,hno⟩;refine V ?_;by_cases hlt:i<l.length
  ·refine p1 (ix (h:=?_));by_cases h1:(l[i].size:Int) >60000
   ·refine GO ((GJ l[i]).bt (d:=true) (decide_eq_true h1)) rfl ⟨⟨_,rfl,?_⟩,rfl⟩;rw[decide_eq_true az];exact (dp.2 ⟨l[i],aR hlt,decide_eq_true h1⟩).symm
   refine GO ((GJ l[i]).bt (d:=false) (decide_eq_false h1)) rfl ⟨i+1,id,⟨⟨rfl,rfl,rfl,h_ az,trivial⟩,trivial,rfl⟩,⟨hlt,λx hx=>?_⟩,m8⟩;rw[bx,aC hlt]at hx;rcases aE.1 hx with hx|hx
   ·exact hno x hx
   rw[aH.1 hx];exact h1
  refine p2 ?_;obtain rfl:i=l.length:=az
  refine⟨(),id,A0z,?_⟩;rw[aT]at hno;exact dL.2 λx hx h=>hno x hx (of_decide_eq_true h)
 rintro _ hno;exact V ⟨⟨_,rfl,by rw[hno];rfl⟩,rfl⟩
def wN(l:List ByteArray)(hl:l.length<=1000000):Rt pg 160 [.sl 1 (l.map λx=>[gs x]),.fn (.func 161) [] []] (.b (yk l)):=by
 refine Rt.of gV func160 rfl ntmps160 rfl results160 call160 λH0 S0 w0 h0 g0=>?_;refine US (PV l hl) rfl ?_;rintro _ ⟨n,rfl,hn⟩;exact⟨hn,rfl⟩
def FV(l:List ByteArray)(i:Nat)(h:i<l.length):jc (l.take (i+1))=jc (l.take i)++jU l[i]:=by
 rw[bx,aC h,u6];show _++(jU l[i]++ByteArray.empty)=_;simp
def Bf(l:List ByteArray)(i:Nat):(jc (l.take i)).size<=(jc l).size:=by
 have e:=congrArg ByteArray.size (congrArg jc (cj i l));rw[u6,aJ]at e;omega
theorem L9(d:Dk)(fp:List Nat)(B:Nat)(hok:d.ok B)(l:List ByteArray)(hl:∀x∈l,x.size≤60000)(hB:B+(jc l).size≤1000000000000)(c:Bool):Hf pg 80 2 [.p 1 0,.sl 1 (l.map fun x=>[gs x])] [(0,.ab (dk d fp)),wl 1 0 c] (oC (qi (ox l d).1) c (ox l d).2):=by
 have hll:=AS l;have hclr:=R2 hok;generalize hR:ox l d=R;refine oC.of (by cases R.1<;>rfl) (Hf.of gV func80 rfl ntmps80 rfl results80 call80 fun H0 S0 w0 h0 g0=>(ig (xe d fp B hok fN) id rfl rfl ⟨rfl,trivial⟩ rfl aA ?_));rintro _ _ _ ⟨rfl,⟨fp1,rfl⟩,rfl⟩;have hrem:=vM d fp1 B hok fN;cases hf:jg fN d with
 |none=>
  have hcl:vr d=(none,d):=by unfold vr;rw[hf]
  refine p2 ?_;have hap:=vY d fp1 B hok fN (jc l) az;have hok2:=qJ hok fN (jc l);generalize hA:lM fN (jc l) d=A at hap hok2;obtain⟨e1,d2⟩:=A;have hsy:=fun fp=>Ah d2 fp (B+(jc l).size) hok2 fN;have hok3:=vu hok2 fN;generalize hA2:nJ fN d2=A2 at hsy hok3;obtain⟨e2,d3⟩:=A2;have hmv:=fun fp=>DN d3 fp (B+(jc l).size) hok3 fN nN;refine JK.yZ 2 (e:=5) ax rfl fun fpb=>?_;refine JK.iT (α:=Nat×List Nat) (β:=List Nat) (fun a=>⟨[(0,.p 1 0),(31,.sl 1 (l.map fun x=>[gs x])),(32,gi l.length),(33,gi a.1),(8,.p 2 0)],[(0,.ab (dk d fp1)),wl 1 0 c,(2,.ab (bd (jc (l.take a.1)) a.2))],3⟩) (fun a=>a.1≤l.length) (fun a=>l.length-a.1) (fun f=>⟨[(0,.p 1 0),(8,.p 2 0)],[(0,.ab (dk d fp1)),wl 1 0 c,(2,.ab (bd (jc l) f))],3⟩) (fun _=>True) (0,fpb) id ?_ (aQ _) ?_ ?_
  ·exact⟨⟨rfl,rfl,by simp;rfl,rfl,rfl,trivial⟩,⟨rfl,rfl,rfl,trivial⟩,rfl⟩
  ·rintro⟨i,f⟩ hi;replace hi:i≤l.length:=hi;refine V ?_;by_cases hlt:i<l.length
   ·have hx:=hl l[i] (aR hlt);have hle:=Bf l i;refine p1 (ix (h:=(GO (BG l[i] az) rfl (ig (xi (jc (l.take i)) (jU l[i]) f (by rw[ml];omega)) (fun _=>2) rfl rfl ⟨rfl,trivial⟩ rfl aA ?_))));rintro _ _ _ ⟨rfl,⟨f',rfl⟩,rfl⟩;exact⟨(i+1,f'),id,⟨⟨rfl,rfl,rfl,h_ az,rfl,trivial⟩,⟨rfl,rfl,(congrArg (fun x=>some (hY.ab (bd x f'))) (FV l i hlt).symm),trivial⟩,rfl⟩,hlt,m8⟩
   ·refine p2 ?_;obtain rfl:i=l.length:=az
    refine⟨f,id,⟨⟨rfl,rfl,trivial⟩,⟨rfl,rfl,?_,trivial⟩,rfl⟩,trivial⟩;rw[show jc (l.take (l.length,f).1)=jc l by rw[aT]];rfl
  ·rintro f _;refine V (iU [0,2] false (tk [0,1,2,3]) au (ka 4 false [] (Eg (jc l) f) (fun _=>2) rfl rfl rfl ⟨rfl,trivial⟩ rfl aA au ?_));rintro _ _ _ ⟨rfl,rfl,rfl⟩;refine ka 5 true (tk [6]) hap id rfl rfl rfl ⟨rfl,trivial⟩ rfl aA au ?_;rintro _ _ _ ⟨rfl,⟨fp2,rfl⟩,rfl⟩;cases e1 with
   |some m=>
    refine V ?_;obtain rfl:R=(some m,d2):=hR.symm.trans (JS hcl hA);exact p1 ⟨rfl,⟨fp2,rfl⟩,rfl,rfl⟩
   |none=>
    refine V (p2 (ig (hsy fp2) id rfl rfl ⟨rfl,trivial⟩ rfl aA ?_));rintro _ _ _ ⟨rfl,⟨fp3,rfl⟩,rfl⟩;cases e2 with
    |some m=>
     obtain rfl:R=(some m,d3):=hR.symm.trans (J0 hcl hA hA2);exact p1 ⟨rfl,⟨fp3,rfl⟩,rfl,rfl⟩
    |none=>
     obtain rfl:R=rl fN nN d3:=hR.symm.trans (IG hcl hA hA2);refine p2 (ig (hmv fp3) id rfl rfl ⟨rfl,trivial⟩ rfl aA ?_);rintro _ _ _ ⟨rfl,⟨fp4,rfl⟩,rfl⟩;generalize rl fN nN d3=A3 at*;obtain⟨e3,d4⟩:=A3;cases e3<;>exact⟨rfl,⟨fp4,rfl⟩,rfl,rfl⟩
 |some x=>
  have hcl0:vr d=lQ fN d:=by unfold vr;rw[hf]
  rw[hcl0]at hclr;generalize hA0:lQ fN d=A0 at hrem hclr;obtain⟨e0,d1⟩:=A0;have hcl:=hcl0.trans hA0;refine p1 (ig hrem id rfl rfl ⟨rfl,trivial⟩ rfl aA ?_);rintro _ _ _ ⟨rfl,⟨fp1,rfl⟩,rfl⟩;cases e0 with
  |some m=>
   obtain rfl:R=(some m,d1):=hR.symm.trans (RT hcl);exact p1 ⟨rfl,⟨fp1,rfl⟩,rfl,rfl⟩
  |none=>
   refine p2 ?_;have hap:=vY d1 fp1 B hclr fN (jc l) az;have hok2:=qJ hclr fN (jc l);generalize hA:lM fN (jc l) d1=A at hap hok2;obtain⟨e1,d2⟩:=A;have hsy:=fun fp=>Ah d2 fp (B+(jc l).size) hok2 fN;have hok3:=vu hok2 fN;generalize hA2:nJ fN d2=A2 at hsy hok3;obtain⟨e2,d3⟩:=A2;have hmv:=fun fp=>DN d3 fp (B+(jc l).size) hok3 fN nN;refine JK.yZ 2 (e:=5) ax rfl fun fpb=>?_;refine JK.iT (α:=Nat×List Nat) (β:=List Nat) (fun a=>⟨[(0,.p 1 0),(31,.sl 1 (l.map fun x=>[gs x])),(32,gi l.length),(33,gi a.1),(8,.p 2 0)],[(0,.ab (dk d1 fp1)),wl 1 0 c,(2,.ab (bd (jc (l.take a.1)) a.2))],3⟩) (fun a=>a.1≤l.length) (fun a=>l.length-a.1) (fun f=>⟨[(0,.p 1 0),(8,.p 2 0)],[(0,.ab (dk d1 fp1)),wl 1 0 c,(2,.ab (bd (jc l) f))],3⟩) (fun _=>True) (0,fpb) id ?_ (aQ _) ?_ ?_
   ·exact⟨⟨rfl,rfl,by simp;rfl,rfl,rfl,trivial⟩,⟨rfl,rfl,rfl,trivial⟩,rfl⟩
   ·rintro⟨i,f⟩ hi;replace hi:i≤l.length:=hi;refine V ?_;by_cases hlt:i<l.length
    ·have hx:=hl l[i] (aR hlt);have hle:=Bf l i;refine p1 (ix (h:=(GO (BG l[i] az) rfl (ig (xi (jc (l.take i)) (jU l[i]) f (by rw[ml];omega)) (fun _=>2) rfl rfl ⟨rfl,trivial⟩ rfl aA ?_))));rintro _ _ _ ⟨rfl,⟨f',rfl⟩,rfl⟩;exact⟨(i+1,f'),id,⟨⟨rfl,rfl,rfl,h_ az,rfl,trivial⟩,⟨rfl,rfl,(congrArg (fun x=>some (hY.ab (bd x f'))) (FV l i hlt).symm),trivial⟩,rfl⟩,hlt,m8⟩
    ·refine p2 ?_;obtain rfl:i=l.length:=az
     refine⟨f,id,⟨⟨rfl,rfl,trivial⟩,⟨rfl,rfl,?_,trivial⟩,rfl⟩,trivial⟩;rw[show jc (l.take (l.length,f).1)=jc l by rw[aT]];rfl
   ·rintro f _;refine V (iU [0,2] false (tk [0,1,2,3]) au (ka 4 false [] (Eg (jc l) f) (fun _=>2) rfl rfl rfl ⟨rfl,trivial⟩ rfl aA au ?_));rintro _ _ _ ⟨rfl,rfl,rfl⟩;refine ka 5 true (tk [6]) hap id rfl rfl rfl ⟨rfl,trivial⟩ rfl aA au ?_;rintro _ _ _ ⟨rfl,⟨fp2,rfl⟩,rfl⟩;cases e1 with
    |some m=>
     refine V ?_;obtain rfl:R=(some m,d2):=hR.symm.trans (JS hcl hA);exact p1 ⟨rfl,⟨fp2,rfl⟩,rfl,rfl⟩
    |none=>
     refine V (p2 (ig (hsy fp2) id rfl rfl ⟨rfl,trivial⟩ rfl aA ?_));rintro _ _ _ ⟨rfl,⟨fp3,rfl⟩,rfl⟩;cases e2 with
     |some m=>
      obtain rfl:R=(some m,d3):=hR.symm.trans (J0 hcl hA hA2);exact p1 ⟨rfl,⟨fp3,rfl⟩,rfl,rfl⟩
     |none=>
      obtain rfl:R=rl fN nN d3:=hR.symm.trans (IG hcl hA hA2);refine p2 (ig (hmv fp3) id rfl rfl ⟨rfl,trivial⟩ rfl aA ?_);rintro _ _ _ ⟨rfl,⟨fp4,rfl⟩,rfl⟩;generalize rl fN nN d3=A3 at*;obtain⟨e3,d4⟩:=A3;cases e3<;>exact⟨rfl,⟨fp4,rfl⟩,rfl,rfl⟩
def Fq(d:Dk)(fp:List Nat)(B:Nat)(hok:d.ok B)(l:List ByteArray)(hlen:l.length<=1000000)(hB:B+(jc l).size<=1000000000000)(down:Bool):Hf pg 97 2 [.p 1 0,.sl 1 (l.map λx=>[gs x])] [(0,.ab (dk d fp)),wl 1 0 down] (oC (qi (pY l down d).1) (pY l down d).2.1 (pY l down d).2.2):=by
 unfold pY;rcases tf (yk l) with hlong|hlong
 ·rw[if_pos hlong];exact oC.of rfl (Hf.of gV func97 rfl ntmps97 rfl results97 call97 λH0 S0 w0 h0 g0=>(GO ((wN l az).bt (d:=true) hlong) rfl ⟨rfl,⟨fp,rfl⟩,rfl,rfl⟩))
 rw[if_neg (by rw[hlong];decide)];cases down with
 |true=>
  rw[if_pos rfl];exact oC.of rfl (Hf.of gV func97 rfl ntmps97 rfl results97 call97 λH0 S0 w0 h0 g0=>(GO ((wN l az).bt (d:=false) hlong) rfl (p1 ⟨rfl,⟨fp,rfl⟩,rfl,rfl⟩)))
 |false=>
  rw[if_neg ax];have hl:∀x∈l,x.size<=60000:=λx hx=>by
   have:=dL.1 hlong x hx;simp only[decide_eq_true_eq]at this;omega
  have jh:=L9 d fp B hok l hl hB false;generalize ox l d=A at*;obtain⟨e1,d1⟩:=A;refine oC.of (by cases e1<;>rfl) (Hf.of gV func97 rfl ntmps97 rfl results97 call97 λH0 S0 w0 h0 g0=>(GO ((wN l az).bt (d:=false) hlong) rfl (p2 (ig jh id rfl rfl A0z rfl aA ?_))));rintro _ _ _ ⟨rfl,⟨fp1,rfl⟩,rfl⟩;cases e1 with
  |none=>exact⟨rfl,⟨fp1,rfl⟩,rfl,rfl⟩
  |some m=>exact⟨rfl,⟨fp1,rfl⟩,rfl,rfl⟩
def FD(l:List ByteArray)(d:Dk):GV->Heap->Nat->Prop:=λg σ n=>g=.tup [.p 1 0,.sl 1 (l.map λx=>[gs x]),.v .nilIface]/\(∃fp,σ=[(0,.ab (dk d fp)),wl 1 0 false])/\n=2
def FD.of{f:FuncId}{args:List GV}{σ:Heap}{l:List ByteArray}{d:Dk}(h:Hf pg f 1 args σ λg' σ' n'=>∃k,(Nat.blt 0 k=true)/\g'=.tup [.p k 0,.sl 1 (l.map λx=>[gs x]),.v .nilIface]/\(∃fp,gW σ' 0=some (.ab (dk d fp)))/\gW σ' k=some (.hZ 152 [.p 0 0,.b false])):Hf pg f 1 args σ (FD l d):=by
 refine h.jK λg' σ' _ ⟨k,hk,hg,⟨fp,h1⟩,h2⟩=>⟨λi=>bif Nat.beq i 0 then 0 else k,.tup [.p 1 0,.sl 1 (l.map λx=>[gs x]),.v .nilIface],_,2,⟨rfl,⟨fp,rfl⟩,rfl⟩,hg,⟨h1,h2,trivial⟩,?_⟩;have hne:Nat.beq 0 k=false:=by
  cases h:Nat.beq 0 k with
  |false=>rfl
  |true=>rw[<-beq_eq h]at hk;cases hk
 have h2:Nat.beq 0 (bif Nat.beq 1 0 then 0 else k)=false:=hne;simp[iy,im,iL,jm,iu,iv,je,jf,h2]
def Rw(d:Dk)(fp:List Nat)(B:Nat)(hok:d.ok B)(l:List ByteArray)(p:ByteArray)(hc:cont d=jc l++p)(hp:NV p)(hl:∀x∈l,x.size<=60000)(hB:B+(jc l).size<=1000000000000)(hBc:(jc l++p).size<=B)(hgo:p.size≠0->(ox l d).1=none):Hf pg 30 1 [.p 0 0] [(0,.ab (dk d fp))] (FD l (AQ l p d)):=by
 have hsz:(jc l++p).size=(jc l).size+p.size:=aJ;have hn:=PS l p (λx hx=>by have:=hl x hx;omega) hp az;rw[<-hc]at hn;have jh:=λfp=>L9 d fp B hok l hl hB false;refine FD.of ⟨call30,Ct.j7 gV func30 rfl ntmps30 rfl results30 λH0 S0 w0 h0 g0=>(V (p2 (JK.ri 1 [.p 0 0,.b false] rfl A0z ?_)))⟩;cases hf:jg nN d with
 |none=>
  have hcd:PL.cont d=⟨#[]⟩:=by unfold PL.cont;rw[hf];rfl
  have hz:(jc l).size+p.size=0:=by rw[<-hsz,<-hc,hcd];rfl
  rw[hcd]at hn;refine ig (xe d fp B hok nN) id rfl rfl ⟨rfl,trivial⟩ rfl aA ?_;rw[hf];rintro _ _ _ ⟨rfl,⟨fp1,rfl⟩,rfl⟩;refine GO hn rfl ?_;by_cases hp0:p.size=0
  ·have ho:AQ l p d=d:=if_pos hp0;rw[ho];exact p2 ⟨1,rfl,rfl,⟨fp1,rfl⟩,rfl⟩ (decide_eq_false (by show¬((jc l).size:Int)<((0:Nat):Int);omega))
  have ho:AQ l p d=(ox l d).2:=if_neg hp0;have he:=hgo hp0;rw[ho];generalize ox l d=A at*;obtain⟨e1,d1⟩:=A;obtain rfl:e1=none:=he;refine p1 (ig (jh fp1) id rfl rfl A0z rfl aA ?_) (absurd hz az);rintro _ _ _ ⟨rfl,⟨fp2,rfl⟩,rfl⟩;exact p2 ⟨1,rfl,rfl,⟨fp2,rfl⟩,rfl⟩
 |some x=>
  have hcd:PL.cont d=x.1:=by unfold PL.cont;rw[hf]
  have hz:(jc l).size+p.size=x.1.size:=by rw[<-hsz,<-hc,hcd]
  rw[hcd]at hn;refine ig (xe d fp B hok nN) id rfl rfl ⟨rfl,trivial⟩ rfl aA ?_;rw[hf];rintro _ _ _ ⟨rfl,⟨fp1,rfl⟩,rfl⟩;refine GO hn rfl ?_;by_cases hp0:p.size=0
  ·have ho:AQ l p d=d:=if_pos hp0;rw[ho];exact p2 ⟨1,rfl,rfl,⟨fp1,rfl⟩,rfl⟩ ai
  have ho:AQ l p d=(ox l d).2:=if_neg hp0;have he:=hgo hp0;rw[ho];generalize ox l d=A at*;obtain⟨e1,d1⟩:=A;obtain rfl:e1=none:=he;refine p1 (ig (jh fp1) id rfl rfl A0z rfl aA ?_) aj;rintro _ _ _ ⟨rfl,⟨fp2,rfl⟩,rfl⟩;exact p2 ⟨1,rfl,rfl,⟨fp2,rfl⟩,rfl⟩
end Go.Proofs.YtadildidlcbbkaaGreatDoor
namespace Go.Proofs
open Go.Shelf
def Tryz.Be:Go.Shelf.Ren:=⟨fun|156=>165|165=>223|166=>141|169=>142|240=>193|241=>272|276=>251|277=>314|n=>n,fun|31=>79|9=>9|3=>3|4=>4|0=>0|20=>20|72=>222|76=>93|70=>220|37=>182|75=>36|127=>271|164=>321|5=>5|80=>173|n=>n,fun|n=>n⟩
def Tryz.Je:Go.Proofs.Lays.n156 Tryz.prog Tryz.Be:={
 mixed:=au
 f156:=Tryz.func165.trans ah
 f165:=Tryz.func223.trans ah
 f166:=Tryz.func141.trans ah
 f169:=Tryz.func142.trans ah
 f240:=Tryz.func193.trans ah
 f241:=Tryz.func272.trans ah
 f276:=Tryz.func251.trans ah
 f277:=Tryz.func314.trans ah
 t0:=Tryz.underlying0
 a0:=Tryz.isAgg0
 z0:=Tryz.sizeOf0
 v0:=Tryz.zeroValue0
 t3:=Tryz.underlying3
 a3:=Tryz.isAgg3
 z3:=Tryz.sizeOf3
 v3:=Tryz.zeroValue3
 t4:=Tryz.underlying4
 a4:=Tryz.isAgg4
 z4:=Tryz.sizeOf4
 v4:=Tryz.zeroValue4
 t9:=Tryz.underlying9
 a9:=Tryz.isAgg9
 z9:=Tryz.sizeOf9
 v9:=Tryz.zeroValue9
 t20:=Tryz.underlying20
 a20:=Tryz.isAgg20
 z20:=Tryz.sizeOf20
 v20:=Tryz.zeroValue20
 t31:=Tryz.underlying79
 a31:=Tryz.isAgg79
 z31:=Tryz.sizeOf79
 v31:=Tryz.zeroValue79
 t37:=Tryz.underlying182
 a37:=Tryz.isAgg182
 z37:=Tryz.sizeOf182
 v37:=Tryz.zeroValue182
 t70:=Tryz.underlying220
 a70:=Tryz.isAgg220
 z70:=Tryz.sizeOf220
 v70:=Tryz.zeroValue220
 t72:=Tryz.underlying222
 a72:=Tryz.isAgg222
 z72:=Tryz.sizeOf222
 v72:=Tryz.zeroValue222
 t75:=Tryz.underlying36
 a75:=Tryz.isAgg36
 z75:=Tryz.sizeOf36
 v75:=Tryz.zeroValue36
 t76:=Tryz.underlying93
 a76:=Tryz.isAgg93
 z76:=Tryz.sizeOf93
 v76:=Tryz.zeroValue93
 t127:=Tryz.underlying271
 a127:=Tryz.isAgg271
 z127:=Tryz.sizeOf271
 v127:=Tryz.zeroValue271
 t164:=Tryz.underlying321
 a164:=Tryz.isAgg321
 z164:=Tryz.sizeOf321
 v164:=Tryz.zeroValue321}
def Tryz.uf:Builder.Extra Tryz.prog Tryz.Be:={
 sizeBuilder:=au
 liesBuilder:=au
 t5:=Tryz.underlying5
 a5:=Tryz.isAgg5
 z5:=Tryz.sizeOf5
 v5:=Tryz.zeroValue5
 infoByte:=au
 cellsByte:=au
 sizeByte:=au
 neB5:=by decide}
open Go.RowKit in
def Tryz.strings_Join_none(a:Option Addr)(c:Nat)(sep:ByteArray)(w:World):
  Calls Tryz.prog 165 #[.slice a 0 c,.string sep] w λe w'=>e=.returned (.string ⟨#[]⟩)/\w'=w:=Any.strings_Join_none Tryz.Je Tryz.uf a c sep w
open Go.RowKit in
def Tryz.strings_Join(bk o c:Nat)(xs:List ByteArray)(sep:ByteArray)(w:World)(hcells:∀(j:Nat) x,xs[j]? =some x->w.cell? ⟨bk,o+j,none⟩=some (.string x))(hbk:bk<w.heap.size)(hN:xs.length<=140737488355328)(hcap:xs.length<=c)(hlen:(Lib.join (xs.map (·.data.toList)) sep.data.toList).length<=140737488355328):
  Calls Tryz.prog 165 #[.slice (some ⟨bk,o,none⟩) xs.length c,.string sep] w λe w'=>e=.returned (.string ⟨(Lib.join (xs.map (·.data.toList)) sep.data.toList).toArray⟩)/\Below w.heap.size w w':=Any.strings_Join Tryz.Je Tryz.uf bk o c xs sep w hcells hbk hN hcap hlen
def Tryz.H4:Go.Shelf.Ren:=⟨fun|161=>265|231=>216|227=>218|233=>219|235=>221|228=>268|197=>269|151=>270|260=>311|152=>312|137=>163|119=>352|224=>353|225=>354|217=>215|266=>267|n=>n,fun|9=>9|4=>4|3=>3|5=>5|117=>291|116=>290|0=>0|124=>294|105=>335|21=>21|119=>416|46=>219|139=>419|138=>418|n=>n,fun|3=>9|4=>10|n=>n⟩
def Tryz.RD:Go.Proofs.Lays.n161 Tryz.prog Tryz.H4:={
 mixed:=au
 f119:=Tryz.func352.trans ah
 f137:=Tryz.func163.trans ah
 f151:=Tryz.func270.trans ah
 f152:=Tryz.func312.trans ah
 f161:=Tryz.func265.trans ah
 f197:=Tryz.func269.trans ah
 f217:=Tryz.func215.trans ah
 f224:=Tryz.func353.trans ah
 f225:=Tryz.func354.trans ah
 f227:=Tryz.func218.trans ah
 f228:=Tryz.func268.trans ah
 f231:=Tryz.func216.trans ah
 f233:=Tryz.func219.trans ah
 f235:=Tryz.func221.trans ah
 f260:=Tryz.func311.trans ah
 f266:=Tryz.func267.trans ah
 t0:=Tryz.underlying0
 a0:=Tryz.isAgg0
 z0:=Tryz.sizeOf0
 v0:=Tryz.zeroValue0
 t3:=Tryz.underlying3
 a3:=Tryz.isAgg3
 z3:=Tryz.sizeOf3
 v3:=Tryz.zeroValue3
 t4:=Tryz.underlying4
 a4:=Tryz.isAgg4
 z4:=Tryz.sizeOf4
 v4:=Tryz.zeroValue4
 t5:=Tryz.underlying5
 a5:=Tryz.isAgg5
 z5:=Tryz.sizeOf5
 v5:=Tryz.zeroValue5
 t9:=Tryz.underlying9
 a9:=Tryz.isAgg9
 z9:=Tryz.sizeOf9
 v9:=Tryz.zeroValue9
 t21:=Tryz.underlying21
 a21:=Tryz.isAgg21
 z21:=Tryz.sizeOf21
 v21:=Tryz.zeroValue21
 t46:=Tryz.underlying219
 a46:=Tryz.isAgg219
 z46:=Tryz.sizeOf219
 v46:=Tryz.zeroValue219
 t105:=Tryz.underlying335
 a105:=Tryz.isAgg335
 z105:=Tryz.sizeOf335
 v105:=Tryz.zeroValue335
 t116:=Tryz.underlying290
 a116:=Tryz.isAgg290
 z116:=Tryz.sizeOf290
 t117:=Tryz.underlying291
 a117:=Tryz.isAgg291
 z117:=Tryz.sizeOf291
 v117:=Tryz.zeroValue291
 t119:=Tryz.underlying416
 a119:=Tryz.isAgg416
 z119:=Tryz.sizeOf416
 t124:=Tryz.underlying294
 a124:=Tryz.isAgg294
 z124:=Tryz.sizeOf294
 v124:=Tryz.zeroValue294
 t138:=Tryz.underlying418
 a138:=Tryz.isAgg418
 z138:=Tryz.sizeOf418
 v138:=Tryz.zeroValue418
 t139:=Tryz.underlying419
 a139:=Tryz.isAgg419
 z139:=Tryz.sizeOf419
 v139:=Tryz.zeroValue419
 g3:=au
 g4:=by kernel_rfl}
def Tryz.IC:Go.Shelf.Ren:=⟨fun|160=>164|232=>217|231=>216|227=>218|234=>220|233=>219|236=>222|235=>221|228=>268|271=>271|151=>270|197=>269|120=>313|152=>312|260=>311|137=>163|119=>352|224=>353|225=>354|217=>215|266=>267|n=>n,fun|9=>9|4=>4|3=>3|5=>5|117=>291|116=>290|0=>0|124=>294|21=>21|105=>335|46=>219|119=>416|139=>419|138=>418|n=>n,fun|3=>9|4=>10|n=>n⟩
def Tryz.Rf:Go.Proofs.Lays.n160 Tryz.prog Tryz.IC:={
 mixed:=au
 f119:=Tryz.func352.trans ah
 f120:=Tryz.func313.trans ah
 f137:=Tryz.func163.trans ah
 f151:=Tryz.func270.trans ah
 f152:=Tryz.func312.trans ah
 f160:=Tryz.func164.trans ah
 f197:=Tryz.func269.trans ah
 f217:=Tryz.func215.trans ah
 f224:=Tryz.func353.trans ah
 f225:=Tryz.func354.trans ah
 f227:=Tryz.func218.trans ah
 f228:=Tryz.func268.trans ah
 f231:=Tryz.func216.trans ah
 f232:=Tryz.func217.trans ah
 f233:=Tryz.func219.trans ah
 f234:=Tryz.func220.trans ah
 f235:=Tryz.func221.trans ah
 f236:=Tryz.func222.trans ah
 f260:=Tryz.func311.trans ah
 f266:=Tryz.func267.trans ah
 f271:=Tryz.func271.trans ah
 t0:=Tryz.underlying0
 a0:=Tryz.isAgg0
 z0:=Tryz.sizeOf0
 v0:=Tryz.zeroValue0
 t3:=Tryz.underlying3
 a3:=Tryz.isAgg3
 z3:=Tryz.sizeOf3
 v3:=Tryz.zeroValue3
 t4:=Tryz.underlying4
 a4:=Tryz.isAgg4
 z4:=Tryz.sizeOf4
 v4:=Tryz.zeroValue4
 t5:=Tryz.underlying5
 a5:=Tryz.isAgg5
 z5:=Tryz.sizeOf5
 v5:=Tryz.zeroValue5
 t9:=Tryz.underlying9
 a9:=Tryz.isAgg9
 z9:=Tryz.sizeOf9
 v9:=Tryz.zeroValue9
 t21:=Tryz.underlying21
 a21:=Tryz.isAgg21
 z21:=Tryz.sizeOf21
 v21:=Tryz.zeroValue21
 t46:=Tryz.underlying219
 a46:=Tryz.isAgg219
 z46:=Tryz.sizeOf219
 v46:=Tryz.zeroValue219
 t105:=Tryz.underlying335
 a105:=Tryz.isAgg335
 z105:=Tryz.sizeOf335
 v105:=Tryz.zeroValue335
 t116:=Tryz.underlying290
 a116:=Tryz.isAgg290
 z116:=Tryz.sizeOf290
 t117:=Tryz.underlying291
 a117:=Tryz.isAgg291
 z117:=Tryz.sizeOf291
 v117:=Tryz.zeroValue291
 t119:=Tryz.underlying416
 a119:=Tryz.isAgg416
 z119:=Tryz.sizeOf416
 t124:=Tryz.underlying294
 a124:=Tryz.isAgg294
 z124:=Tryz.sizeOf294
 v124:=Tryz.zeroValue294
 t138:=Tryz.underlying418
 a138:=Tryz.isAgg418
 z138:=Tryz.sizeOf418
 v138:=Tryz.zeroValue418
 t139:=Tryz.underlying419
 a139:=Tryz.isAgg419
 z139:=Tryz.sizeOf419
 v139:=Tryz.zeroValue419
 g3:=au
 g4:=by kernel_rfl}
def Tryz.H9:Go.Shelf.Ren:=⟨fun|106=>113|213=>166|265=>224|n=>n,fun|9=>9|3=>3|n=>n,fun|n=>n⟩
def Tryz.RB:Go.Proofs.Lays.n106 Tryz.prog Tryz.H9:={
 mixed:=au
 f106:=Tryz.func113.trans ah
 f213:=Tryz.func166.trans ah
 f265:=Tryz.func224.trans ah
 t3:=Tryz.underlying3
 a3:=Tryz.isAgg3
 z3:=Tryz.sizeOf3
 v3:=Tryz.zeroValue3
 t9:=Tryz.underlying9
 a9:=Tryz.isAgg9
 z9:=Tryz.sizeOf9
 v9:=Tryz.zeroValue9}
open Go.RowKit in
def Tryz.strings_Compare(a b:ByteArray)(w:World):
  Calls Tryz.prog 113 #[.string a,.string b] w λe w'=>e=.returned (.int .i64 (Lib.compareBytes a.data.toList b.data.toList))/\w'=w:=Any.strings_Compare Tryz.RB a b w
def Tryz.H7:Go.Shelf.Ren:=⟨fun|137=>163|217=>215|266=>267|n=>n,fun|9=>9|5=>5|3=>3|n=>n,fun|n=>n⟩
def Tryz.Rv:Go.Proofs.Lays.n137 Tryz.prog Tryz.H7:={
 mixed:=au
 f137:=Tryz.func163.trans ah
 f217:=Tryz.func215.trans ah
 f266:=Tryz.func267.trans ah
 t3:=Tryz.underlying3
 a3:=Tryz.isAgg3
 z3:=Tryz.sizeOf3
 v3:=Tryz.zeroValue3
 t5:=Tryz.underlying5
 a5:=Tryz.isAgg5
 z5:=Tryz.sizeOf5
 v5:=Tryz.zeroValue5
 t9:=Tryz.underlying9
 a9:=Tryz.isAgg9
 z9:=Tryz.sizeOf9
 v9:=Tryz.zeroValue9}
open Go.RowKit in
def Tryz.strings_IndexByte(s:ByteArray)(c:Int)(w:World):
  Calls Tryz.prog 163 #[.string s,.int .u8 c] w λe w'=>e=.returned (.int .i64 (Lib.indexByte s.data.toList c.toNat.toUInt8))/\w'=w:=Any.strings_IndexByte Tryz.Rv s c w
end Go.Proofs
namespace Go.Proofs.YtadildidlcbbkaaGreatDoor
open Go Go.GK Go.PL Go.RowKit IntKind Go.Proofs.Tryz
set_option maxRecDepth 100000
abbrev gb(c:UInt8):GV:=.v (.int .u8 (c.toNat:Int))
def r7(s:ByteArray)(c:UInt8):Rt pg 163 [gs s,gb c] (gi (Lib.indexByte s.data.toList c)):=
 Rt.calls call163 [.string s,.int .u8 c.toNat] _ λw=>(Tryz.strings_IndexByte s c.toNat w).mono λe w' ⟨he,hw⟩=>⟨by rw[he];simp,by rw[hw];exact Below.refl _ _⟩
def Dg(a b:ByteArray):Rt pg 113 [gs a,gs b] (gi (sg a b)):=
 Rt.calls call113 [.string a,.string b] _ λw=>(Tryz.strings_Compare a b w).mono λe w' ⟨he,hw⟩=>⟨by rw[he,PJ];rfl,by rw[hw];exact Below.refl _ _⟩
def Q0(s t:ByteArray)(hs:s.size<=1000000)(ht:t.size<=1000)(ha:t.data.toList.all (λb=>decide (b.toNat<128))=true):Rt pg 164 [gs s,gs t] (gs (bs (Lib.trimS s.data.toList t.data.toList))):=
 Rt.calls call164 [.string s,.string t] _ λw=>(Any.strings_Trim_laid Tryz.Rf au s t w az az (λ_ b hb=>of_decide_eq_true (cW.1 ha b (bp hb)))).mono λe w' ⟨he,hw⟩=>⟨he,hw⟩
def Su(xs:List ByteArray)(sep:ByteArray)(hlen:(Lib.join (xs.map (·.data.toList)) sep.data.toList).length<=140737488355328)(hx:xs.length<=140737488355328):Rt pg 165 [.sl 1 (xs.map λx=>[gs x]),gs sep] (gs (bs (Lib.join (xs.map (·.data.toList)) sep.data.toList))):=by
 have:=Rt.slice (p:=pg) call165 (xs.map .string) [.string sep] (.string (bs (Lib.join (xs.map (·.data.toList)) sep.data.toList))) λA c w hat=>by
  rw[aD];rcases hat.at_ with h|⟨b,o,rfl,hb,hc⟩
  ·have:xs=[]:=eV.1 h;subst this;exact (Tryz.strings_Join_none A c sep w).mono λe w' ⟨he,hw⟩=>⟨by rw[he];rfl,by rw[hw];exact Below.refl _ _⟩
  exact (Tryz.strings_Join b o c xs sep w (λj x hj=>hc j _ (by rw[bg,hj];rfl)) hb hx (by have:=hat.cap;rwa [aD]at this) hlen)
 rw[bR]at this;exact this
def tg(s p:ByteArray):Rt pg 197 [gs s,gs p] (.b (nI s p)):=by
 refine Rt.of gV func197 rfl ntmps197 rfl results197 call197 λH0 S0 w0 h0 g0=>?_;unfold nI;by_cases h:p.size<=s.size
 ·exact p1 ⟨az,az,az,⟨by simp[h];rfl,rfl⟩⟩
 exact p2 ⟨by simp[h];rfl,rfl⟩
def oe(s p:ByteArray):Rt pg 169 [gs s,gs p] (.b (nI s p)):=by
 refine Rt.of gV func169 rfl ntmps169 rfl results169 call169 λH0 S0 w0 h0 g0=>?_;exact GO (tg s p) rfl ⟨rfl,rfl⟩
def HH(x:Int):Rt pg 167 [gi x] (.v (.bool false)):=by
 refine Rt.of gV func167 rfl ntmps167 rfl results167 call167 λH0 S0 w0 h0 g0=>?_;exact⟨by simp;rfl,rfl⟩
def DI(x y:Int):Int:=if x<y then-1 else if y<x then 1 else 0
def Nf(x y:Int):Rt pg 114 [gi x,gi y] (gi (DI x y)):=by
 refine Rt.of gV func114 rfl ntmps114 rfl results114 call114 λH0 S0 w0 h0 g0=>?_;refine GO (HH x) rfl (GO (HH y) rfl ?_);unfold DI;by_cases h1:x<y
 ·exact p1 ⟨by simp[h1];rfl,rfl⟩
 refine p2 ?_;by_cases h2:y<x
 ·exact p1 ⟨by simp[h1,h2];rfl,rfl⟩
 exact p2 ⟨by simp[h1,h2];rfl,rfl⟩
abbrev lb(x:Lb):List GV:=[gs x.name,gs x.value]
abbrev mt(x:Mt):List GV:=[gs x.name,gi x.op,gs x.value]
def E8(s:ByteArray):mZ s ⟨#[]⟩=decide (s.size=0):=by
 rw[cp,l_,decide_eq_true_iff];exact⟨λe=>by rw[e];rfl,λh=>zL (bU (by rw[size_data];exact h))⟩
def xv(s:ByteArray):Rt pg 102 [gs s] (.b (lU s)):=by
 refine Rt.of gV func102 rfl ntmps102 rfl results102 call102 λH0 S0 w0 h0 g0=>?_;have he:=E8 s;by_cases h0:s.size=0
 ·rw[decide_eq_true h0]at he;rw[G1 az];exact p2 ⟨rfl,rfl⟩ (show (!mZ s ⟨#[]⟩)=false by rw[he];rfl)
 rw[decide_eq_false h0]at he;refine p1 ?_ (show (!mZ s ⟨#[]⟩)=true by rw[he];rfl);by_cases h1:s.size<=24
 ·refine p1 ?_;rw[Mf s az h1];refine sx (i:=0) (h:=(GO (r7 ⟨sy.toArray⟩ s[0]) rfl ?_));have e:decide (0<=Lib.indexByte sy s[0])=lH s[0]:=HW _;cases hl:lH s[0] with
  |false=>
   rw[hl]at e;exact p2 ⟨rfl,rfl⟩ e
  |true=>
   rw[hl]at e;refine p1 (GO (Q0 s ⟨(sy++tZ).toArray⟩ az ax ax) rfl ⟨?_,rfl⟩) e;show mZ _ ⟨#[]⟩=_;rw[cY,cp,l_,decide_eq_true_iff];refine⟨λh=>?_,λh=>?_⟩
   ·have:=congrArg (λb:ByteArray=>b.data.toList) h;simpa only[Sa]using this
   exact congrArg bs h
 rw[G1 az];exact p2 ⟨rfl,rfl⟩
def Oh(s:ByteArray):Rt pg 266 [gs s] (.b (lU s)):=by
 refine Rt.of gV func266 rfl ntmps266 rfl results266 call266 λH0 S0 w0 h0 g0=>?_;exact GO (xv s) rfl ⟨rfl,rfl⟩
def LO{s:ByteArray}{i:Nat}(h:i<s.size):zM s i=(decide (s[i].toNat<32)||(decide (126<s[i].toNat)||(decide (s[i].toNat=34)||decide (s[i].toNat=92)))):=by
 unfold zM;rw[getElem?_pos s i h]
def Hi(s:ByteArray)(hs:s.size<4611686018427387904):Rt pg 103 [gs s] (.b (ma s)):=by
 refine Rt.of gV func103 rfl ntmps103 rfl results103 call103 λH0 S0 w0 h0 g0=>?_;refine JK.loop (α:=Nat) (λi=>⟨[(0,gs s),(5,gi s.size),(6,gi i)],[],0⟩) (λi=>i<=s.size/\∀j,j<i->zM s j=false) (λi=>s.size-i) 0 id ?_ ⟨aQ _,λj hj=>absurd hj az⟩ ?_
 ·exact A0z
 rintro i ⟨hi,hgood⟩;refine V ?_;by_cases hlt:i<s.size
 ·have hv:=LO hlt;have hbad:zM s i=true->ma s=false:=λh=>by unfold ma;rw[oa hlt h];rfl
  have hnext:zM s i=false->∀j,j<i+1->zM s j=false:=λh j hj=>by
   rcases bX.1 hj with h1|h1
   ·exact hgood j h1
   subst h1;exact h
  by_cases h1:s[i].toNat<32<;>by_cases h2:126<s[i].toNat<;>by_cases h3:s[i].toNat=34<;>by_cases h4:s[i].toNat=92<;>
   simp only[h1,h2,h3,h4,decide_true,decide_false,Bool.true_or,ff,fY]at hv<;>
   (repeat (first|refine p1 ?_|refine p2 ?_|refine p3 ?_|refine p4 ?_|refine sx (h:=?_))) <;>
   first|exact⟨(hbad hv).symm,rfl⟩|exact⟨i+1,id,⟨⟨rfl,rfl,h_ az,trivial⟩,trivial,rfl⟩,⟨hlt,hnext hv⟩,m8⟩
 refine p2 (V ?_);obtain rfl:i=s.size:=az
 refine⟨?_,rfl⟩;unfold ma;rw[nZ hgood];show decide _=_;simp only[eD,cY,decide_eq_decide];omega
def Q9{l:List Lb}{i:Nat}(h:i<l.length):vh l i=(!lU l[i].name||(!ma l[i].value||(mZ l[i].value ⟨#[]⟩||(decide (0<i)&& !EB (l[i-1]'az).name l[i].name)))):=by
 unfold vh;have e1:∀j (hj:j<l.length),l.getD j default=l[j]:=λj hj=>by simp[hj]
 rw[e1 i h,e1 (i-1) az]
def Sh(l:List Lb):Prop:=∀x∈l,x.value.size<4611686018427387904
def sV(l:List Lb)(hs:Sh l):Rt pg 137 [.sl 2 (l.map lb)] (.b (iS l)):=by
 refine Rt.of gV func137 rfl ntmps137 rfl results137 call137 λH0 S0 w0 h0 g0=>?_;refine JK.len 0 rfl λhlen _=>?_;have hlen':l.length<=9223372036854775807:=by simpa[maxLen]using hlen
 refine JK.loop (α:=Nat) (λi=>⟨[(0,.sl 2 (l.map lb)),(5,.sl 2 (l.map lb)),(6,gi (l.map lb).length),(7,gi i)],[],0⟩) (λi=>i<=l.length/\∀j,j<i->vh l j=false) (λi=>l.length-i) 0 id ?_ ⟨aQ _,λj hj=>absurd hj az⟩ ?_
 ·exact A0z
 rintro i ⟨hi,hgood⟩;refine V ?_;have hll:(l.map lb).length=l.length:=aA
 by_cases hlt:i<l.length
 ·have hv:=Q9 hlt;have hbad:vh l i=true->iS l=false:=λh=>by unfold iS;rw[oa hlt h];rfl
  have hnext:vh l i=false->∀j,j<i+1->vh l j=false:=λh j hj=>by
   rcases bX.1 hj with h1|h1
   ·exact hgood j h1
   subst h1;exact h
  refine p1 (ix (h:=(iU [] false (tk [0,1]) au ?_)));have hval:=Hi l[i].value (hs l[i] (aR hlt));cases h1:lU l[i].name with
  |false=>
   exact kE 2 false (tk [3,4,5,6]) ((xv l[i].name).bt h1) rfl rfl au (pN 7 true (tk [8,9,10,11,12,13,14,15,16,17,18,19,20,21,22,23,24,25,26,27,28,29]) rfl rfl au (V ⟨(hbad (by rw[hv,h1];rfl)).symm,rfl⟩))
  |true=>
   refine kE 2 false (tk [3,4,5,6]) ((xv l[i].name).bt h1) rfl rfl au ?_;cases h2:ma l[i].value with
   |false=>
    exact kE 7 true (tk [8,9,10,11,12,13,14,15,16,17,18,19,20,21,22,23,24,25,26,27,28,29]) (hval.bt h2) rfl rfl au (V ⟨(hbad (by rw[hv,h1,h2];rfl)).symm,rfl⟩)
   |true=>
    refine kE 7 true (tk [8,9,10,11,12,13,14,15,16,17,18,19,20,21,22,23,24,25,26,27,28,29]) (hval.bt h2) rfl rfl au ?_;rw[h1,h2]at hv;cases h3:mZ l[i].value ⟨#[]⟩ with
    |true=>
     repeat (first|refine p1 ?_|refine p2 ?_|refine p3 ?_|refine p4 ?_|refine V ?_)
     exact⟨(hbad (by rw[hv,h3];rfl)).symm,rfl⟩
    |false=>
     rw[h3]at hv;by_cases h4:0<i
     ·have ew:i64.wrap ((i:Int) -1)=((i-1:Nat):Int):=by rw[ic az az];omega
      cases h5:EB (l[i-1]'az).name l[i].name with
      |false=>
       have h5':(!EB (l[i-1]'az).name l[i].name)=true:=by rw[h5];rfl
       repeat (first|refine p1 ?_|refine p2 ?_|refine p3 ?_|refine p4 ?_|refine V ?_|refine idx (i-1) ew az ?_)
       exact⟨(hbad (by rw[hv,h5,decide_eq_true h4];rfl)).symm,rfl⟩
      |true=>
       have h5':(!EB (l[i-1]'az).name l[i].name)=false:=by rw[h5];rfl
       repeat (first|refine p1 ?_|refine p2 ?_|refine p3 ?_|refine p4 ?_|refine V ?_|refine idx (i-1) ew az ?_)
       exact⟨i+1,id,⟨⟨rfl,rfl,rfl,h_ az,trivial⟩,trivial,rfl⟩,⟨hlt,hnext (by rw[hv,h5,decide_eq_true h4];rfl)⟩,m8⟩
     repeat (first|refine p1 ?_|refine p2 ?_|refine p3 ?_|refine p4 ?_|refine V ?_)
     exact⟨i+1,id,⟨⟨rfl,rfl,rfl,h_ az,trivial⟩,trivial,rfl⟩,⟨hlt,hnext (by rw[hv,decide_eq_false h4];rfl)⟩,m8⟩
 refine p2 (V ?_);obtain rfl:i=l.length:=az
 unfold iS;rw[nZ hgood];by_cases h1:1<=l.length
 ·refine p1 ⟨?_,rfl⟩;show decide _=_;simp only[eD,cY,decide_eq_decide];omega
 refine p2 ⟨?_,rfl⟩;rw[decide_eq_false (by omega:¬(1<=l.length/\l.length<=8))];rfl
def S7(l:List Lb)(n:ByteArray):Rt pg 168 [.sl 2 (l.map lb),gs n] (gs (kT l n)):=by
 refine Rt.of gV func168 rfl ntmps168 rfl results168 call168 λH0 S0 w0 h0 g0=>?_;refine JK.len 0 rfl λhlen _=>?_;have hlen':l.length<=9223372036854775807:=by simpa[maxLen]using hlen
 refine JK.loop (α:=Nat) (λi=>⟨[(1,gs n),(7,.sl 2 (l.map lb)),(8,gi (l.map lb).length),(9,gi i)],[],0⟩) (λi=>i<=l.length/\kT (l.drop i) n=kT l n) (λi=>l.length-i) 0 id ?_ ⟨aQ _,rfl⟩ ?_
 ·exact A0z
 rintro i ⟨hi,hgood⟩;refine V ?_;have hll:(l.map lb).length=l.length:=aA
 by_cases hlt:i<l.length
 ·rw[cn hlt]at hgood;refine p1 (ix (h:=?_));cases h1:mZ l[i].name n with
  |true=>
   exact p1 ⟨by rw[<-hgood,kT,if_pos h1];rfl,rfl⟩ h1
  |false=>
   exact p2 ⟨i+1,id,⟨⟨rfl,rfl,rfl,h_ az,trivial⟩,trivial,rfl⟩,⟨hlt,by rw[<-hgood,kT,if_neg (by rw[h1];decide)]⟩,m8⟩ h1
 refine p2 (V ?_);obtain rfl:i=l.length:=az
 rw[dF]at hgood;exact⟨by rw[<-hgood];rfl,rfl⟩
def Uj(a b:Int):Rt pg 112 [.sl 1 [[gi a],[gi b]]] (gi (if a=0 then b else a)):=by
 refine Rt.of gV func112 rfl ntmps112 rfl results112 call112 λH0 S0 w0 h0 g0=>?_;refine JK.loop (α:=Nat) (λi=>⟨[(3,gi 0),(6,.sl 1 [[gi a],[gi b]]),(7,gi 2),(8,gi i)],[],0⟩) (λi=>i<=2/\(0<i->a=0)/\(1<i->b=0)) (λi=>2-i) 0 id ?_ ⟨az,az,az⟩ ?_
 ·exact A0z
 rintro i ⟨hi,h1,h2⟩
 match i,hi,h1,h2 with
 |0,_,_,_=>
  refine V (p1 ⟨[gi a],ax,rfl,?_⟩);by_cases h:a=0
  ·exact p2 ⟨1,id,A0z,⟨az,λ_=>h,az⟩,by show 2-1<2;omega⟩
  exact p1 ⟨by rw[if_neg h];rfl,rfl⟩
 |1,_,h1,_=>
  refine V (p1 ?_);have ha:=h1 az;refine⟨[gi b],ax,rfl,?_⟩;by_cases h:b=0
  ·exact p2 ⟨2,id,A0z,⟨az,λ_=>ha,λ_=>h⟩,by show 2-2<2-1;omega⟩
  exact p1 ⟨by rw[if_pos ha];rfl,rfl⟩
 |2,_,h1,h2=>
  exact V (p2 (V ⟨by rw[if_pos (h1 az),h2 az];rfl,rfl⟩))
def FY{α:Type}(f:α->α->Int)(hf:∀a b,f a b=0↔a=b):∀(a b:List α),(∀i,i<min a.length b.length->a[i]? =b[i]?)->mK f a b=DI a.length b.length
 | [],[],_=>rfl
 | [],_::_,_=>by simp[mK,DI]
 |_::_,[],_=>by simp[mK,DI];omega
 |x::a,y::b,h=>by
  have h0:=h 0 aA;simp at h0;have ih:=FY f hf a b (λi hi=>by have:=h (i+1) (by simp at hi|-;omega);simpa using this);simp only[mK,(hf x y).2 h0,if_true,ih,DI,aB]
  repeat' split<;>omega
def JG{α:Type}(f:α->α->Int)(hf:∀a b,f a b=0↔a=b):∀(a b:List α) (i:Nat) (x y:α),(∀j,j<i->a[j]? =b[j]?)->a[i]? =some x->b[i]? =some y->f x y≠0->mK f a b=f x y
 | [],b,i,x,y,_,hx,_,_=>by simp at hx
 |_::_,[],i,x,y,_,_,hy,_=>by simp at hy
 |u::a,v::b,0,x,y,_,hx,hy,hn=>by
  simp at hx hy;subst hx;subst hy;simp only[mK,if_neg hn]
 |u::a,v::b,i+1,x,y,h,hx,hy,hn=>by
  have h0:=h 0 az;simp at h0;simp only[mK,(hf u v).2 h0,if_true];exact JG f hf a b i x y (λj hj=>by have:=h (j+1) az;simpa using this) (by simpa using hx) (by simpa using hy) hn
def O3(x y:Lb):yB x y=if sg x.name y.name=0 then sg x.value y.value else sg x.name y.name:=rfl
def ra(a b:List Lb):Rt pg 43 [.sl 2 (a.map lb),.sl 2 (b.map lb)] (gi (iZ a b)):=by
 refine Rt.of gV func43 rfl ntmps43 rfl results43 call43 λH0 S0 w0 h0 g0=>?_;refine JK.len 0 rfl λhlen _=>?_;have hlen':a.length<=9223372036854775807:=by simpa[maxLen]using hlen
 have hla:(a.map lb).length=a.length:=by simp
 have hlb:(b.map lb).length=b.length:=by simp
 refine JK.loop (α:=Nat) (λi=>⟨[(0,.sl 2 (a.map lb)),(1,.sl 2 (b.map lb)),(11,gi (min a.length b.length:Nat)),(12,gi i)],[],0⟩) (λi=>i<=min a.length b.length/\∀j,j<i->a[j]? =b[j]?) (λi=>min a.length b.length-i) 0 id ?_ ⟨aQ _,λj hj=>absurd hj az⟩ ?_
 ·refine⟨⟨rfl,rfl,?_,rfl,trivial⟩,trivial,rfl⟩;show some (gi (if ((b.map lb).length:Int)<(a.map lb).length then ((b.map lb).length:Int) else (a.map lb).length))=some (gi (min a.length b.length:Nat))
  congr 2
  split<;>omega
 rintro i ⟨hi,hgood⟩;refine V ?_;by_cases hlt:i<min a.length b.length
 ·have ha:i<a.length:=by omega
  have hb:i<b.length:=by omega
  refine p1 ?_;refine iU [] false (tk [0,1,2,3,4,5,6,7,8,9,11,12,13,14,15,16,17,18,19,20]) au ?_
  repeat refine ix (h:=?_)
  refine kE 10 false [] (Dg a[i].name b[i].name) rfl rfl au ?_;refine kE 21 false (al [22]) (Dg a[i].value b[i].value) rfl rfl au ?_;refine Vc 23 true (tk [24]) (Uj (sg a[i].name b[i].name) (sg a[i].value b[i].value)) rfl rfl A0z au ?_;refine V ?_;have hc:=O3 a[i] b[i];by_cases h:yB a[i] b[i]=0
  ·refine p2 ?_ (by rw[<-hc,h];rfl);exact⟨i+1,id,⟨⟨rfl,rfl,rfl,h_ az,trivial⟩,trivial,rfl⟩,⟨hlt,λj hj=>by
    rcases bX.1 hj with h1|h1
    ·exact hgood j h1
    subst h1;rw[aC ha,aC hb,(xW.eq0 _ _).1 h]⟩,by show min a.length b.length- (i+1)<min a.length b.length-i;omega⟩
  refine p1 ?_ (by rw[<-hc];simpa using h);refine⟨?_,rfl⟩;show gi _=gi _;rw[<-hc,iZ,JG yB xW.eq0 a b i a[i] b[i] hgood (aC ha) (aC hb) h]
 refine p2 ?_;refine V ?_;refine GO (Nf _ _) rfl ?_;refine⟨?_,rfl⟩;show gi _=gi _;rw[hla,hlb,iZ,FY yB xW.eq0 a b (λj hj=>hgood j az)]
structure Hl(l:List Lb):Prop where
 len:l.length<=1000
 name:∀x∈l,x.name.size<=1000
 value:∀x∈l,x.value.size<=1000
def x7(a b:ByteArray):(a++b).size=a.size+b.size:=aJ
abbrev bk(b:Bk):List GV:=[gi b.start,gi b.count,gi b.sum,gi b.min,gi b.max]
abbrev sm(x:Sm):List GV:=[gi x.time,gi x.value]
abbrev om(l:List Lb):GV:=.sl 2 (l.map lb)
abbrev rL(l:List Sm):GV:=.sl 2 (l.map sm)
abbrev se(x:gY):List GV:=[om x.labels,rL x.samples]
abbrev jn(l:List gY):GV:=.sl 2 (l.map se)
def uZ(l:List gY)(x:gY):some (hY.row 105 2 (l.map se++[se x]))=some (hY.row 105 2 ((l++[x]).map se)):=by rw[aP];rfl
def U0{s:Int}(n:Nat)(h:s=(n:Int))(hn:n<4611686018427387904):i64.wrap ((u64.wrap (i64.wrap s)).fdiv (2^ (min (1:Int).toNat IntKind.u64.bits)))=((n/2:Nat):Int):=by
 subst h;have e0:i64.wrap (n:Int)=(n:Int):=ic az az;rw[e0];have e1:u64.wrap (n:Int)=(n:Int):=by rw[IntKind.wrap_u64];omega
 rw[e1];have e2:(n:Int).fdiv (2^ (min (1:Int).toNat IntKind.u64.bits))=((n/2:Nat):Int):=by
  show (n:Int).fdiv 2=_;rw[dJ _ az];omega
 rw[e2,ic az az]
def Ue(x:gY)(ls:List Lb):Rt pg 182 [.agg (se x),om ls] (gi (iZ x.labels ls)):=by
 refine Rt.of gV func182 rfl ntmps182 rfl results182 call182 λH0 S0 w0 h0 g0=>?_;exact GO (ra x.labels ls) rfl ⟨rfl,rfl⟩
theorem Tz(l:List gY)(ls:List Lb)(f:FuncId)(hr:lW l)(hf:∀x∈l,Rt pg f [.agg (se x),om ls] (gi (iZ x.labels ls)))(hl:l.length≤1000000):
  Rt pg 181 [jn l,om ls,.fn (.func f) [] []] (.tup [gi (i_ ls l),.v (.bool (mJ ls l).isSome)]):=by
 refine Rt.of gV func181 rfl ntmps181 rfl results181 call181 fun H0 S0 w0 h0 g0=>?_;have hll:(l.map se).length=l.length:=aA
 have hp:=Aj ls l;refine JK.iT (α:=Nat×Nat) (β:=Unit) (fun z=>⟨[(0,jn l),(1,om ls),(2,.fn (.func f) [] []),(8,gi (l.map se).length),(9,gi z.1),(10,gi z.2)],[],0⟩) (fun z=>z.1≤i_ ls l∧i_ ls l≤z.2∧z.2≤l.length) (fun z=>z.2-z.1)
  (fun _=>⟨[(0,jn l),(1,om ls),(2,.fn (.func f) [] []),(8,gi (l.map se).length),(9,gi (i_ ls l))],[],0⟩) (fun _=>True) (0,l.length) id ?_ ⟨aQ _,hp,aL _⟩ ?_ ?_
 ·exact⟨⟨rfl,rfl,rfl,rfl,rfl,congrArg (fun i:Nat=>some (gi (i:Int))) hll,trivial⟩,trivial,rfl⟩
 ·rintro⟨i,j⟩ ⟨hi,hj,hjl⟩;simp only at hi hj hjl;refine V ?_;by_cases hlt:i<j
  ·refine p1 ?_ (decide_eq_true (m8));have hmid:=U0 (s:=(i:Int)+(j:Int)) (i+j) az az;have hm:(i+j) /2<l.length:=az
   refine⟨az,(idx ((i+j) /2) hmid hm ?_)⟩;have hc:=hf l[(i+j) /2] (aR hm);refine GO hc rfl ?_;by_cases hlo:(i+j) /2<i_ ls l
   ·exact p1 ⟨((i+j) /2+1,j),id,⟨⟨rfl,rfl,rfl,rfl,(congrArg (fun i=>some (gi i)) (by dsimp only;rw[hmid,ic az az];omega)),rfl,trivial⟩,trivial,rfl⟩,⟨m8,hj,hjl⟩,m8⟩ (decide_eq_true (Al ls l _ hm hlo))
   ·exact p2 ⟨(i,(i+j) /2),id,⟨⟨rfl,rfl,rfl,rfl,rfl,(congrArg (fun i=>some (gi i)) hmid),trivial⟩,trivial,rfl⟩,⟨hi,m8,m8⟩,m8⟩ (decide_eq_false (RQ hr _ hm az))
  ·refine p2 ?_ (decide_eq_false (m8));obtain rfl:i=j:=az
   obtain rfl:i=i_ ls l:=az
   exact⟨(),id,⟨⟨rfl,rfl,rfl,rfl,rfl,trivial⟩,trivial,rfl⟩,trivial⟩
 ·rintro _ _;refine V ?_;by_cases hlt:i_ ls l<l.length
  ·refine p1 (ix (h:=?_)) aj;have hc:=hf l[i_ ls l] (aR hlt);refine GO hc rfl ⟨?_,rfl⟩;have:(mJ ls l).isSome=decide (iZ l[i_ ls l].labels ls=0):=by
    unfold mJ;rw[aC hlt];by_cases h0:iZ l[i_ ls l].labels ls=0<;>simp[h0]
   rw[this];exact⟨rfl,show (iZ l[i_ ls l].labels ls==0)=decide (iZ l[i_ ls l].labels ls=0) by rw[cp];simp,trivial⟩
  ·refine p2 ⟨?_,rfl⟩ ai;have:(mJ ls l).isSome=false:=by
    unfold mJ;rw[bI az];rfl
   rw[this];exact⟨rfl,rfl,trivial⟩
def SJ(n:Nat)(hn:n<=1000000):Hf pg 185 0 [.v (.slice none 0 0),gi n] [] (λg σ m=>g=.o 0/\σ=[(0,.row 109 2 [])]/\m=1):=by
 refine Hf.jK (Q:=λg σ _=>∃id:Nat,g=.o id/\gW σ id=some (.row 109 2 [])) (Hf.q9 gV func185 rfl ntmps185 rfl results185 call185 λH0 S0 w0 h0 g0=>?_) ?_
 ·refine VM 17 (p2 (JK.Ck gV rfl rfl rfl rfl rfl ?_) ai);have hw:i64.wrap ((n:Int) -i64.wrap (0- ((0:Nat):Int)))=(n:Int):=by
   rw[ic (x:=0- ((0:Nat):Int)) az az,ic az az];omega
  by_cases h0:n=0
  ·exact VM 14 (p2 (JK.kx 0 109 2 rfl (V ⟨_,rfl,rfl⟩)) (decide_eq_false (by rw[hw];omega)))
  exact VM 15 (p1 (JK.Ck gV rfl rfl rfl rfl rfl (VM 2 ⟨rfl,rfl,(JK.IF (n:=n) (sz:=2) (kn:=.i64) gV rfl rfl rfl rfl au rfl rfl az rfl rfl (by exact congrArg (λi=>some (gi i)) hw) az (m8) az (λzs hz=>(VM 2 (JK.Ov gV rfl rfl rfl rfl rfl rfl rfl rfl rfl rfl az az (V ⟨_,rfl,rfl⟩)))))⟩)) (decide_eq_true (by rw[hw];omega)))
 rintro G σ n ⟨id,rfl,h⟩;exact⟨r1 0 id,.o 0,[(0,.row 109 2 [])],1,A0z,rfl,⟨h,trivial⟩,rfl⟩
def EN{α:Type}(L:List (List α))(i:Nat)(h:i<L.length):(L.take (i+1)).flatten=(L.take i).flatten++L[i]:=by
 rw[a6 h,eW];simp
def vd{α:Type}(L:List (List α))(i:Nat):(L.take i).flatten.length<=L.flatten.length:=by
 conv=>rhs;rw[<-cj i L,eW,aI]
 omega
def w5:Option (List Sm)->GV
 |none=>.v (.slice none 0 0)
 |some s=>rL s
def qb(L:List (Option (List Sm))):List (List Sm):=L.map (·.getD [])
def Rs(L:List (Option (List Sm))):(qb L).length=L.length:=by simp[qb]
theorem EG(L:List (Option (List Sm)))(hl:L.length≤1000)(hs:(qb L).flatten.length≤1000000):
  Hf pg 134 1 [.o 0] [(0,.row 103 1 (L.map fun s=>[w5 s]))] (fun g σ n=>g=rL (qb L).flatten∧σ=[(0,.row 103 1 (L.map fun s=>[w5 s]))]∧n=1):=by
 refine Hf.jK (Q:=fun g σ _=>g=rL (qb L).flatten∧gW σ 0=some (.row 103 1 (L.map fun s=>[w5 s]))) (Hf.of gV func134 rfl ntmps134 rfl results134 call134 fun H0 S0 w0 h0 g0=>?_) ?_
 ·have hll:(L.map fun s=>[w5 s]).length=L.length:=aA
  have hfl:=Rs L;refine JK.iT (α:=Nat) (β:=Unit) (fun i=>⟨[(0,.o 0),(3,gi ((qb L).take i).flatten.length),(9,.o 0),(10,gi (L.map fun s=>[w5 s]).length),(11,gi i)],[(0,.row 103 1 (L.map fun s=>[w5 s]))],1⟩) (fun i=>i≤L.length) (fun i=>L.length-i)
   (fun _=>⟨[(0,.o 0),(3,gi (qb L).flatten.length)],[(0,.row 103 1 (L.map fun s=>[w5 s]))],1⟩) (fun _=>True) 0 id ?_ (aQ _) ?_ ?_
  ·exact⟨⟨rfl,rfl,rfl,rfl,rfl,trivial⟩,⟨rfl,trivial⟩,rfl⟩
  ·rintro i hi;replace hi:i≤L.length:=hi;refine V ?_;by_cases hlt:i<L.length
   ·have hst:=EN (qb L) i az;have hle:=vd (qb L) (i+1);rw[hst,aI]at hle;refine p1 ⟨az,az,⟨[w5 L[i]],by simp[hlt],?_⟩⟩ aj;have hfi:(qb L)[i]'az=(L[i]).getD []:=by simp[qb]
    rw[hfi]at hst hle;cases hLi:L[i] with
    |none=>
     rw[hLi]at hst hle;exact p2 ⟨i+1,id,⟨⟨rfl,(congrArg (fun i=>some (gi i)) (by rw[ic az az,hst,aI];simp)),rfl,rfl,h_ az,trivial⟩,⟨rfl,trivial⟩,rfl⟩,hlt,m8⟩ (decide_eq_false (by rw[ic az az];omega))
    |some s=>
     rw[hLi]at hst hle;have hsl:(s.map sm).length=s.length:=aA
     have hge:((some s).getD []).length=s.length:=rfl;exact p2 ⟨i+1,id,⟨⟨rfl,(congrArg (fun i=>some (gi i)) (by rw[ic az az,hst,aI,hsl,hge];omega)),rfl,rfl,h_ az,trivial⟩,⟨rfl,trivial⟩,rfl⟩,hlt,m8⟩ (decide_eq_false (by rw[ic az az];omega))
   ·refine p2 ?_ ai;obtain rfl:i=L.length:=az
    rw[←hfl,aT];exact⟨(),id,⟨⟨rfl,rfl,trivial⟩,⟨rfl,trivial⟩,rfl⟩,trivial⟩
  ·rintro _ _;refine V (ig (SJ (qb L).flatten.length hs) id rfl rfl trivial rfl (fun _ h=>absurd h (cf _)) ?_);rintro _ _ _ ⟨rfl,rfl,rfl⟩;refine JK.iT (α:=Nat) (β:=Unit) (fun i=>⟨[(0,.o 0),(6,.o 1),(25,.o 0),(26,gi (L.map fun s=>[w5 s]).length),(27,gi i)],[(1,.row 109 2 (((qb L).take i).flatten.map sm)),(0,.row 103 1 (L.map fun s=>[w5 s]))],2⟩) (fun i=>i≤L.length) (fun i=>L.length-i)
    (fun _=>⟨[(6,.o 1)],[(1,.row 109 2 ((qb L).flatten.map sm)),(0,.row 103 1 (L.map fun s=>[w5 s]))],2⟩) (fun _=>True) 0 id ?_ (aQ _) ?_ ?_
   ·exact⟨⟨rfl,rfl,rfl,rfl,rfl,trivial⟩,⟨rfl,rfl,trivial⟩,rfl⟩
   ·rintro i hi;replace hi:i≤L.length:=hi;refine V ?_;by_cases hlt:i<L.length
    ·have hst:=EN (qb L) i az;have hle:=vd (qb L) (i+1);rw[hst,aI]at hle;have hfi:(qb L)[i]'az=(L[i]).getD []:=by simp[qb]
     rw[hfi]at hst hle;refine p1 ⟨az,az,⟨[w5 L[i]],by simp[hlt],?_⟩⟩ aj;cases hLi:L[i] with
     |none=>
      rw[hLi]at hst hle;refine⟨by simp only[aD,aM];omega,⟨i+1,r1 1 2,⟨⟨rfl,rfl,rfl,rfl,h_ az,trivial⟩,⟨(congrArg (fun r=>some (hY.row 109 2 r)) ?_),rfl,trivial⟩,rfl⟩,hlt,m8⟩⟩;rw[hst,aP];rfl
     |some s=>
      rw[hLi]at hst hle;have hge:((some s).getD []).length=s.length:=rfl;refine⟨by simp only[aD];omega,⟨i+1,r1 1 2,⟨⟨rfl,rfl,rfl,rfl,h_ az,trivial⟩,⟨(congrArg (fun r=>some (hY.row 109 2 r)) ?_),rfl,trivial⟩,rfl⟩,hlt,m8⟩⟩;rw[hst,aP];rfl
    ·refine p2 ?_ ai;obtain rfl:i=L.length:=az
     rw[←hfl,aT];exact⟨(),id,⟨⟨rfl,trivial⟩,⟨rfl,rfl,trivial⟩,rfl⟩,trivial⟩
   ·rintro _ _;exact ot 1 rfl ⟨rfl,rfl⟩
 ·rintro g σ n ⟨rfl,h⟩;exact⟨id,_,[(0,.row 103 1 (L.map fun s=>[w5 s]))],1,⟨rfl,rfl,rfl⟩,(mR _).symm,⟨h,trivial⟩,rfl⟩
def Kb(rows:List (List GV))(hl:rows.length<=1000000):Hf pg 130 1 [.o 0] [(0,.row 105 2 rows)] (λg σ n=>g=.o 1/\σ=[(1,.row 105 2 rows),(0,.row 105 2 rows)]/\n=2):=by
 refine Hf.jK (Q:=λg σ m=>∃id:Nat,(id=1\/id=2)/\g=.o id/\gW σ 0=some (.row 105 2 rows)/\gW σ id=some (.row 105 2 rows)) (Hf.q9 gV func130 rfl ntmps130 rfl results130 call130 λH0 S0 w0 h0 g0=>?_) ?_
 ·refine VM 8 (JK.Uc gV rfl rfl rfl rfl rfl rfl (λhn=>?_) ?_)
  ·subst hn;exact VM 6 (JK.kx 2 105 2 rfl (V ⟨1,.inl rfl,rfl,rfl,rfl⟩))
  exact V ⟨by simp only[cN,aM];omega,⟨2,.inr rfl,rfl,rfl,rfl⟩⟩
 rintro g σ m ⟨id,rfl|rfl,rfl,h0,h1⟩
 ·exact⟨r1 1 1,.o 1,[(1,.row 105 2 rows),(0,.row 105 2 rows)],2,A0z,rfl,⟨h1,h0,trivial⟩,rfl⟩
 exact⟨r1 1 2,.o 1,[(1,.row 105 2 rows),(0,.row 105 2 rows)],2,A0z,rfl,⟨h1,h0,trivial⟩,rfl⟩
def Qs(l:List Mt):Prop:=∀x∈l,x.value.size<4611686018427387904
def M9(m:Mt)(hm:m.value.size<4611686018427387904):Rt pg 101 [.agg (mt m)] (.b (xE m)):=by
 refine Rt.of gV func101 rfl ntmps101 rfl results101 call101 λH0 S0 w0 h0 g0=>?_;have hval:=Hi m.value hm;unfold xE;cases h1:lU m.name with
 |false=>
  exact GO ((xv m.name).bt h1) rfl ⟨rfl,rfl⟩
 |true=>
  refine GO ((xv m.name).bt h1) rfl ?_;cases h2:ma m.value with
  |false=>
   exact GO (hval.bt h2) rfl ⟨rfl,rfl⟩
  |true=>
   refine GO (hval.bt h2) rfl ?_;by_cases h3:m.op<0
   ·repeat (first|refine p1 ?_|refine p2 ?_|refine p3 ?_|refine p4 ?_)
    exact⟨by rw[decide_eq_false (by omega:¬(0<=m.op/\m.op<=3))];rfl,rfl⟩
   repeat (first|refine p1 ?_|refine p2 ?_|refine p3 ?_|refine p4 ?_)
   refine⟨?_,rfl⟩;show decide (m.op>3)= !decide (0<=m.op/\m.op<=3);by_cases h4:m.op<=3
   ·rw[decide_eq_true (by omega:0<=m.op/\m.op<=3),decide_eq_false az];rfl
   rw[decide_eq_false (by omega:¬(0<=m.op/\m.op<=3)),decide_eq_true az];rfl
def J_(l:List Mt)(f:FuncId)(caps:List GV)(hcaps:im 0 caps=true)(p:Mt->Bool)(hf:∀x∈l,Rt pg f (.agg (mt x)::caps) (.b (p x)))(n:Nat)(hn:n<=l.length)(h1:∀i (h:i<l.length),i<n->p l[i]=false)(h2:∀h:n<l.length,p l[n]=true)(hl:l.length<4611686018427387904):
  Rt pg 162 [.sl 3 (l.map mt),.fn (.func f) [] caps] (gi (if n<l.length then n else-1)):=by
 refine Rt.of gV func162 rfl ntmps162 rfl results162 call162 λH0 S0 w0 h0 g0=>?_;have hll:(l.map mt).length=l.length:=aA
 refine JK.loop (α:=Nat) (λi=>⟨[(0,.sl 3 (l.map mt)),(1,.fn (.func f) [] caps),(7,gi (l.map mt).length),(8,gi i)],[],0⟩) (λi=>i<=n) (λi=>n-i) 0 id ?_ (aQ _) ?_
 ·exact⟨⟨rfl,by simp only[jW,j4,nE];rfl,rfl,rfl,trivial⟩,trivial,by simp[jt,iy,im,hcaps,iL,iv,iu,jf]⟩
 intro i hi;refine V ?_;by_cases hlt:i<l.length
 ·refine p1 (ix (h:=?_));have hp:=hf l[i] (aR hlt);by_cases hin:i<n
  ·exact GO (hp.bt (h1 i hlt hin)) rfl ⟨i+1,id,⟨⟨rfl,by simp only[jW,j4,nE];rfl,rfl,h_ az,trivial⟩,trivial,by simp[jt,iy,im,hcaps,iL,iv,iu,jf]⟩,hin,m8⟩ (by simp[im,hcaps];rfl)
  have hin':i=n:=az
  subst hin';exact GO (hp.bt (h2 hlt)) rfl ⟨by rw[if_pos hlt];rfl,rfl⟩ (by simp[im,hcaps];rfl)
 exact p2 (V ⟨by rw[if_neg az];rfl,rfl⟩)
def tr{α:Type}(l:List α)(p:α->Bool):∃n,n<=l.length/\(∀i (h:i<l.length),i<n->p l[i]=false)/\(∀h:n<l.length,p l[n]=true)/\l.any p=decide (n<l.length):=by
 induction l with
 |nil=>exact⟨0,aL _,λi h=>absurd h aA,λh=>absurd h aA,aA⟩
 |cons a l ih=>
  cases hp:p a with
  |true=>exact⟨0,aQ _,λi h h'=>absurd h' az,λ_=>hp,by simp[hp]⟩
  |false=>
   obtain⟨n,h1,h2,h3,h4⟩:=ih;refine⟨n+1,by simpa using h1,λi h h'=>?_,λh=>?_,by simp[hp,h4]⟩
   ·cases i with
    |zero=>exact hp
    |succ i=>exact h2 i (by simpa using h) az
   exact h3 (by simpa using h)
def CM(l:List Mt)(f:FuncId)(caps:List GV)(hcaps:im 0 caps=true)(p:Mt->Bool)(hf:∀x∈l,Rt pg f (.agg (mt x)::caps) (.b (p x)))(hl:l.length<4611686018427387904):
  Rt pg 100 [.sl 3 (l.map mt),.fn (.func f) [] caps] (.b (l.any p)):=by
 refine Rt.of gV func100 rfl ntmps100 rfl results100 call100 λH0 S0 w0 h0 g0=>?_;obtain⟨n,h1,h2,h3,h4⟩:=tr l p;refine GO (J_ l f caps hcaps p hf n h1 h2 h3 hl) rfl ⟨?_,rfl⟩ (by simp[im,iy,hcaps]);rw[h4];show decide _=_;split
 ·rename_i h;rw[decide_eq_true h];exact decide_eq_true az
 rename_i h;rw[decide_eq_false h];rfl
def OK{α:Type}[Inhabited α](l:List α)(p:α->Bool):l.any p=p7 l.length (λi=>p (l.getD i default)):=by
 obtain⟨n,h1,h2,h3,h4⟩:=tr l p;rw[h4];by_cases h:n<l.length
 ·rw[decide_eq_true h,oa h];simpa[h]using h3 h
 rw[decide_eq_false h,nZ];intro i hi;have:=h2 i hi az;simpa[hi]using this
def qt(l:List Mt)(hm:Qs l):Rt pg 38 [.sl 3 (l.map mt)] (.b (l8 l)):=by
 refine Rt.of gV func38 rfl ntmps38 rfl results38 call38 λH0 S0 w0 h0 g0=>?_;have hll:(l.map mt).length=l.length:=aA
 unfold l8;by_cases h:l.length<=8
 ·refine p1 (GO (CM l 101 [] rfl xE (λx hx=>M9 x (hm x hx)) az) rfl ⟨?_,rfl⟩);rw[decide_eq_true h,gT,<-OK l xE];rfl
 exact p2 ⟨by rw[decide_eq_false h,du];rfl,rfl⟩
def R8(l:List Lb)(m:Mt):Rt pg 118 [.sl 2 (l.map lb),.agg (mt m)] (.b (o_ l m)):=by
 refine Rt.of gV func118 rfl ntmps118 rfl results118 call118 λH0 S0 w0 h0 g0=>?_;refine GO (S7 l m.name) rfl ?_;unfold o_;by_cases h0:m.op=0
 ·exact p1 ⟨by rw[if_pos h0];rfl,rfl⟩ (by simpa using h0)
 refine p2 ?_ (by simpa using h0);rw[if_neg h0];by_cases h1:m.op=1
 ·exact p1 ⟨by rw[if_pos h1];rfl,rfl⟩ (by simpa using h1)
 refine p2 ?_ (by simpa using h1);rw[if_neg h1];by_cases h2:m.op=2
 ·exact p1 (GO (oe (kT l m.name) m.value) rfl ⟨by rw[if_pos h2];rfl,rfl⟩) (by simpa using h2)
 exact p2 (GO (oe (kT l m.name) m.value) rfl ⟨by rw[if_neg h2];rfl,rfl⟩) (by simpa using h2)
def QU(l:List Lb)(m:Mt):Rt pg 117 [.agg (mt m),.r [.sl 2 (l.map lb)]] (.b (!o_ l m)):=by
 refine Rt.of gV func117 rfl ntmps117 rfl results117 call117 λH0 S0 w0 h0 g0=>?_;exact GO (R8 l m) rfl ⟨rfl,rfl⟩
def Jn(l:List Lb)(m:List Mt)(hm:m.length<4611686018427387904):Rt pg 50 [.sl 2 (l.map lb),.sl 3 (m.map mt)] (.b (rE l m)):=by
 refine Rt.of gV func50 rfl ntmps50 rfl results50 call50 λH0 S0 w0 h0 g0=>?_;refine sI 0 rfl rfl (GO (CM m 117 [.r [.sl 2 (l.map lb)]] rfl (λx=> !o_ l x) (λx _=>QU l x) hm) rfl ⟨?_,rfl⟩);show (!_)=rE l m;unfold rE;rw[List.all_eq_not_any_not]
abbrev gn(g:Gn):List GV:=[.sl 3 (g.mt.map mt),gi g.lo,gi g.hi]
abbrev Qv(l:List Gn):GV:=.sl 3 (l.map gn)
def FU(l:List Sm)(f:FuncId)(caps:List GV)(hcaps:im 0 caps=true)(p:Sm->Bool)(hf:∀x∈l,Rt pg f (.agg (sm x)::caps) (.b (p x)))(n:Nat)(hn:n<=l.length)(h1:∀i (h:i<l.length),i<n->p l[i]=false)(h2:∀h:n<l.length,p l[n]=true)(hl:l.length<4611686018427387904):
  Rt pg 115 [.sl 2 (l.map sm),.fn (.func f) [] caps] (gi (if n<l.length then n else-1)):=by
 refine Rt.of gV func115 rfl ntmps115 rfl results115 call115 λH0 S0 w0 h0 g0=>?_;have hll:(l.map sm).length=l.length:=aA
 refine JK.loop (α:=Nat) (λi=>⟨[(0,.sl 2 (l.map sm)),(1,.fn (.func f) [] caps),(7,gi (l.map sm).length),(8,gi i)],[],0⟩) (λi=>i<=n) (λi=>n-i) 0 id ?_ (aQ _) ?_
 ·exact⟨⟨rfl,by simp only[jW,j4,nE];rfl,rfl,rfl,trivial⟩,trivial,by simp[jt,iy,im,hcaps,iL,iv,iu,jf]⟩
 intro i hi;refine V ?_;by_cases hlt:i<l.length
 ·refine p1 (ix (h:=?_));have hp:=hf l[i] (aR hlt);by_cases hin:i<n
  ·exact GO (hp.bt (h1 i hlt hin)) rfl ⟨i+1,id,⟨⟨rfl,by simp only[jW,j4,nE];rfl,rfl,h_ az,trivial⟩,trivial,by simp[jt,iy,im,hcaps,iL,iv,iu,jf]⟩,hin,m8⟩ (by simp[im,hcaps];rfl)
  have hin':i=n:=az
  subst hin';exact GO (hp.bt (h2 hlt)) rfl ⟨by rw[if_pos hlt];rfl,rfl⟩ (by simp[im,hcaps];rfl)
 exact p2 (V ⟨by rw[if_neg az];rfl,rfl⟩)
def HV(l:List Gn)(f:FuncId)(caps:List GV)(hcaps:im 0 caps=true)(p:Gn->Bool)(hf:∀x∈l,Rt pg f (.agg (gn x)::caps) (.b (p x)))(n:Nat)(hn:n<=l.length)(h1:∀i (h:i<l.length),i<n->p l[i]=false)(h2:∀h:n<l.length,p l[n]=true)(hl:l.length<4611686018427387904):
  Rt pg 116 [.sl 3 (l.map gn),.fn (.func f) [] caps] (gi (if n<l.length then n else-1)):=by
 refine Rt.of gV func116 rfl ntmps116 rfl results116 call116 λH0 S0 w0 h0 g0=>?_;have hll:(l.map gn).length=l.length:=aA
 refine JK.loop (α:=Nat) (λi=>⟨[(0,.sl 3 (l.map gn)),(1,.fn (.func f) [] caps),(7,gi (l.map gn).length),(8,gi i)],[],0⟩) (λi=>i<=n) (λi=>n-i) 0 id ?_ (aQ _) ?_
 ·exact⟨⟨rfl,by simp only[jW,j4,nE];rfl,rfl,rfl,trivial⟩,trivial,by simp[jt,iy,im,hcaps,iL,iv,iu,jf]⟩
 intro i hi;refine V ?_;by_cases hlt:i<l.length
 ·refine p1 (ix (h:=?_));have hp:=hf l[i] (aR hlt);by_cases hin:i<n
  ·exact GO (hp.bt (h1 i hlt hin)) rfl ⟨i+1,id,⟨⟨rfl,by simp only[jW,j4,nE];rfl,rfl,h_ az,trivial⟩,trivial,by simp[jt,iy,im,hcaps,iL,iv,iu,jf]⟩,hin,m8⟩ (by simp[im,hcaps];rfl)
  have hin':i=n:=az
  subst hin';exact GO (hp.bt (h2 hlt)) rfl ⟨by rw[if_pos hlt];rfl,rfl⟩ (by simp[im,hcaps];rfl)
 exact p2 (V ⟨by rw[if_neg az];rfl,rfl⟩)
def Gj(l:List Gn)(f:FuncId)(caps:List GV)(hcaps:im 0 caps=true)(p:Gn->Bool)(hf:∀x∈l,Rt pg f (.agg (gn x)::caps) (.b (p x)))(hl:l.length<4611686018427387904):
  Rt pg 48 [.sl 3 (l.map gn),.fn (.func f) [] caps] (.b (l.any p)):=by
 refine Rt.of gV func48 rfl ntmps48 rfl results48 call48 λH0 S0 w0 h0 g0=>?_;obtain⟨n,h1,h2,h3,h4⟩:=tr l p;refine GO (HV l f caps hcaps p hf n h1 h2 h3 hl) rfl ⟨?_,rfl⟩ (by simp[im,iy,hcaps]);rw[h4];show decide _=_;split
 ·rename_i h;rw[decide_eq_true h];exact decide_eq_true az
 rename_i h;rw[decide_eq_false h];rfl
def K3(l:List Sm)(hl:l.length<=1000000):Hf pg 46 0 [.sl 2 (l.map sm)] [] (λg σ n=>g=.o 0/\σ=[(0,.row 109 2 (l.map sm))]/\n=1):=by
 refine Hf.jK (Q:=λg σ m=>∃id:Nat,g=.o id/\gW σ id=some (.row 109 2 (l.map sm))) (Hf.q9 gV func46 rfl ntmps46 rfl results46 call46 λH0 S0 w0 h0 g0=>?_) ?_
 ·refine VM 8 (JK.FC gV rfl rfl rfl rfl rfl (λhn=>?_) ?_)
  ·have hn':l.map sm=[]:=hn;refine VM 6 (JK.kx 2 109 2 rfl (V ⟨_,rfl,?_⟩));rw[hn'];rfl
  exact V ⟨by simp only[aD,aM];omega,⟨_,rfl,rfl⟩⟩
 rintro g σ m ⟨id,rfl,h⟩;exact⟨r1 0 id,.o 0,[(0,.row 109 2 (l.map sm))],1,A0z,rfl,⟨h,trivial⟩,rfl⟩
def qM(l:List Sm)(hl:l.length<=1000000):Rt pg 46 [.sl 2 (l.map sm)] (.sl 2 (l.map sm)):=by
 refine Rt.q9 gV func46 rfl ntmps46 rfl results46 call46 λH0 S0 w0 h0 g0=>?_;refine VM 8 (JK.FC gV rfl rfl rfl rfl rfl (λhn=>?_) ?_)
 ·have hn':l.map sm=[]:=hn;refine VM 6 (JK.Km 2 2 rfl (V ?_));rw[hn'];exact⟨rfl,rfl⟩
 exact VM 10 ⟨by simp only[aD,aM];omega,(ot 1 rfl ⟨rfl,rfl⟩)⟩
def nX(l:List Lb)(hl:l.length<=1000000):Rt pg 51 [.sl 2 (l.map lb)] (.sl 2 (l.map lb)):=by
 refine Rt.q9 gV func51 rfl ntmps51 rfl results51 call51 λH0 S0 w0 h0 g0=>?_;refine VM 8 (JK.FC gV rfl rfl rfl rfl rfl (λhn=>?_) ?_)
 ·have hn':l.map lb=[]:=hn;refine VM 6 (JK.Km 2 2 rfl (V ?_));rw[hn'];exact⟨rfl,rfl⟩
 exact VM 10 ⟨by simp only[aD,aM];omega,(ot 1 rfl ⟨rfl,rfl⟩)⟩
def tq(l:List Sm):Ct pg 180 0 [.sl 2 (l.map sm)] [] (uj λg=>g=.b (ke l)):=by
 refine Ct.len 0 rfl λhlen _=>?_;have hlen':l.length<=9223372036854775807:=by simpa[maxLen]using hlen
 refine Ct.bool (Ct.j7 gV func180 rfl ntmps180 rfl results180 λH0 S0 w0 h0 g0=>(ia gV 200 _ _ (JK.loop (α:=Nat) (λi=>⟨[(0,.sl 2 (l.map sm)),(5,.sl 2 (l.map sm)),(6,gi (l.map sm).length),(7,gi i)],[],0⟩) (λi=>i<=l.length/\∀j x,j<i->l[j]? =some x->¬Aw l j x) (λi=>l.length-i) 0 id ?_ ⟨aQ _,λj x hj=>absurd hj az⟩ ?_)))
 ·exact A0z
 rintro i ⟨hi,hgood⟩;refine ia gV 200 _ _ ⟨λhb=>?_,λhb=>?_⟩
 ·have hlt:i<l.length:=by simpa using hb
  refine idx i rfl hlt ⟨au,?_⟩;have hfalse:Aw l i l[i]->false=ke l:=λhb=>by
   cases h:ke l with
   |false=>rfl
   |true=>exact ((Ji l).1 h |>.1 i l[i] (aC hlt) hb).elim
  have hnext:¬Aw l i l[i]->i+1<=l.length/\∀j x,j<i+1->l[j]? =some x->¬Aw l j x:=λhn=>⟨hlt,λj x hj hx=>by
   rcases bX.1 hj with h1|h1
   ·exact hgood j x h1 hx
   subst h1;rw[aC hlt]at hx;cases hx;exact hn⟩
  have e18:some (gi (i64.wrap (i+1:Int)))=some (gi ((i+1:Nat):Int)):=by rw[ic az az];rfl
  refine⟨λha=>?_,λha=>?_⟩
  ·have ha':¬l[i].time< -1099511627776:=by simpa using ha
   refine⟨λhc=>?_,λhc=>?_⟩
   ·have hc':¬l[i].time>1099511627776:=by simpa using hc
    refine⟨λhd=>?_,λhd=>?_⟩
    ·have hd':0<i:=by simpa using hd
     have ew:i64.wrap ((i:Int) -1)=((i-1:Nat):Int):=by rw[ic az az];omega
     refine idx (i-1) ew az ⟨λhe=>?_,λhe=>?_⟩
     ·exact .inl (congrArg (λc=>GV.v (.bool c)) (hfalse (.inr (.inr ⟨hd',_,aC az,by simpa using he⟩))))
     refine⟨i+1,id,⟨⟨rfl,rfl,rfl,e18,trivial⟩,trivial,rfl⟩,hnext ?_,m8⟩;rintro (h|h|⟨_,y,hy,h⟩)
     ·exact ha' h
     ·exact hc' h
     rw[aC az]at hy;rw[aV]at hy;rw[<-hy]at h;simp at he;omega
    have hd':¬0<i:=by simpa using hd
    refine⟨i+1,id,⟨⟨rfl,rfl,rfl,e18,trivial⟩,trivial,rfl⟩,hnext ?_,m8⟩;rintro (h|h|⟨h,_⟩)
    ·exact ha' h
    ·exact hc' h
    exact hd' h
   exact .inl (congrArg (λc=>GV.v (.bool c)) (hfalse (.inr (.inl (by simpa using hc)))))
  exact .inl (congrArg (λc=>GV.v (.bool c)) (hfalse (.inl (by simpa using ha))))
 have hge:i=l.length:=by simp at hb;omega
 refine ia gV 200 _ _ (.inr (congrArg GV.b ?_));rw[cp,Ji,decide_eq_true_iff,aD];exact⟨λh=>⟨λj x hj=>hgood j x (by rw[hge];exact (aO.1 hj).1) hj,az⟩,λh=>az⟩
abbrev HD(mk:Int)(S:List gY):Heap:=[(0,.hZ 159 [gi mk,.o 1]),(1,.row 105 2 (S.map se))]
def Dd{f:FuncId}{args:List GV}{σ:Heap}{mk:Int}{S:List gY}{G:GV}(hG:iy 0 G=true)(h:Hf pg f 2 args σ (λg σ' _=>g=G/\gW σ' 0=some (.hZ 159 [gi mk,.o 1])/\gW σ' 1=some (.row 105 2 (S.map se)))):
  Hf pg f 2 args σ (λg σ' n=>g=G/\σ'=HD mk S/\n=2):=by
 refine Hf.jK h ?_;rintro g σ' n ⟨rfl,h0,h1⟩;refine⟨id,g,HD mk S,2,A0z,(mR g).symm,⟨h0,h1,trivial⟩,?_⟩;rw[r_ 2 hG];rfl
def FI(mk:Int)(S:List gY)(ls:List Lb)(b:Bool)(hr:lW S)(hl:S.length<=1000000)(hb:(mJ ls S).isSome=b):
  Hf pg 132 2 [.p 0 0,om ls] (HD mk S) (λg σ n=>g=.tup [gi (i_ ls S),.v (.bool b)]/\σ=HD mk S/\n=2):=by
 refine Dd rfl (Hf.of gV func132 rfl ntmps132 rfl results132 call132 λH0 S0 w0 h0 g0=>?_);subst hb;exact Ma (Tz S ls 182 hr (λx _=>Ue x ls) hl) rfl A0z A0z
def LH{mk:Int}{S:List gY}{x:gY}(h:iS x.labels=false):mi mk S x=1:=by unfold mi;rw[if_pos (by rw[h];rfl)]
def Np{mk:Int}{S:List gY}{x:gY}(h:ke x.samples=false):mi mk S x=1:=by unfold mi;rw[if_pos (by rw[h,du];rfl)]
def LA{mk:Int}{S:List gY}{x:gY}(h:x.samples.length=0):mi mk S x=1:=by unfold mi;rw[if_pos (by rw[decide_eq_true h,dU,du])]
def I_{mk:Int}{S:List gY}{x:gY}(h1:iS x.labels=true)(h2:ke x.samples=true)(h3:¬x.samples.length=0):mi mk S x=if pT x.samples<=mk then 10 else
 match mJ x.labels S with
 |none=>if 60<=S.length then 12 else 0
 |some y=>if pT x.samples<=rk y.samples then 10 else if 2000<y.samples.length+x.samples.length then 12 else 0:=by
 unfold mi;rw[if_neg (by rw[h1,h2,decide_eq_false h3];decide)];rfl
def EA{s:List Sm}(h:0<s.length):pT s=s[0].time:=by
 cases s with
 |nil=>simp at h
 |cons x r=>rfl
def Po{s:List Sm}(h:0<s.length):rk s=s[s.length-1].time:=by
 unfold rk;rw[gq,aC az]
theorem LX(mk:Int)(S:List gY)(x:gY)(hS:lI S)(hx:Sh x.labels)(hlx:x.samples.length≤1000000):
  Hf pg 131 2 [.p 0 0,.agg (se x)] (HD mk S) (fun g σ n=>g=gi (mi mk S x)∧σ=HD mk S∧n=2):=by
 refine Dd rfl (Hf.of gV func131 rfl ntmps131 rfl results131 call131 fun H0 S0 w0 h0 g0=>?_);have hll:(S.map se).length=S.length:=aA
 have hsl:(x.samples.map sm).length=x.samples.length:=aA
 have hlen:=hS.len;have hr1:=sV x.labels hx;have hr2:=Rq.iN call180 (tq x.samples);cases ha:mJ x.labels S with
 |none=>
  refine ig (FI mk S x.labels false hS.ris az (by rw[ha];rfl)) id rfl rfl ⟨rfl,rfl,trivial⟩ rfl ay ?_;rintro _ _ _ ⟨rfl,rfl,rfl⟩;rcases tf (iS x.labels) with h1|h1
  ·refine GO (hr1.bt h1) rfl ?_;rcases tf (ke x.samples) with h2|h2
   ·refine GO (hr2.bt h2) rfl ?_;by_cases h3:x.samples.length=0
    ·exact p1 ⟨congrArg gi (LA h3).symm,rfl,rfl⟩ (beq_iff_eq.2 az)
    ·refine p2 ?_ (beq_false_of_ne az);have he:=I_ (mk:=mk) (S:=S) h1 h2 h3;have hf:=EA (s:=x.samples) az;rw[ha]at he;refine⟨au,(idx 0 rfl az ?_)⟩;by_cases h4:pT x.samples≤mk
     ·refine p1 ?_ (decide_eq_true (by rw[←hf];exact h4));rw[if_pos h4]at he;exact⟨congrArg gi he.symm,rfl,rfl⟩
     ·refine p2 ?_ (decide_eq_false (by rw[←hf];exact h4));rw[if_neg h4]at he;simp only at he;by_cases h5:60≤S.length
      ·refine p1 ?_ aj;rw[if_pos h5]at he;exact⟨congrArg gi he.symm,rfl,rfl⟩
      ·refine p2 ?_ ai;rw[if_neg h5]at he;exact⟨congrArg gi he.symm,rfl,rfl⟩
   ·exact GO (hr2.bt h2) rfl ⟨congrArg gi (Np h2).symm,rfl,rfl⟩
  ·exact GO (hr1.bt h1) rfl ⟨congrArg gi (LH h1).symm,rfl,rfl⟩
 |some y=>
  refine ig (FI mk S x.labels true hS.ris az (by rw[ha];rfl)) id rfl rfl ⟨rfl,rfl,trivial⟩ rfl ay ?_;rintro _ _ _ ⟨rfl,rfl,rfl⟩;obtain⟨hn,e1,e2⟩:=u_ ha;have hy:=hS.each y (e1 ▸ aR hn);have hyo:=(ja _).1 hy.2.1;have hy0:0<y.samples.length:=cm.2 hy.2.2;have hyl:(y.samples.map sm).length=y.samples.length:=aA
  rcases tf (iS x.labels) with h1|h1
  ·refine GO (hr1.bt h1) rfl ?_;rcases tf (ke x.samples) with h2|h2
   ·refine GO (hr2.bt h2) rfl ?_;by_cases h3:x.samples.length=0
    ·exact p1 ⟨congrArg gi (LA h3).symm,rfl,rfl⟩ (beq_iff_eq.2 az)
    ·refine p2 ?_ (beq_false_of_ne az);have he:=I_ (mk:=mk) (S:=S) h1 h2 h3;have hf:=EA (s:=x.samples) az;have hla:=Po hy0;rw[ha]at he;refine⟨au,(idx 0 rfl az ?_)⟩;by_cases h4:pT x.samples≤mk
     ·refine p1 ?_ (decide_eq_true (by rw[←hf];exact h4));rw[if_pos h4]at he;exact⟨congrArg gi he.symm,rfl,rfl⟩
     ·refine p2 ?_ (decide_eq_false (by rw[←hf];exact h4));rw[if_neg h4]at he;simp only at he;refine⟨az,az,⟨se y,by simp[hn,e1],⟨au,(p1 (idx (y.samples.length-1) (by rw[ic az az];omega) az (idx 0 rfl az ?_)) aj)⟩⟩⟩;by_cases h5:pT x.samples≤rk y.samples
      ·refine p1 ?_ (decide_eq_true (by rw[←hf,←hla];exact h5));rw[if_pos h5]at he;exact⟨congrArg gi he.symm,rfl,rfl⟩
      ·refine p2 ?_ (decide_eq_false (by rw[←hf,←hla];exact h5));rw[if_neg h5]at he;by_cases h6:2000<y.samples.length+x.samples.length
       ·refine p1 ?_ (decide_eq_true (by rw[ic az az];omega));rw[if_pos h6]at he;exact⟨congrArg gi he.symm,rfl,rfl⟩
       ·refine p2 ?_ (decide_eq_false (by rw[ic az az];omega));rw[if_neg h6]at he;exact⟨congrArg gi he.symm,rfl,rfl⟩
   ·exact GO (hr2.bt h2) rfl ⟨congrArg gi (Np h2).symm,rfl,rfl⟩
  ·exact GO (hr1.bt h1) rfl ⟨congrArg gi (LH h1).symm,rfl,rfl⟩
end Go.Proofs.YtadildidlcbbkaaGreatDoor
namespace Go.Proofs.YtadildidlcbbkaaGreatDoor
open Go.RowKit Go.Lib Go.GK
open IntKind Go.Proofs.Tryz
set_option maxRecDepth 100000
def qY:prog.underlying 40=some (.slice 105):=au
def BB:∃(i:TypeInfo) (z:Value),prog.info? 105=some i/\i.size=2/\i.bytes=48/\i.zero=some z/\z.cells.size=2:=by
 obtain⟨i,z,hi,hisz,hiby,hiz,hzc,hzl⟩:=(gV.tt 105 _ rfl).info;exact⟨i,z,hi,hisz,hiby,hiz,by rw[<-bu,hzc,hzl]⟩
set_option maxHeartbeats 4000000 in
def RX(v:Value)(n vb vc:Nat)(xs vs:List Value)(w:World)(hown:w.ownsRow 0 105 2 v n xs)(hvl:vs.length=2)(hvs:∀j u,vs[j]? =some u->w.cell? ⟨vb,0+j,none⟩=some u)(h1v:∀u∈vs,u.oneCell'=true)(hn:n<1000000):
  Calls prog 133 #[v,.int .i64 (n:Int),.slice (some ⟨vb,0,none⟩) 1 vc] w λev w'=>∃v',ev=.returned v'/\w'.ownsRow 0 105 2 v' (n+1) (xs++vs)/\w.grownBy w' v.ownBlock/\(v'.ownBlock=v.ownBlock\/v'.ownBlock=some w.heap.size):=by
 obtain⟨i,z,hi,hisz,hiby,hiz,hzs⟩:=BB;obtain⟨v',w',hr,h2,h3,_,h5⟩:=run_append_own_at (P:=prog) w 0 40 40 105 i z 2 48 qY hi hiz hisz hiby hzs az v n xs hown ⟨vb,0,none⟩ 1 vc vs hvl (λj u hj=>by rw[Addr.add_lit];exact hvs j u hj) h1v (by unfold maxLen;omega) az (aQ _);have u27:=run_underlying qY;rcases hown.2 with ⟨rfl,rfl⟩|⟨g,cap,cur,rfl,hb,hg,hnc,hcm,jr⟩
 ·go_enter func133,ntmps133
  go_wp2_with (at_builtin;refine Lib.wpList_append_run _ rfl _ _ _ _ rfl _ _ rfl rfl _ _ hr ?_)
  go_ret
  exact⟨v',rfl,h2,h3,h5⟩
 have hcm':cap<=9223372036854775807:=by unfold maxLen at hcm;omega
 clear hcm jr hg hb hown
 go_enter func133,ntmps133
 go_wp2_with (at_builtin;refine Lib.wpList_append_run _ rfl _ _ _ _ rfl _ _ rfl rfl _ _ hr ?_)
 all_goals (go_ret;exact⟨v',rfl,h2,h3,h5⟩)
def SW(vb b p:Nat)(vc lb cb:Nat)(w:World)(hvb:vb≠b)(vcur cur:Array Value)(tv tb:TypeId)(hv:w.heap[vb]? =some (.cells vcur tv (0,0)))(hb:w.heap[b]? =some (.cells cur tb (0,0)))(hk:cur.size≠0):
  (callFunc 183 #[.slice (some ⟨vb,0,none⟩) 1 vc,.slice (some ⟨b,p,none⟩) lb cb]).run prog w=.ok (.value (.bool false)) w:=by
 rw[run_callFunc_extern func183 au au au (e:=Extern.SlicesOverlaps.overlaps #[40,40] #[4]) au,
  Lib.run_overlaps_apart w 40 4 105 qY 2 (λw=>au) ⟨vb,0,none⟩ ⟨b,p,none⟩ 1 vc lb cb hvb tv tb vcur.size cur.size (by simp[World.shape?,hv]) (by simp[World.shape?,hb]) hk (by simp[World.frozen?,hv]) (by simp[World.frozen?,hv])]
 rfl
set_option maxHeartbeats 4000000 in
def LP (b n c i vb vc:Nat) (cs vs:List Value) (vcur cur:Array Value) (tv tb:TypeId) (w:World) (hi:i<n) (hroom:n+1<=c) (hc63:c<=9223372036854775807) (hvb:vb≠b) (hcl:cs.length=n*2) (hvl:vs.length=2)
  (hv:w.heap[vb]? =some (.cells vcur tv (0,0))) (hb:w.heap[b]? =some (.cells cur tb (0,0))) (hk:cur.size≠0)
  (hcs:∀j v,cs[j]? =some v->w.cell? ⟨b,j,none⟩=some v) (hsp:∀j,j<(n+1)*2->(w.cell? ⟨b,j,none⟩).isSome=true) (hfz:∀j,w.frozen? ⟨b,j,none⟩=false)
  (hvs:∀j v,vs[j]? =some v->w.cell? ⟨vb,j,none⟩=some v) (h1c:∀v∈cs,v.oneCell'=true) (h1v:∀v∈vs,v.oneCell'=true):
  Calls prog 133 #[.slice (some ⟨b,0,none⟩) n c,.int .i64 i,.slice (some ⟨vb,0,none⟩) 1 vc] w λe w'=>
   e=.returned (.slice (some ⟨b,0,none⟩) (n+1) c)/\w'=(w.drew.setCells b ((i+1)*2) (cs.drop (i*2))).setCells b (i*2) vs:=by
 have hsz:(prog.info? 105).map (·.size)=some 2:=by
  obtain⟨i0,z,hi0,h1,_⟩:=BB;rw[hi0];simp[h1]
 have u27:=run_underlying qY;have hov:∀p lb cb,(callFunc 183 #[.slice (some ⟨vb,0,none⟩) 1 vc,.slice (some ⟨b,p,none⟩) lb cb]).run prog w=.ok (.value (.bool false)) w:=λp lb cb=>SW vb b p vc lb cb w hvb vcur cur tv tb hv hb hk;have hz2:¬((i:Int)=(n:Int)):=az
 have hdl:(cs.drop (i*2)).length=(n-i)*2:=by rw[bw,hcl,fS]
 have hw1:i64.wrap ((i:Int)+1)=(i:Int)+1:=by rw[IntKind.wrap_i64];omega
 have hw2:i64.wrap ((n:Int)+1)=(n:Int)+1:=by rw[IntKind.wrap_i64];omega
 have hb1:(0:Int)<=(i:Int)+1:=az
 have hb0:(0:Int)<=(n:Int)+1:=az
 have hin:i<=n:=az
 have htn:((i:Int)+1).toNat=i+1:=az
 have htn2:((n:Int)+1).toNat=n+1:=az
 have hb2:¬(c=i+1):=az
 have hb3:(i:Int)<=(n:Int)+1:=az
 have hb4:¬(c=i):=az
 have hb5:(n:Int)+1<=(c:Int):=az
 have hcp1:∀ty dc sc,(Builtin.copy_ #[40,40] ty #[.slice (some ⟨b,(i+1)*2,none⟩) (n-i) dc,.slice (some ⟨b,i*2,none⟩) (n+1-i) sc]).run prog w.drew=.ok (goInt ((n-i:Nat))) (w.drew.setCells b ((i+1)*2) (cs.drop (i*2))):=λty dc sc=>
  uC w.drew _ _ ty 105 2 b ((i+1)*2) (n-i) dc ⟨b,i*2,none⟩ (n+1-i) sc (n-i) (cs.drop (i*2)) qY hsz (by simp only[gP];split<;>omega) hdl
   (λj v hj=>by rw[Addr.add_lit];exact hcs (i*2+j) v (by rwa [bo]at hj))
   (λj hj=>hsp _ az) (λj hj=>hfz _) (λv hv=>h1c v (cF hv))
 obtain⟨W1,hW1⟩:∃W1,W1=w.drew.setCells b ((i+1)*2) (cs.drop (i*2)):=⟨_,rfl⟩;have hsp1:∀k,k<(n+1)*2->(W1.cell? ⟨b,k,none⟩).isSome=true:=λk hk=>by
  rw[hW1];exact isSome_setCells b (cs.drop (i*2)) ((i+1)*2) w.drew (λj hj=>hsp _ (by rw[hdl]at hj;omega)) k (hsp k hk)
 have hcp2:∀ty dc,(Builtin.copy_ #[40,40] ty #[.slice (some ⟨b,i*2,none⟩) (n+1-i) dc,.slice (some ⟨vb,0,none⟩) 1 vc]).run prog W1=.ok (goInt (1:Nat)) (W1.setCells b (i*2) vs):=λty dc=>
  uC W1 _ _ ty 105 2 b (i*2) (n+1-i) dc ⟨vb,0,none⟩ 1 vc 1 vs qY hsz (by simp only[gP];split<;>omega) hvl
   (λj v hj=>by
    rw[Addr.add_lit,hW1,World.cell?_setCells_out b _ _ _ _ (λh _=>absurd h hvb),cy];exact hvs j v hj)
   (λj hj=>hsp1 _ az) (λj hj=>by rw[hW1,World.frozen?_setCells];exact hfz _) h1v
 rw[<-hW1]at hcp1|-;clear hv hb hk hsp hsp1 hcs hvs h1c h1v hdl hW1
 go_enter func133,ntmps133
 go_wp2_with (simp only[hov])
 go_region_law (refine step_copy_runI rfl _ _ 40 40 rfl _ _ (by simp[Act.eval,Act.put]) (by simp[Act.eval,Act.put]) (hcp1 _ _ _) ?_)
 go_wp2_with (at_builtin;refine wpList_copy_runI _ rfl _ _ 40 40 rfl _ _ rfl rfl (hcp2 _ _) ?_)
 go_ret
 exact⟨rfl,rfl⟩
set_option maxHeartbeats 4000000 in
def N9 (b n i vb vc:Nat) (cs vs:List Value) (w:World) (i0:TypeInfo) (z:Value) (hi0:prog.info? 105=some i0) (hzs:i0.size=2) (hzb:i0.bytes=48) (hz0:i0.zero=some z) (hzc:z.cells.size=2) (hi:i<n) (hn:n<1000000) (hcl:cs.length=n*2) (hvl:vs.length=2)
  (hbw:b<w.heap.size) (hvw:vb<w.heap.size) (hcs:∀j v,cs[j]? =some v->w.cell? ⟨b,j,none⟩=some v) (hvs:∀j v,vs[j]? =some v->w.cell? ⟨vb,j,none⟩=some v) (h1c:∀v∈cs,v.oneCell'=true) (h1v:∀v∈vs,v.oneCell'=true):
  Calls prog 133 #[.slice (some ⟨b,0,none⟩) n n,.int .i64 i,.slice (some ⟨vb,0,none⟩) 1 vc] w λe w'=>
   e=.returned (.slice (some ⟨w.heap.size,0,none⟩) (n+1) (grownCap w (n+1) n 105))/\
   w'=(((w.alloc (.cells ((cs.take (i*2)).toArray++Builtin.zeroCells z.cells (n+1-i)++Builtin.zeroCells z.cells (grownCap w (n+1) n 105- (n+1))) 105)).drew.setCells w.heap.size (i*2) vs).drew).setCells w.heap.size ((i+1)*2) (cs.drop (i*2)):=by
 have hsz:(prog.info? 105).map (·.size)=some 2:=by rw[hi0];simp[hzs]
 have u27:=run_underlying qY;have tint:prog.underlying 3=some (.int .i64):=au
 have hz2:¬((i:Int)=(n:Int)):=az
 have hz3:(n:Int)<(n:Int)+1:=az
 have hkk:(n:Int)+1- (i:Int)=((n+1-i:Nat):Int):=az
 have hik:i+(n+1-i)=n+1:=az
 have hold:(Builtin.firstCells i0.size i (.slice (some ⟨b,0,none⟩) i n)).run prog w.drew=.ok (cs.take (i*2)).toArray w.drew:=by
  rw[hzs];exact run_firstCells_some w.drew 2 i ⟨b,0,none⟩ i n (cs.take (i*2)) (by rw[aY];omega) (λj v hj=>by
   rw[Addr.add_lit,cy];rw[bD]at hj;split at hj
   ·exact hcs j v hj
   cases hj)
 have hrz:∀ty,(Builtin.append_ #[40,3] ty #[.slice (some ⟨b,0,none⟩) i n,.int .i64 ((n:Int)+1- (i:Int))]).run prog w=
   .ok (.slice (some ⟨w.heap.size,0,none⟩) (n+1) (grownCap w (n+1) n 105)) (w.drew.alloc (.cells ((cs.take (i*2)).toArray++Builtin.zeroCells z.cells (n+1-i)++Builtin.zeroCells z.cells (grownCap w (n+1) n 105- (n+1))) 105)):=λty=>by
  have h:=Lib.run_append_grow_zeros (P:=prog) w 40 3 ty 105 i0 z .i64 .i64 qY tint hi0 hz0 (some ⟨b,0,none⟩) i n (cs.take (i*2)) hold (n+1-i) az az az az (by rw[hzb];omega) (by rw[hzb,hik];exact growslice_fits az az);rw[hik]at h;rw[hkk];exact h
 obtain⟨G,hG⟩:∃G,G=grownCap w (n+1) n 105:=⟨_,rfl⟩;obtain⟨ROW,hROW⟩:∃ROW:Array Value,ROW=(cs.take (i*2)).toArray++Builtin.zeroCells z.cells (n+1-i)++Builtin.zeroCells z.cells (G- (n+1)):=⟨_,rfl⟩;rw[<-hG]at hrz|-;rw[<-hROW]at hrz|-;have hRl:(n+1)*2<=ROW.size:=by
  rw[hROW];simp only[fm,cr,aY,hcl,size_zeroCells,hzc];omega
 obtain⟨W1,hW1⟩:∃W1,W1=w.drew.alloc (.cells ROW 105):=⟨_,rfl⟩;rw[<-hW1]at hrz;have hN:∀j,j<(n+1)*2->(W1.cell? ⟨w.heap.size,j,none⟩).isSome=true:=λj hj=>by
  rw[hW1,World.cell?_alloc_at (w:=w.drew) ROW _ w.heap.size j rfl,dw az];rfl
 have hNf:∀j,W1.frozen? ⟨w.heap.size,j,none⟩=false:=λj=>by rw[hW1];exact World.frozen?_alloc_at (w:=w.drew) ROW _ w.heap.size j rfl
 have hOb:∀j v,w.cell? ⟨b,j,none⟩=some v->W1.cell? ⟨b,j,none⟩=some v:=λj v h=>by rw[hW1,World.cell?_alloc_past (w:=w.drew) _ b j hbw];exact h
 have hOv:∀j v,w.cell? ⟨vb,j,none⟩=some v->W1.cell? ⟨vb,j,none⟩=some v:=λj v h=>by rw[hW1,World.cell?_alloc_past (w:=w.drew) _ vb j hvw];exact h
 have hcpA:∀(W:World),(∀x,W.cell? x=W1.cell? x)->(∀x,W.frozen? x=W1.frozen? x)->∀ty dc,(Builtin.copy_ #[40,40] ty #[.slice (some ⟨w.heap.size,i*2,none⟩) (n+1-i) dc,.slice (some ⟨vb,0,none⟩) 1 vc]).run prog W=.ok (goInt (1:Nat)) (W.setCells w.heap.size (i*2) vs):=λW hWc hWf ty dc=>
  uC W _ _ ty 105 2 w.heap.size (i*2) (n+1-i) dc ⟨vb,0,none⟩ 1 vc 1 vs qY hsz (by simp only[gP];split<;>omega) hvl
   (λj v hj=>by rw[Addr.add_lit,hWc,cy];exact hOv _ v (hvs j v hj))
   (λj hj=>by rw[hWc];exact hN _ az) (λj hj=>by rw[hWf];exact hNf _) h1v
 have hGn:n+1<=G:=by rw[hG];exact grownCap_ge w _ _ _
 have hG63:G<=9223372036854775807:=by
  have:=grownCap_le_maxLen w (n+1) n 105 (by unfold maxLen;omega);rw[<-hG]at this;unfold maxLen at this;omega
 have hGi:¬(G=i):=az
 have hGim:¬(G=i+1):=az
 have hci:¬(n=i):=az
 have hbN:b≠w.heap.size:=az
 have hdl:(cs.drop (i*2)).length=(n-i)*2:=by rw[bw,hcl,fS]
 have hcpB:∀(W:World),(∀x,W.cell? x=(W1.setCells w.heap.size (i*2) vs).cell? x)->(∀x,W.frozen? x=(W1.setCells w.heap.size (i*2) vs).frozen? x)->∀ty dc sc,(Builtin.copy_ #[40,40] ty #[.slice (some ⟨w.heap.size,(i+1)*2,none⟩) (n-i) dc,.slice (some ⟨b,i*2,none⟩) (n-i) sc]).run prog W=.ok (goInt ((n-i:Nat))) (W.setCells w.heap.size ((i+1)*2) (cs.drop (i*2))):=λW hWc hWf ty dc sc=>
  uC W _ _ ty 105 2 w.heap.size ((i+1)*2) (n-i) dc ⟨b,i*2,none⟩ (n-i) sc (n-i) (cs.drop (i*2)) qY hsz (by simp only[gP];split<;>omega) hdl
   (λj v hj=>by
    rw[Addr.add_lit,hWc,World.cell?_setCells_out _ _ _ _ _ (λh _=>absurd h hbN)];exact hOb _ v (hcs (i*2+j) v (by rwa [bo]at hj)))
   (λj hj=>by rw[hWc];exact isSome_setCells _ vs (i*2) W1 (λt ht=>hN _ (by rw[hvl]at ht;omega)) _ (hN _ (by rw[hdl]at hj;omega)))
   (λj hj=>by rw[hWf,World.frozen?_setCells];exact hNf _) (λv hv=>h1c v (cF hv))
 subst hW1;have hE1:∀x,((w.alloc (.cells ROW 105)).drew).cell? x=(w.drew.alloc (.cells ROW 105)).cell? x:=λx=>rfl;have hE2:∀x,((w.alloc (.cells ROW 105)).drew).frozen? x=(w.drew.alloc (.cells ROW 105)).frozen? x:=λx=>rfl;have hF1:∀x,(((w.alloc (.cells ROW 105)).drew.setCells w.heap.size (i*2) vs).drew).cell? x=((w.drew.alloc (.cells ROW 105)).setCells w.heap.size (i*2) vs).cell? x:=λx=>rfl;have hF2:∀x,(((w.alloc (.cells ROW 105)).drew.setCells w.heap.size (i*2) vs).drew).frozen? x=((w.drew.alloc (.cells ROW 105)).setCells w.heap.size (i*2) vs).frozen? x:=λx=>rfl;have hw1:i64.wrap ((i:Int)+1)=(i:Int)+1:=by rw[IntKind.wrap_i64];omega
 have hw2:i64.wrap ((n:Int)+1)=(n:Int)+1:=by rw[IntKind.wrap_i64];omega
 have hw3:i64.wrap ((n:Int)+1- (i:Int))=(n:Int)+1- (i:Int):=by rw[IntKind.wrap_i64];omega
 have hb1:(0:Int)<=(i:Int)+1:=az
 have hin:i<=n:=az
 have htn:((i:Int)+1).toNat=i+1:=az
 have hb3:(i:Int)<=(n:Int):=az
 clear hkk hik hold hROW hG hRl hcs hvs h1c h1v hdl hN hNf hOb hOv tint
 go_enter func133,ntmps133
 go_wp2_with (first
  | (at_builtin;refine Lib.wpList_append_run _ rfl _ _ _ _ rfl _ _ rfl rfl _ _ (hrz _) ?_)
  | (at_builtin;refine wpList_copy_runI _ rfl _ _ 40 40 rfl _ _ rfl rfl (hcpA _ hE1 hE2 _ _) ?_)
  | (at_builtin;refine wpList_copy_runI _ rfl _ _ 40 40 rfl _ _ rfl rfl (hcpB _ (λ_=>rfl) (λ_=>rfl) _ _ _) ?_))
 go_region_law (refine step_copy_runI rfl _ _ 40 40 rfl (.slice (some ⟨w.heap.size,(i+1)*2,none⟩) (n-i) (G- (i+1))) (.slice (some ⟨b,i*2,none⟩) (n-i) (n-i)) (by simp[Act.eval,Act.put]) (by simp[Act.eval,Act.put]) (hcpB _ hF1 hF2 3 (G- (i+1)) (n-i)) ?_)
 go_wp2
 go_ret
 exact⟨rfl,rfl⟩
def P_:JU prog 133 105:=by
 intro v n i vb vc xs vs vcur w hown hi hn hv hvc1 hvc hvs hvt hne h1c h1v;have hvl:vs.length=2:=by rw[<-hvt,aY,bu,hvs];omega
 have hvcell:∀j u,vs[j]? =some u->w.cell? ⟨vb,j,none⟩=some u:=λj u hj=>by
  have hlt:j<vs.length:=(aO.1 hj).1;rw[<-hvt,bD,if_pos az]at hj;simp only[World.cell?,hv];rw[if_neg aA];simpa using hj
 rcases Nat.eq_or_lt_of_le hi with he|hlt
 ·subst he;have hx:xs.length=i*2:=hown.1;rw[<-hx,aT,dF,aZ];exact RX v i vb vc xs vs w hown hvl (λj u hj=>by rw[cy];exact hvcell j u hj) h1v hn
 rcases hown.2 with ⟨_,h0⟩|⟨g,cap,cur,rfl,hb,hg,hnc,hcm,hcs,htk⟩
 ·omega
 have hxl:xs.length=n*2:=hown.1;have hcap2:n*2<=cap*2:=by omega
 have hcell:∀j u,xs[j]? =some u->w.cell? ⟨g,j,none⟩=some u:=λj u hj=>by
  have hlt:j<xs.length:=(aO.1 hj).1;rw[<-htk,bD,if_pos az]at hj;simp only[World.cell?,hg];rw[if_neg aA];simpa using hj
 have hfz:∀j,w.frozen? ⟨g,j,none⟩=false:=λj=>by simp[World.frozen?,hg]
 have hdl:(xs.drop (i*2)).length=(n-i)*2:=by rw[bw,hxl,fS]
 have hvb:vb≠g:=λe=>hne (by rw[e];rfl);by_cases hroom:n+1<=cap
 ·refine (LP g n cap i vb vc xs vs vcur cur _ _ w hlt hroom (by unfold maxLen at hcm;omega) hvb hxl hvl hv hg az hcell (λj hj=>?_) hfz hvcell h1c h1v).mono ?_
  ·simp only[World.cell?,hg];rw[if_neg aA,dw az];rfl
  rintro _ w' ⟨rfl,rfl⟩;have hgd:w.drew.heap[g]? =some (.cells cur 105 (0,0)):=hg;have e1:=qs g 105 (xs.drop (i*2)) ((i+1)*2) cur w.drew hgd (by rw[hdl,hcs];omega);have hg1:=setRow_heap w.drew g cur (cur.toList.take ((i+1)*2)++xs.drop (i*2)++cur.toList.drop ((i+1)*2+(xs.drop (i*2)).length)).toArray 105 _ hgd;have e2:=qs g 105 vs (i*2) _ _ hg1 (by
   simp only[cr,aI,aY,bw,bu,hcs,hxl,hvl];omega)
  rw[e1,e2,setRow_setRow];refine⟨_,rfl,⟨by rw[aI,aI,aY,bw,hxl,hvl];omega,.inr ⟨g,cap,_,rfl,hb,setRow_heap w.drew g cur _ 105 _ hgd,hroom,hcm,?_,?_⟩⟩,⟨rfl,rfl,rfl,by simp,λk _ hk=>setRow_other w.drew g k _ (λe=>hk (by simp[Value.ownBlock,e]))⟩,.inl rfl⟩
  ·simp only[cr,aI,aY,bw,bu,hcs,hxl,hvl];omega
  have:=LD cur.toList vs (p:=i*2) (q:=n*2) hvl az (by simp only[bu,hcs];omega);rw[htk]at this;rw[show (n+1)*2=n*2+2 by omega,show (i+1)*2=i*2+2 by omega];simpa using this
 obtain rfl:cap=n:=by omega
 obtain⟨i0,z,hi0,hzs,hzb,hz0,hzc⟩:=BB;have hgw:g<w.heap.size:=(aW.1 hg).1;have hvw:vb<w.heap.size:=(aW.1 hv).1;refine (N9 g cap i vb vc xs vs w i0 z hi0 hzs hzb hz0 hzc hlt hn hxl hvl hgw hvw hcell hvcell h1c h1v).mono ?_;rintro _ w' ⟨rfl,rfl⟩;have hge:=grownCap_ge w (cap+1) cap 105;have hgm:grownCap w (cap+1) cap 105<=maxLen:=grownCap_le_maxLen w (cap+1) cap 105 (by unfold maxLen;omega);generalize grownCap w (cap+1) cap 105=G at hge hgm|-;generalize hR:(xs.take (i*2)).toArray++Builtin.zeroCells z.cells (cap+1-i)++Builtin.zeroCells z.cells (G- (cap+1))=R;have hRs:R.size=G*2:=by
  rw[<-hR];simp only[fm,cr,aY,hxl,size_zeroCells,hzc];omega
 have hRt:R.toList.take (i*2)=xs.take (i*2):=by
  rw[<-hR];simp only[dR,aS];exact eZ (by rw[aY,hxl];omega)
 have hgd:(w.alloc (.cells R 105)).drew.heap[w.heap.size]? =some (.cells R 105 (0,0)):=heap_alloc_new w _;have e1:=qs w.heap.size 105 vs (i*2) R _ hgd (by rw[hvl,hRs];omega);have hg1:=setRow_heap (w.alloc (.cells R 105)).drew w.heap.size R (R.toList.take (i*2)++vs++R.toList.drop (i*2+vs.length)).toArray 105 _ hgd;have e2:=qs w.heap.size 105 (xs.drop (i*2)) ((i+1)*2) _ ((w.alloc (.cells R 105)).drew.setRow w.heap.size (R.toList.take (i*2)++vs++R.toList.drop (i*2+vs.length)).toArray).drew hg1 (by
  simp only[cr,aI,aY,bw,bu,hRs,hxl,hvl];omega)
 rw[e1,e2];refine⟨_,rfl,⟨by rw[aI,aI,aY,bw,hxl,hvl];omega,.inr ⟨w.heap.size,G,_,rfl,aQ _,setRow_heap _ w.heap.size _ _ 105 _ hg1,hge,hgm,?_,?_⟩⟩,⟨rfl,rfl,rfl,by simp,λk hk _=>?_⟩,.inr rfl⟩
 ·simp only[cr,aI,aY,bw,bu,hRs,hxl,hvl];omega
 ·have:=MT R.toList vs (xs.drop (i*2)) (p:=i*2) (q:=cap*2) hvl (by rw[bw,hxl]) az (by simp only[bu,hRs];omega);rw[hRt]at this;rw[show (cap+1)*2=cap*2+2 by omega,show (i+1)*2=i*2+2 by omega];simpa[hRt]using this
 rw[setRow_other _ w.heap.size k _ az];show ((w.alloc (.cells R 105)).drew.setRow w.heap.size _).heap[k]? =_;rw[setRow_other _ w.heap.size k _ az]
 first|exact heap_alloc_old w _ k hk|exact heap_alloc_old w _ hk
def NN(rows:List (List GV))(r:List GV)(i:Nat)(hi:i<=rows.length)(hl:rows.length<1000000):
  Hf pg 133 2 [.o 0,gi i,.o 1] [(0,.row 105 2 rows),(1,.row 105 2 [r])] λG σ n=>G=.o 2/\σ=[(2,.row 105 2 (rows.take i++[r]++rows.drop i)),(1,.row 105 2 [r])]/\n=3:=
 MA (p:=pg) (λ_ _=>au) P_ rows r i hi hl
end Go.Proofs.YtadildidlcbbkaaGreatDoor
